/- A part of the proof, no condition. -/
import Derived.Test.YtdpdkpfnfllipaaGreatDoorN20
set_option linter.unusedVariables false
set_option linter.unusedSimpArgs false
namespace Go.Proofs.YtdpdkpfnfllipaaGreatDoor
def h7V(a0 a1 a2 a3 a4:Int)(s t:Sl):List Value:=[.int .i64 a0,.int .i64 a1,.int .i64 a2,.int .i64 a3,.int .i64 a4,.slice s.base s.len s.cap,.slice t.base t.len t.cap]
theorem h7V_ok(a0 a1 a2 a3 a4:Int)(s t:Sl):∀ v∈h7V a0 a1 a2 a3 a4 s t,cellOk v=true:=by simp[h7V,cellOk]
section
variable{G:Gh}{h:Hp}
theorem Row.get7{b:Nat}{a0 a1 a2 a3 a4:Int}{s t:Sl}(r:Row h b (h7V a0 a1 a2 a3 a4 s t)){K:Int→Int→Int→Int→Int→Sl→Sl→Prop}(hK:K a0 a1 a2 a3 a4 s t) :
 ∃ c10:Int,∃ c11:Int,∃ c12:Int,∃ c13:Int,∃ c14:Int,∃ c15:Sl,∃ c16:Sl,hY h ⟨b,0,none⟩=some (.int .i64 c10)∧hY h ((⟨b,0,none⟩:Addr).add 1)=some (.int .i64 c11)∧hY h ((⟨b,0,none⟩:Addr).add 2)=some (.int .i64 c12)∧hY h ((⟨b,0,none⟩:Addr).add 3)=some (.int .i64 c13)∧hY h ((⟨b,0,none⟩:Addr).add 4)=some (.int .i64 c14)∧hY h ((⟨b,0,none⟩:Addr).add 5)=some (.slice c15.base c15.len c15.cap)∧hY h ((⟨b,0,none⟩:Addr).add 6)=some (.slice c16.base c16.len c16.cap)∧K c10 c11 c12 c13 c14 c15 c16:=
 ⟨_,_,_,_,_,s,t,r.get0 rfl,r.get rfl,r.get rfl,r.get rfl,r.get rfl,r.get rfl,r.get rfl,hK⟩
theorem ret7(ht:HT G h){la lr:Nat}{a0 a1 a2 a3 a4:Int}{s t:Sl}{l7:List Value}(ra:Row h la (h7V a0 a1 a2 a3 a4 s t))(kr:G.k lr=.one 30)(rr:Row h lr l7)(hl:l7.length=7){K:Int→Int→Int→Int→Int→Sl→Sl→Hp→Prop}
 (hK:∀ h',ToB lr G h G h'→To isLoc G h G h'→Row h' lr (h7V a0 a1 a2 a3 a4 s t)→K a0 a1 a2 a3 a4 s t h') :
 ∃ c10:Int,∃ c11:Int,∃ c12:Int,∃ c13:Int,∃ c14:Int,∃ c15:Sl,∃ c16:Sl,hY h ⟨la,0,none⟩=some (.int .i64 c10)∧hY h ((⟨la,0,none⟩:Addr).add 1)=some (.int .i64 c11)∧hY h ((⟨la,0,none⟩:Addr).add 2)=some (.int .i64 c12)∧hY h ((⟨la,0,none⟩:Addr).add 3)=some (.int .i64 c13)∧hY h ((⟨la,0,none⟩:Addr).add 4)=some (.int .i64 c14)∧hY h ((⟨la,0,none⟩:Addr).add 5)=some (.slice c15.base c15.len c15.cap)∧hY h ((⟨la,0,none⟩:Addr).add 6)=some (.slice c16.base c16.len c16.cap)∧
   stCells ⟨lr,0,none⟩ 0 [.int .i64 c10,.int .i64 c11,.int .i64 c12,.int .i64 c13,.int .i64 c14,.slice c15.base c15.len c15.cap,.slice c16.base c16.len c16.cap] h fun vh5=>
   ∃ x:Int,∃ x1:Int,∃ x2:Int,∃ x3:Int,∃ x4:Int,∃ x5:Sl,∃ x6:Sl,hY vh5 ⟨lr,0,none⟩=some (.int .i64 x)∧hY vh5 ((⟨lr,0,none⟩:Addr).add 1)=some (.int .i64 x1)∧hY vh5 ((⟨lr,0,none⟩:Addr).add 2)=some (.int .i64 x2)∧hY vh5 ((⟨lr,0,none⟩:Addr).add 3)=some (.int .i64 x3)∧hY vh5 ((⟨lr,0,none⟩:Addr).add 4)=some (.int .i64 x4)∧hY vh5 ((⟨lr,0,none⟩:Addr).add 5)=some (.slice x5.base x5.len x5.cap)∧hY vh5 ((⟨lr,0,none⟩:Addr).add 6)=some (.slice x6.base x6.len x6.cap)∧K x x1 x2 x3 x4 x5 x6 vh5:=
 ra.get7 (locPut (vs:=h7V a0 a1 a2 a3 a4 s t) ht kr rr (by rw[hl];rfl) (h7V_ok _ _ _ _ _ _ _) fun h' b y r=>r.get7 (K:=fun x x1 x2 x3 x4 x5 x6=>K x x1 x2 x3 x4 x5 x6 h') (hK h' b y r))
theorem ended_tail(ht:HT G h){lo lr:Nat}{a0 a1 a2 a3 a4:Int}{s t:Sl}{l7:List Value}(ko:G.k lo=.one 30)(ra:Row h lo (h7V a0 a1 a2 a3 a4 s t))(kr:G.k lr=.one 30)(rr:Row h lr l7)(hl:l7.length=7)(hne:lr≠lo){K:Int→Int→Int→Int→Int→Sl→Sl→Hp→Prop}
 (hK:∀ h',(∀ (A:Gh) (a:Hp),To (fun _=>False) A a G h→a.size≤lo→a.size≤lr→To (fun _=>False) A a G h')→K (if a0=1 then 4 else a0) a1 a2 a3 a4 s t h') :
 ∃ c9:Int,hY h ⟨lo,0,none⟩=some (.int .i64 c9)∧
 IfB (c9 ==(1:Int)) (StOk h ⟨lo,0,none⟩∧
  Lt (hset h ⟨lo,0,none⟩ (.int .i64 (4:Int))) fun vh4=>
  (∃ c0:Int,∃ c1:Int,∃ c2:Int,∃ c3:Int,∃ c4:Int,∃ c5:Sl,∃ c6:Sl,hY vh4 ⟨lo,0,none⟩=some (.int .i64 c0)∧hY vh4 ((⟨lo,0,none⟩:Addr).add 1)=some (.int .i64 c1)∧hY vh4 ((⟨lo,0,none⟩:Addr).add 2)=some (.int .i64 c2)∧hY vh4 ((⟨lo,0,none⟩:Addr).add 3)=some (.int .i64 c3)∧hY vh4 ((⟨lo,0,none⟩:Addr).add 4)=some (.int .i64 c4)∧hY vh4 ((⟨lo,0,none⟩:Addr).add 5)=some (.slice c5.base c5.len c5.cap)∧hY vh4 ((⟨lo,0,none⟩:Addr).add 6)=some (.slice c6.base c6.len c6.cap)∧
  stCells ⟨lr,0,none⟩ 0 [.int .i64 c0,.int .i64 c1,.int .i64 c2,.int .i64 c3,.int .i64 c4,.slice c5.base c5.len c5.cap,.slice c6.base c6.len c6.cap] vh4 fun vh5=>
  ∃ x0:Int,∃ x1:Int,∃ x2:Int,∃ x3:Int,∃ x4:Int,∃ x5:Sl,∃ x6:Sl,hY vh5 ⟨lr,0,none⟩=some (.int .i64 x0)∧hY vh5 ((⟨lr,0,none⟩:Addr).add 1)=some (.int .i64 x1)∧hY vh5 ((⟨lr,0,none⟩:Addr).add 2)=some (.int .i64 x2)∧hY vh5 ((⟨lr,0,none⟩:Addr).add 3)=some (.int .i64 x3)∧hY vh5 ((⟨lr,0,none⟩:Addr).add 4)=some (.int .i64 x4)∧hY vh5 ((⟨lr,0,none⟩:Addr).add 5)=some (.slice x5.base x5.len x5.cap)∧hY vh5 ((⟨lr,0,none⟩:Addr).add 6)=some (.slice x6.base x6.len x6.cap)∧K x0 x1 x2 x3 x4 x5 x6 vh5))
 (∃ d0:Int,∃ d1:Int,∃ d2:Int,∃ d3:Int,∃ d4:Int,∃ d5:Sl,∃ d6:Sl,hY h ⟨lo,0,none⟩=some (.int .i64 d0)∧hY h ((⟨lo,0,none⟩:Addr).add 1)=some (.int .i64 d1)∧hY h ((⟨lo,0,none⟩:Addr).add 2)=some (.int .i64 d2)∧hY h ((⟨lo,0,none⟩:Addr).add 3)=some (.int .i64 d3)∧hY h ((⟨lo,0,none⟩:Addr).add 4)=some (.int .i64 d4)∧hY h ((⟨lo,0,none⟩:Addr).add 5)=some (.slice d5.base d5.len d5.cap)∧hY h ((⟨lo,0,none⟩:Addr).add 6)=some (.slice d6.base d6.len d6.cap)∧
  stCells ⟨lr,0,none⟩ 0 [.int .i64 d0,.int .i64 d1,.int .i64 d2,.int .i64 d3,.int .i64 d4,.slice d5.base d5.len d5.cap,.slice d6.base d6.len d6.cap] h fun vh6=>
  ∃ y0:Int,∃ y1:Int,∃ y2:Int,∃ y3:Int,∃ y4:Int,∃ y5:Sl,∃ y6:Sl,hY vh6 ⟨lr,0,none⟩=some (.int .i64 y0)∧hY vh6 ((⟨lr,0,none⟩:Addr).add 1)=some (.int .i64 y1)∧hY vh6 ((⟨lr,0,none⟩:Addr).add 2)=some (.int .i64 y2)∧hY vh6 ((⟨lr,0,none⟩:Addr).add 3)=some (.int .i64 y3)∧hY vh6 ((⟨lr,0,none⟩:Addr).add 4)=some (.int .i64 y4)∧hY vh6 ((⟨lr,0,none⟩:Addr).add 5)=some (.slice y5.base y5.len y5.cap)∧hY vh6 ((⟨lr,0,none⟩:Addr).add 6)=some (.slice y6.base y6.len y6.cap)∧K y0 y1 y2 y3 y4 y5 y6 vh6):=by
 refine⟨_,ra.get0 rfl,IfB.eq (fun h1=>?_) fun h1=>?_⟩
 ·obtain⟨ok,b,y,r⟩:=locSet ht ko ra (i:=0) (by simp[h7V]) (.int .i64 (4:Int))
  rw[Addr.add_zero]at ok b y r
  have r:Row _ lo (h7V 4 a1 a2 a3 a4 s t):=r
  refine⟨ok,ret7 y.ht r kr (b.row rr hne) hl fun h' b2 y2 _=>?_⟩
  have:=hK h' fun A a q q1 q2=>b2.new (b.new q q1) q2
  rw[if_pos h1]at this
  exact this
 ·refine ret7 ht ra kr rr hl fun h' b2 y2 _=>?_
  have:=hK h' fun A a q q1 q2=>b2.new q q2
  rw[if_neg h1]at this
  exact this
end
section
variable{G:Gh}{h:Hp}{M N sc:Nat}{X:StD}{cl:List CSl}{bg:List BgD}{na base:Nat}{ev:Int}{db sb:Nat}{all:Sl}{bb:Nat→Nat}
def EndR(G:Gh)(h:Hp)(M:Nat)(tx:TxS)(r:Value)(h':Hp):Prop:=
 ∃ (G':Gh) (rs ps:Sl) (st g tm:Int),r=histV st g tm 0 0 rs ps∧To (fun _=>False) G h G' h'∧G'.W=G.W∧SlA G' (.reads 0) rs∧rs.len≤M∧SlP G' ps tx.P∧tx.P.length≤16∧st=if tx.state=1 then 4 else (tx.state:Int)
theorem dEnded_spec(t:HT G h)(x:SdIn G h M N sc X cl bg na ev db sb all bb)(hM:M≤1000000){i:Nat}{b:BgD}(hb:bg[i]? = some b){j:Nat}{tx:TxS}(hbj:b.h=j+1)(htx:X.D.txs[j]? = some tx):HC Tryz.prog 36 #[pv sc,pv (bb i)] h (EndR G h M tx):=by
 apply wc36
 unfold vc36
 intro h1
 obtain⟨G1,y1,w1,kr,rr⟩:=alcLoc t (h7V 0 0 0 0 0 Sl.nil Sl.nil) 49
 change To _ G h G1 h1 at y1
 change Row h1 _ _ at rr
 have s1:h1.size=h.size+1:=size_alc _ _ _
 rw[show nw h=(⟨h.size,0,none⟩:Addr) from rfl]
 clear_value h1
 have x1:=x.pure y1
 refine⟨_,rfl,_,x1.row.get rfl,_,rfl,_,x1.begH hb,?_,?_⟩
 ·refine(sHistory_spec y1.ht x1.st hM _).mono ?_
  rintro _ h2 ⟨G2,rs,ps,st,g,tm,P,rfl,y2,w2,ha,hl,hp,hP,_,hx⟩
  obtain⟨rfl,rfl⟩:=hx j tx htx (by rw[hbj])
  refine⟨_,_,_,_,_,rs,ps,rfl,y2.toExt,?_⟩
  intro h3
  obtain⟨G3,y3,w3,k3,r3⟩:=alcLoc y2.ht (h7V 0 0 0 0 0 Sl.nil Sl.nil) 49
  change To _ G2 h2 G3 h3 at y3
  change Row h3 _ _ at r3
  rw[show nw h2=(⟨h2.size,0,none⟩:Addr) from rfl]
  clear_value h3
  have y12:=y2.size
  refine⟨(y2.trans y3).toExt,locPut (vs:=h7V tx.state g tm 0 0 rs ps) y3.ht k3 r3 rfl (h7V_ok _ _ _ _ _ _ _) fun h4 b4 y4 r4=>?_⟩
  have kr4:=y3.kd (y2.kd kr (by simp)) (by simp)
  have rr4:=b4.row (y3.rowK (y2.rowK rr kr id) (y2.kd kr (by simp)) id) (by omega)
  refine ended_tail y4.ht k3 r4 kr4 rr4 rfl (by omega) fun h5 q=>?_
  have y04:=b4.new ((y1.trans y2).trans y3) (by omega)
  refine⟨G3,rs,ps,_,g,tm,rfl,q G h y04 (by omega) (Nat.le_refl _),w3.trans (w2.trans w1),ha.mono y3.le,hl,hp.mono y3.le,hP,?_⟩
  by_cases h1:tx.state=1
  ·rw[if_pos h1,if_pos (by omega)]
  ·rw[if_neg h1,if_neg (by omega)]
 ·intro h2
  obtain⟨G2,y2,w2,k2,r2⟩:=alcLoc y1.ht (h7V 0 0 0 0 0 Sl.nil Sl.nil) 49
  change To _ G1 h1 G2 h2 at y2
  change Row h2 _ _ at r2
  rw[show nw h1=(⟨h1.size,0,none⟩:Addr) from rfl]
  clear_value h2
  have x2:=x1.pure y2
  refine⟨y2.toExt,(sHistory_spec y2.ht x2.st hM _).mono ?_⟩
  rintro _ h3 ⟨G3,rs,ps,st,g,tm,P,rfl,y3,w3,ha,hl,hp,hP,_,hx⟩
  obtain⟨rfl,rfl⟩:=hx j tx htx (by rw[hbj])
  have k3:=y3.kd k2 (by simp)
  have r3:=y3.rowK r2 k2 id
  refine⟨_,_,_,_,_,rs,ps,rfl,(y2.trans y3).toExt,locPut (vs:=h7V tx.state g tm 0 0 rs ps) y3.ht k3 r3 rfl (h7V_ok _ _ _ _ _ _ _) fun h4 b4 y4 r4=>?_⟩
  have kr4:=y3.kd (y2.kd kr (by simp)) (by simp)
  have rr4:=b4.row (y3.rowK (y2.rowK rr kr id) (y2.kd kr (by simp)) id) (by omega)
  refine ended_tail y4.ht k3 r4 kr4 rr4 rfl (by omega) fun h5 q=>?_
  have y04:=b4.new ((y1.trans y2).trans y3) (by omega)
  refine⟨G3,rs,ps,_,g,tm,rfl,q G h y04 (by omega) (Nat.le_refl _),w3.trans (w2.trans w1),ha,hl,hp,hP,?_⟩
  by_cases h1:tx.state=1
  ·rw[if_pos h1,if_pos (by omega)]
  ·rw[if_neg h1,if_neg (by omega)]
end
section
variable{G A:Gh}{h0 h:Hp}
def Gh.join(G A:Gh)(n:Nat):Gh:=⟨fun b=>if b<n then G.k b else A.k b,fun b=>if b<n then G.n b else A.n b,A.W⟩
theorem join_old{n b:Nat}(hb:b<n):(G.join A n).k b=G.k b:=if_pos hb
theorem join_new{n b:Nat}(hb:¬ b<n):(G.join A n).k b=A.k b:=if_neg hb
theorem join_ht(t:HT G h0)(a:HT A h)(hz:∀ b,b<h0.size→A.k b=.any)(hs:h0.size≤h.size)(e:∀ b,b<h0.size→h[b]? = h0[b]?)(hw:∀ x l,G.W x l→A.W x l):HT (G.join A h0.size) h∧A.Le (G.join A h0.size)∧G.Le (G.join A h0.size):=by
 have le2:G.Le (G.join A h0.size):=⟨fun b hb=>join_old (t.dom b hb),fun b=>by
  show G.n b≤if b<h0.size then G.n b else A.n b
  split
  ·exact Nat.le_refl _
  ·rw[t.n0 b (t.fresh (by omega))];exact Nat.zero_le _,hw⟩
 have le1:A.Le (G.join A h0.size):=⟨fun b hb=>by
  by_cases hl:b<h0.size
  ·exact absurd (hz b hl) hb
  ·exact join_new hl,fun b=>by
  show A.n b≤if b<h0.size then G.n b else A.n b
  split
  ·rename_i hl;rw[a.n0 b (hz b hl)];exact Nat.zero_le _
  ·exact Nat.le_refl _,fun _ _ h=>h⟩
 refine⟨⟨fun b hb=>?_,fun b hb=>?_,fun b l hb=>?_,fun b L hb=>?_,fun b ak N hb=>?_⟩,le1,le2⟩
 ·by_cases hl:b<h0.size
  ·omega
  ·rw[join_new hl]at hb;exact a.dom b hb
 ·show(if b<h0.size then G.n b else A.n b)=0
  by_cases hl:b<h0.size
  ·rw[join_old hl]at hb;rw[if_pos hl];exact t.n0 b hb
  ·rw[join_new hl]at hb;rw[if_neg hl];exact a.n0 b hb
 ·by_cases hl:b<h0.size
  ·rw[join_old hl]at hb;rw[e b hl];exact t.bytes b l hb
  ·rw[join_new hl]at hb;exact a.bytes b l hb
 ·by_cases hl:b<h0.size
  ·rw[join_old hl]at hb;rw[e b hl]
   obtain⟨q,r⟩:=t.puts b L hb
   exact⟨q,fun x hx=>(r x hx).mono le2⟩
  ·rw[join_new hl]at hb
   obtain⟨q,r⟩:=a.puts b L hb
   exact⟨q,fun x hx=>(r x hx).mono le1⟩
 ·show(if b<h0.size then G.n b else A.n b)≤N∧_
  by_cases hl:b<h0.size
  ·rw[join_old hl]at hb
   obtain⟨q,c,ty,r1,r2,r3⟩:=t.arr b ak N hb
   rw[if_pos hl]
   exact⟨q,c,ty,by rw[e b hl];exact r1,r2,fun i hi=>okE_mono le2 (r3 i (by have:(if b<h0.size then G.n b else A.n b)=G.n b:=if_pos hl;rw[← this];exact hi))⟩
  ·rw[join_new hl]at hb
   obtain⟨q,c,ty,r1,r2,r3⟩:=a.arr b ak N hb
   rw[if_neg hl]
   exact⟨q,c,ty,r1,r2,fun i hi=>okE_mono le1 (r3 i (by have:(if b<h0.size then G.n b else A.n b)=A.n b:=if_neg hl;rw[← this];exact hi))⟩
theorem MgrIn.le{M mb:Nat}{V:Prop}{D:MgrD}{em bk am:Nat}{q:Sl}{tb:Nat→Nat}{A B:Gh}{h:Hp}(x:MgrIn A h M mb V D em bk am q tb)(le:A.Le B):MgrIn B h M mb V D em bk am q tb:=by
 obtain⟨vm,vl,vc,la,r,k,e,w,v,hv⟩:=x.ext.map
 obtain⟨tm,tl,tc,r2,k2,m2,q2⟩:=x.book.map
 refine⟨le.kk x.kd (by simp),x.row,⟨le.kk x.ext.kd (by simp),vm,vl,vc,la,r,le.kk k (by simp),e,w,v.mono le (Nat.le_refl _),hv⟩,⟨le.kk x.book.kd (by simp),tm,tl,tc,r2,le.kk k2 (by simp),m2,q2⟩,le.kk x.kam (by simp),x.all,⟨x.que.own,fun a ha=>le.kk (x.que.kd a ha) (by simp)⟩,fun j t ht=>?_⟩
 have xt:=x.tx j t ht
 obtain⟨bb,vb,r3,b,v3⟩:=xt.row
 obtain⟨db,dl,dc,r4,k4,e4,w4,d4⟩:=b.map
 obtain⟨sb,rs,r5,a5,l5,s5⟩:=v3.row
 obtain⟨es,r6,a6,l6⟩:=s5.row
 exact⟨le.kk xt.kd (by simp),bb,vb,r3,⟨le.kk b.kd (by simp),b.ok,b.len,db,dl,dc,r4,le.kk k4 (by simp),e4,w4,d4.mono le⟩,⟨le.kk v3.kd (by simp),sb,rs,r5,a5.mono le,l5,⟨le.kk s5.kd (by simp),es,r6,a6.mono le,l6⟩⟩⟩
theorem StIn.le{M sb:Nat}{X:StD}{db lb mb:Nat}{ts:Sl}{em bk am:Nat}{q:Sl}{tb:Nat→Nat}{A B:Gh}{h:Hp}(x:StIn A h M sb X db lb mb ts em bk am q tb)(le:A.Le B)(hB:HT B h)(hn:∀ b,sb≤b→B.k b=A.k b):StIn B h M sb X db lb mb ts em bk am q tb:=by
 have same:∀ c,devF A c≠0→devF B c=devF A c:=fun c hc=>by
  unfold devF at hc ⊢
  rw[le.k c fun e=>hc (by rw[e];rfl)]
 refine⟨le.kk x.kd (by simp),x.row,?_,le.kk x.kl (by simp),⟨?_,x.sl.row,x.sl.text,fun a ha=>?_⟩,fun a ha=>?_,x.mgr.le le,x.tlo⟩
 ·obtain⟨w,zs,zb,d⟩:=x.dev
  exact⟨w,zs,zb,d.move same (fun b hb=>⟨Nat.zero_le _,hB.dom b fun e=>hb (by unfold devF;rw[e];rfl)⟩) fun _ _=>rfl⟩
 ·unfold devF;rw[le.kk x.kl (by simp)];rfl
 ·obtain⟨b1,b2,b3⟩:=x.sl.tb a ha
  refine⟨?_,b2,b3⟩
  have:=x.tlo a ha
  unfold devF at b1 ⊢
  rw[hn _ (by omega)];exact b1
 ·obtain⟨b1,b2⟩:=x.tst a ha
  have:=x.tlo a ha
  exact⟨b1,by rw[hn _ (by omega)];exact b2⟩
theorem mount_new(t:HT G h){F:Nat→Nat}{h2:Hp}{db:Nat}{d:Dv}(e:Ext h h2)(x:DevAt h.size F h2 db d){N inn count:Nat}{tx:List UInt8}(mt:MtOk G.W N inn count tx d)(hN:192≤N)(hN2:N≤900000) :
 HC Tryz.prog 35 #[dp db] h2 fun r h'=>∃ (sb:Nat) (G':Gh) (X':StD) (last:Int),r=.tuple #[pv sb,.int .i64 0]∧To (fun _=>False) G h G' h'∧G'.W=G.W∧StAt G' h' 258 sb db X'∧SrOk G.W (N+1) X'∧Live X'.dv∧X'.D=⟨[],[],0,0,last,last,last,false⟩:=by
 let Gz:Gh:=⟨fun _=>.any,fun _=>0,G.W⟩
 have tz:HT Gz h:=⟨fun b hb=>absurd rfl hb,fun _ _=>rfl,fun b l hb=>(by cases hb),fun b L hb=>(by cases hb),fun b a N hb=>(by cases hb)⟩
 obtain⟨G2,y2,w2,dv2⟩:=newDev tz e x
 have w2':G2.W=G.W:=w2
 refine(sMount_spec y2.ht dv2 (by rw[w2'];exact mt) hN hN2).mono ?_
 rintro _ h3 ⟨sb,G3,X,last,rfl,y3,w3,s3,o3,l3,hD,_⟩
 have y13:To sSt Gz h G3 h3:=(y2.mono fun _ h=>h.elim).trans y3
 have hz:∀ b,b<h.size→G3.k b=.any:=fun b hb=>y13.old b hb
 have fr:∀ b,b<h.size→h3[b]? = h[b]?:=fun b hb=>y13.fr b hb fun hh=>hh.1
 have hW3:G3.W=G.W:=w3.trans w2'
 obtain⟨tj,le1,le2⟩:=join_ht t y13.ht hz y13.size fr (fun a l h=>by rw[hW3];exact h)
 obtain⟨lb,mb,ts,em,bk,am,q,tb,si⟩:=s3
 have hsb:h.size≤sb:=by
  rcases Nat.lt_or_ge sb h.size with hl | hl
  ·have:=si.kd;rw[hz sb hl]at this;cases this
  ·exact hl
 refine⟨sb,G.join G3 h.size,X,last,rfl,⟨le2,fun b hb=>join_old hb,y13.size,fun b hb _=>fr b hb,tj⟩,hW3,⟨lb,mb,ts,em,bk,am,q,tb,si.le le1 tj fun b hb=>join_new (by omega)⟩,by rw[w2']at o3;exact o3,l3,hD⟩
end
section
variable{G:Gh}{h:Hp}{M N sc:Nat}{X:StD}{cl:List CSl}{bg:List BgD}{na base:Nat}{ev:Int}{db sb:Nat}{all:Sl}{bb:Nat→Nat}
theorem Row.part{b:Nat}{l:List Value}(x:Row h b l){o:Nat}{vs:List Value}(hl:o+vs.length≤l.length)(hok:∀ v∈vs,cellOk v=true){K:Hp→Prop}
 (hK:∀ h',Row h' b (l.take o++vs++l.drop (o+vs.length))→h'.size=h.size→(∀ k,k≠b→h'[k]? = h[k]?)→K h'):stCells ((⟨b,0,none⟩:Addr).add o) 0 vs h K:=by
 obtain⟨t,ht⟩:=x
 rw[add_none,Nat.zero_add]
 refine stCells_row vs o 0 h _ ht (by simpa using hl) hok ?_
 intro h' c' h1 h2 h3 h4 h5
 refine hK h' ⟨t,?_⟩ h2 h3
 rw[h1]
 congr 2
 apply Array.ext_getElem?
 intro j
 rw[h5 j]
 simp only[List.getElem?_toArray,Nat.add_zero]
 rcases Nat.lt_or_ge j o with hj | hj
 ·rw[if_neg (by omega),List.append_assoc,List.getElem?_append_left (by rw[List.length_take];omega),List.getElem?_take,if_pos hj]
 ·rcases Nat.lt_or_ge j (o+vs.length) with hj2 | hj2
  ·rw[if_pos (by omega),List.append_assoc,List.getElem?_append_right (by rw[List.length_take];omega),List.length_take,List.getElem?_append_left (by omega)]
   congr 1;omega
  ·rw[if_neg (by omega),List.getElem?_append_right (by rw[List.length_append,List.length_take];omega),List.length_append,List.length_take,List.getElem?_drop]
   congr 1;omega
theorem SdIn.putEnd(t:HT G h)(x:SdIn G h M N sc X cl bg na ev db sb all bb){i:Nat}{b:BgD}(hb:bg[i]? = some b){st g tm f tt:Int}{rs ps:Sl}{P:List PutD}(ha:SlA G (.reads 0) rs)(hl:rs.len≤1000000)(hp:SlP G ps P)(hP:PutsB P){K:Hp→Prop}
 (hK:∀ h',StOk h' ⟨bb i,0,none⟩→To (fun q=>q=.beg i) G h G (hset h' ⟨bb i,0,none⟩ (.int .i64 (0:Int)))→SdIn G (hset h' ⟨bb i,0,none⟩ (.int .i64 (0:Int))) M N sc X cl (bg.set i ⟨0,st,P,b.fr,b.to_⟩) na ev db sb all bb→K h') :
 stCells ((⟨bb i,0,none⟩:Addr).add 3) 0 [.int .i64 st,.int .i64 g,.int .i64 tm,.int .i64 f,.int .i64 tt,.slice rs.base rs.len rs.cap,.slice ps.base ps.len ps.cap] h K:=by
 have xb:=x.beg i b hb
 obtain⟨g0,tm0,f0,tt0,rs0,ps0,r,_⟩:=xb.row
 refine r.part (o:=3) (by simp) (by simp[cellOk]) fun h' r' s' o'=>?_
 have r':Row h' (bb i) [.int .i64 (b.h:Int),.int .i64 b.fr,.int .i64 b.to_,.int .i64 st,.int .i64 g,.int .i64 tm,.int .i64 f,.int .i64 tt,.slice rs.base rs.len rs.cap,.slice ps.base ps.len ps.cap]:=r'
 have b1:ToB (bb i) G h G h':=t.toB (by rw[xb.kd];exact fun h=>h) (by omega) fun c _ hc=>o' c hc
 obtain⟨ok,b2,_,r2⟩:StOk h' ⟨bb i,0,none⟩∧ToB (bb i) G h' G (hset h' ⟨bb i,0,none⟩ (.int .i64 (0:Int)))∧True∧Row (hset h' ⟨bb i,0,none⟩ (.int .i64 (0:Int))) (bb i) [.int .i64 (0:Int),.int .i64 b.fr,.int .i64 b.to_,.int .i64 st,.int .i64 g,.int .i64 tm,.int .i64 f,.int .i64 tt,.slice rs.base rs.len rs.cap,.slice ps.base ps.len ps.cap]:=by
  obtain⟨ok,b2,r2⟩:=kset b1.ht xb.kd (fun h=>h) r' (i:=0) (by simp) (.int .i64 (0:Int))
  rw[Addr.add_zero]at ok b2 r2
  exact⟨ok,b2,trivial,r2⟩
 have y:To (fun q=>q=.beg i) G h G _:=(b1.trans b2).to (by rw[xb.kd];exact⟨trivial,rfl⟩)
 have nst:∀ q,sStO q∨sMgr q →¬ q=.beg i:=fun q hq e=>by subst e;exact sSc_not _ hq trivial
 refine hK h' ok y ⟨x.kd,y.rowK x.row x.kd (by simp),x.len,x.st.to y (Nat.le_refl _) nst,fun k c hc=>(x.cls k c hc).to y (Nat.le_refl _) (by simp) (fun _ _=>rfl) (by simp),x.all.to y (by simp),fun j d hd=>?_⟩
 rw[List.getElem?_set]at hd
 by_cases e:i=j
 ·subst e
  rw[if_pos rfl]at hd
  split at hd
  ·injection hd with hd
   subst hd
   exact⟨xb.kd,g,tm,f,tt,rs,ps,r2,ha,hl,hp,hP⟩
  ·cases hd
 ·rw[if_neg e]at hd
  exact(x.beg j d hd).to y (by simp;exact fun h=>e h.symm)
def endB(X:StD)(b:BgD):BgD:=if b.h=0 then b else ⟨0,if (X.D.at_ b.h).state=1 then 4 else ((X.D.at_ b.h).state:Int),(X.D.at_ b.h).P,b.fr,b.to_⟩
theorem endB_h(X:StD)(b:BgD):(endB X b).h=0:=by
 unfold endB
 split
 ·assumption
 ·rfl
def endN(X:StD)(bg:List BgD)(j:Nat):List BgD:=(bg.take j).map (endB X)++bg.drop j
theorem endN_get{X:StD}{bg:List BgD}{j:Nat}(hj:j<bg.length):(endN X bg j)[j]? = some bg[j]:=by
 unfold endN
 rw[List.getElem?_append_right (by simp;omega)]
 simp[Nat.min_eq_left (Nat.le_of_lt hj),hj]
theorem endN_succ{X:StD}{bg:List BgD}{j:Nat}(hj:j<bg.length):(endN X bg j).set j (endB X bg[j])=endN X bg (j+1):=by
 unfold endN
 rw[List.set_append_right _ _ (by simp;omega),List.drop_eq_getElem_cons hj,show j-((bg.take j).map (endB X)).length=0 by simp;omega,List.set_cons_zero,List.take_succ_eq_append_getElem hj,List.map_append,List.append_assoc]
 rfl
theorem endN_all(X:StD)(bg:List BgD):endN X bg bg.length=bg.map (endB X):=by simp[endN]
theorem WkOk.ended{W:Int→List UInt8→Prop}{X':StD}(o:WkOk W N X bg base)(s:SrOk W (N+1) X')(ht:X'.D.txs = []):SdOk W (N+1) X' (bg.map (endB X)) bg.length:=by
 refine⟨s,by rw[ht];simp,by have:=o.bgN;simp;omega,fun i d hd=>?_,fun a l hw=>?_⟩
 ·have hi:=(List.getElem?_eq_some_iff.1 hd).1
  rw[List.getElem?_map]at hd
  obtain⟨b,_,rfl⟩:=Option.map_eq_some_iff.1 hd
  rw[endB_h,if_pos (by simpa using hi)]
 ·rcases o.link a l hw with ⟨i,b,h1,h2,h3,h4⟩ | ⟨j,t,h1,h2,h3⟩
  ·refine .inl ⟨i,endB X b,by rw[List.getElem?_map,h1];rfl,(List.getElem?_eq_some_iff.1 h1).1,?_⟩
   have h0:=o.hs i b h1
   rw[if_pos h2]at h0
   unfold endB
   rw[if_pos h0]
   exact⟨h3,h4⟩
  ·have hj:=(List.getElem?_eq_some_iff.1 h1).1
   have hl:=o.len
   have hb:bg[base+j]? = some (bg[base+j]'(by omega)):=List.getElem?_eq_getElem _
   refine .inl ⟨base+j,endB X (bg[base+j]'(by omega)),by rw[List.getElem?_map,hb];rfl,by omega,?_⟩
   have h0:=o.hs _ _ hb
   rw[if_neg (by omega)]at h0
   have h0:(bg[base+j]'(by omega)).h=j+1:=by omega
   unfold endB
   rw[if_neg (by omega),h0,MgrD.at_get h1]
   refine⟨?_,h3⟩
   show(if t.state=1 then (4:Int) else (t.state:Int))=2∨(if t.state=1 then (4:Int) else (t.state:Int))=3
   rcases h2 with h2 | h2
   ·rw[if_neg (by omega)];omega
   ·rw[if_neg (by omega)];omega
end
theorem PutsOk.b{P:List PutD}(o:PutsOk P)(hl:P.length≤16):PutsB P:=⟨by omega,fun p hp=>by have:=(o.2 p hp).2.2;omega⟩
def IntsR(B:Nat→Prop)(h:Hp)(s:Sl)(l:List Int):Prop:=Rd 1 h s (l.map (Value.int .i64))∧∀ a,s.base=some a→s.len≠0→B a.block
theorem IntsR.to{S:Kd→Prop}{A B:Gh}{a b:Hp}(x:To S A a B b){s:Sl}{l:List Int}(p:IntsR (Stab A a) a s l):IntsR (Stab B b) b s l:=
 ⟨p.1.mv p.2 fun k hk=>(x.stab hk).1,fun q hq hn=>(x.stab (p.2 q hq hn)).2⟩
section
variable{G:Gh}{h:Hp}{M N sc:Nat}{X:StD}{cl:List CSl}{bg:List BgD}{na base:Nat}{ev:Int}{db sb:Nat}{all:Sl}{bb:Nat→Nat}
def sCr(k:Kd):Prop:=k=.one 1 ∨∃ i,k=.beg i
theorem sCr_not:∀ q,sStO q∨sMgr q →¬ sCr q:=fun q hq hc=>by
 rcases hc with rfl | ⟨i,rfl⟩
 ·exact sSc_not _ hq (by simp[sSc])
 ·exact sSc_not _ hq trivial
theorem WkOk.tx{W:Int→List UInt8→Prop}(o:WkOk W N X bg base){i:Nat}{b:BgD}(hb:bg[i]? = some b)(h0:b.h≠0):∃ (j:Nat) (t:TxS),b.h=j+1∧X.D.txs[j]? = some t:=by
 have h1:=o.hs i b hb
 have hi:=(List.getElem?_eq_some_iff.1 hb).1
 have hl:=o.len
 by_cases hbse:i<base
 ·rw[if_pos hbse]at h1;exact absurd h1 h0
 ·rw[if_neg hbse]at h1
  exact⟨i-base,X.D.txs[i-base]'(by omega),by omega,List.getElem?_eq_getElem _⟩
theorem SdIn.store(t:HT G h)(x:SdIn G h M N sc X cl bg na ev db sb all bb){M' db' sb':Nat}{X':StD}(s:StAt G h M' sb' db' X'){K:Hp→Prop}
 (hK:∀ h',To (fun q=>q=.one 1) G h G h'→SdIn G h' M' N sc X' cl bg na ev db' sb' all bb→K h'):StOk h (⟨sc,0,none⟩:Addr)∧Lt (hset h ⟨sc,0,none⟩ (dp db')) fun h1=>StOk h1 ((⟨sc,0,none⟩:Addr).add 1)∧Lt (hset h1 ((⟨sc,0,none⟩:Addr).add 1) (pv sb')) K:=by
 obtain⟨ok1,b1,r1⟩:=kset t x.kd (fun h=>h) x.row (i:=0) (by rw[scV_len x.len];omega) (dp db')
 rw[Addr.add_zero]at ok1 b1 r1
 obtain⟨ok2,b2,r2⟩:=kset b1.ht x.kd (fun h=>h) r1 (i:=1) (by rw[List.length_set,scV_len x.len];omega) (pv sb')
 have y:To (fun q=>q=.one 1) G h G _:=(b1.trans b2).to (by rw[x.kd];exact⟨trivial,rfl⟩)
 have nst1:∀ q,sStO q∨sMgr q →¬ q=.one 1:=fun q hq e=>by subst e;exact sSc_not _ hq (by simp[sSc])
 refine⟨ok1,ok2,hK _ y ⟨x.kd,r2,x.len,s.to y (Nat.le_refl _) nst1,fun k c hc=>(x.cls k c hc).to y (Nat.le_refl _) (Nat.le_refl _) (fun _ _=>rfl) (by simp;omega),x.all.to y (by simp),fun i b hb=>(x.beg i b hb).to y (by simp)⟩⟩
theorem dCrash_spec(t:HT G h)(x:SdIn G h M N sc X cl bg bg.length ev db sb all bb)(o:WkOk G.W N X bg base)(hN:192≤N)(hN2:N≤900000)(hM:M≤1000000){s u:Sl}{picks torn:List Int}(rs:IntsR (Stab G h) h s picks)(ru:IntsR (Stab G h) h u torn) :
 HC Tryz.prog 11 #[pv sc,.slice s.base s.len s.cap,.slice u.base u.len u.cap] h fun r h'=>∃ (G':Gh) (X':StD) (cl':List CSl) (db' sb':Nat),r=.int .i64 (0:Int)∧To sCr G h G' h'∧G'.W=G.W∧SdIn G' h' 258 (N+1) sc X' cl' (bg.map (endB X)) (bg.map (endB X)).length (iAdd .i64 ev 1) db' sb' all bb∧SdOk G'.W (N+1) X' (bg.map (endB X)) (bg.map (endB X)).length∧Live X'.dv:=by
 apply wc11
 unfold vc11
 refine(dGone_spec x).mono ?_
 rintro _ _ ⟨rfl,hh⟩
 obtain rfl:=hh.symm
 obtain⟨hc,ok,y1,x1⟩:=x.evt t (iAdd .i64 ev 1)
 refine⟨_,rfl,.no rfl ⟨_,rfl,_,hc,_,rfl,ok,_,rfl,?_⟩⟩
 have rs1:=rs.to y1
 have ru1:=ru.to y1
 generalize hset h ((⟨sc,0,none⟩:Addr).add 35) (.int .i64 (iAdd .i64 ev 1))=h1 at *
 have y1':To sCr G h G h1:=y1.mono fun _ h=>.inl h
 obtain⟨lb,mb,ts,em,bk,am,q,tb,si⟩:=x1.st
 refine⟨_,x1.row.get0 rfl,(Crash_spec si.dev (by simpa using rs1.1.len) rs1.1.rd (by simpa using ru1.1.len) ru1.1.rd).mono ?_⟩
 rintro _ h2 ⟨e2,F,db',rfl,dv2⟩
 refine⟨_,rfl,(mount_new y1.ht e2 dv2 (o.cr.crash picks torn) hN hN2).mono ?_⟩
 rintro _ h3 ⟨sb',G3,X',last,rfl,y3,w3,s3,o3,l3,hD3⟩
 have x3:=x1.pure y3
 have hall:all.len=bg.length:=by have:=x3.all.own.len;simp at this;omega
 refine⟨_,_,rfl,.no rfl ⟨_,rfl,_,x3.row.get (scV_all x3.len).1,?_⟩⟩
 have y03:To sCr G h G3 h3:=y1'.trans (y3.mono fun _ h=>h.elim)
 refine⟨fun v n h'=>∃ (j:Nat) (G':Gh),v=j∧n+j=bg.length∧To sCr G h G' h'∧G'.W=G.W∧SdIn G' h' M N sc X cl (endN X bg j) bg.length (iAdd .i64 ev 1) db sb all bb∧StAt G' h' 258 sb' db' X',bg.length,
  ⟨0,G3,rfl,rfl,y03,w3,by simpa [endN] using x3,s3⟩,?_⟩
 rintro _ _ n4 h4 ⟨j,G4,rfl,hn4,y4,w4,x4,s4⟩
 refine IfB.dec (fun hlt=>?_) fun hge=>?_
 ·have hj:j<bg.length:=by omega
  have hbj:=endN_get (X:=X) hj
  have hb0:bg[j]? = some bg[j]:=List.getElem?_eq_getElem hj
  refine ix1 x4.all.own.rd (by simpa using hall.symm) j rfl (by simpa using hj) fun a _ hY=>⟨_,by simpa [pv] using hY,_,rfl,_,x4.begH hbj,IfB.dec (fun hpos=>?_) fun hz=>?_⟩
  ·have hnz:bg[j].h≠0:=by omega
   obtain⟨i,tx,hi,htx⟩:=o.tx hb0 hnz
   refine(dEnded_spec y4.ht x4 hM hbj hi htx).mono ?_
   rintro _ h5 ⟨G5,rs5,ps5,st,g,tm,rfl,y5,w5,ha5,hl5,hp5,hP5,rfl⟩
   have x5:=x4.pure y5
   have pB:PutsB tx.P:=by
    obtain⟨_,_,_,_,_,_,_,_,si⟩:=x4.st
    exact(si.mgr.plen i tx htx).2.b (si.mgr.plen i tx htx).1
   refine⟨_,_,_,_,_,rs5,ps5,rfl,_,rfl,x5.putEnd y5.ht hbj ha5 (by omega) hp5 pB fun h6 ok6 y6 x6=>⟨_,rfl,ok6,n4-1,by omega,j+1,G5,by rw[iAdd64 (by have:=o.bgN;omega)];push_cast;rfl,by omega,?_,w5.trans w4,?_,?_⟩⟩
   ·exact(y4.trans (y5.mono fun _ h=>h.elim)).trans (y6.mono fun _ h=>.inr ⟨_,h⟩)
   ·have e:(⟨0,if tx.state=1 then 4 else (tx.state:Int),tx.P,bg[j].fr,bg[j].to_⟩:BgD)=endB X bg[j]:=by
     unfold endB
     rw[if_neg hnz,hi,MgrD.at_get htx]
    rw[e,endN_succ hj]at x6
    exact x6
   ·exact(s4.to y5 (Nat.le_refl _) fun _ _ h=>h).to y6 (Nat.le_refl _) fun q hq e=>sCr_not q hq (.inr ⟨_,e⟩)
  ·have hz:bg[j].h=0:=by omega
   refine⟨n4-1,by omega,j+1,G4,by rw[iAdd64 (by have:=o.bgN;omega)];push_cast;rfl,by omega,y4,w4,?_,s4⟩
   have e:endB X bg[j]=bg[j]:=if_pos hz
   rw[← endN_succ hj,e,set_same hbj]
   exact x4
 ·obtain rfl:j=bg.length:=by omega
  rw[endN_all]at x4
  refine⟨fun v n h'=>∃ (j:Nat) (cl':List CSl),v=j∧n+j=8∧To sCr G h G4 h'∧SdIn G4 h' M N sc X cl' (bg.map (endB X)) bg.length (iAdd .i64 ev 1) db sb all bb∧StAt G4 h' 258 sb' db' X',8,⟨0,cl,rfl,rfl,y4,x4,s4⟩,?_⟩
  rintro _ _ n5 h5 ⟨j,cl5,rfl,hn5,y5,x5,s5⟩
  refine IfB.dec (fun hlt=>?_) fun hge=>?_
  ·have hj:j<8:=by omega
   have hl5:=x5.len
   have hcj:cl5[j]? = some (cl5[j]'(by omega)):=List.getElem?_eq_getElem _
   generalize cl5[j]'(by omega)=c at hcj
   have eA:(((⟨sc,0,none⟩:Addr).add 2).add ((j:Int).toNat*4))=clA sc j:=by rw[Int.toNat_natCast,add_add,add_none];unfold clA;simp
   have ck:=x5.cls j c hcj
   refine⟨_,rfl,?_⟩
   rw[eA]
   refine⟨by omega,by omega,_,rfl,_,x5.cell hcj (j:=3) (by omega) rfl,IfB.intro (fun ha=>?_) fun ha=>?_⟩
   ·have hask:=ck.asked ha
    have hcut:ClOk G4 h5 N j { c with ops:=cutSl c.ops (1:Int) (c.ops.len:Int) (c.ops.cap:Int) 5,asked:=false } (bg.map (endB X)).length bb:=by
     have hl:(cutSl c.ops (1:Int) (c.ops.len:Int) (c.ops.cap:Int) 5).len=c.ops.len-1:=cut_len (lo:=1)
     refine⟨ck.ops.cut (lo:=1) (hi:=c.ops.len) (m:=c.ops.cap) (by omega) (Nat.le_refl _) (Nat.le_refl _) ck.ops.1,?_,fun h=>(by cases h),ck.beg,ck.L,ck.ans,ck.ansN,ck.LN⟩
     show(cutSl c.ops (1:Int) (c.ops.len:Int) (c.ops.cap:Int) 5).len≤200
     rw[hl];have:=ck.len;omega
    obtain⟨ok8,ok9,y9,x9⟩:=x5.cset2 y5.ht (j1:=0) (j2:=3) (v1 := .slice (cutSl c.ops (1:Int) (c.ops.len:Int) (c.ops.cap:Int) 5).base (cutSl c.ops (1:Int) (c.ops.len:Int) (c.ops.cap:Int) 5).len (cutSl c.ops (1:Int) (c.ops.len:Int) (c.ops.cap:Int) 5).cap) (v2 := .bool false) (c1:={ c with ops:=cutSl c.ops (1:Int) (c.ops.len:Int) (c.ops.cap:Int) 5 }) hcj (by omega) (by omega) rfl rfl hcut
    rw[Addr.add_zero]at ok8 ok9 y9 x9
    refine⟨_,rfl,c.ops,x5.cell0 hcj,by omega,by omega,by have:=ck.ops.1;omega,by omega,_,rfl,ok8,_,rfl,ok9,n5-1,by omega,j+1,_,by rw[iAdd64 (by omega)];push_cast;rfl,by omega,y5.trans (y9.mono fun _ h=>.inl h),x9,s5.to y9 (Nat.le_refl _) fun q hq e=>sCr_not q hq (.inl e)⟩
   ·exact⟨n5-1,by omega,j+1,cl5,by rw[iAdd64 (by omega)];push_cast;rfl,by omega,y5,x5,s5⟩
  ·obtain⟨ok6,ok7,k⟩:=x5.store y5.ht s5 (K:=fun h'=>To sCr G h G4 h'∧SdIn G4 h' 258 N sc X' cl5 (bg.map (endB X)) bg.length (iAdd .i64 ev 1) db' sb' all bb) fun h' y x=>⟨y5.trans (y.mono fun _ h=>.inl h),x⟩
   refine⟨_,rfl,ok6,_,rfl,ok7,G4,X',cl5,db',sb',rfl,k.1,w4,?_,?_,l3⟩
   ·rw[List.length_map];exact k.2.moreN (Nat.le_succ _)
   ·rw[w4,List.length_map]
    exact o.ended o3 (by rw[hD3])
end
theorem rClone_spec{h:Hp}{s:Sl}{l:List Value}(r:Rd 3 h s l)(hok:∀ v∈l,cellOk v=true)(hmax:s.len≤1000000):HC Tryz.prog 78 #[.slice s.base s.len s.cap] h fun r h'=>∃ t:Sl,r=.slice t.base t.len t.cap∧Own h.size 3 h' t l∧t.len=s.len∧Ext h h':=by
 apply wc78
 unfold vc78
 have hl:=r.len
 refine IfB.nilp (fun hn=>?_) (fun a ha=>?_)
 ·have hl0:l = []:=by
   cases l with
   | nil=>rfl
   | cons v q=>
     exfalso
     obtain⟨a,ha,_⟩:=r.rd 0 v rfl
     rw[hn]at ha;cases ha
  subst hl0
  exact⟨Sl.nil,rfl,Own.nil _ _ _,by simp at hl;simp[Sl.nil];omega,.refl _⟩
 ·have o0:Own h.size 3 (alc h [] 51) ⟨some (nw h),0,0⟩ []:=Own.alc h [] 51 0 3 rfl
  refine AppC_own (news:=l) rfl o0 (by rw[size_alc];omega) hl (r.ext (alc_ext _ _ _)).rd hok (by simp only;omega) (by simp only;omega) fun t h1 o1 l1 k1 _=>?_
  exact⟨t,rfl,by simpa using o1,by rw[l1];simp only;omega,(((alc_ext h [] 51).toKeep).trans k1).ext⟩
theorem chunk_set(l:List Value)(v:Value){i j c:Nat}(hc:c<3):((l.set (j*3+c) v).drop (i*3)).take 3=if i=j then ((l.drop (i*3)).take 3).set c v else (l.drop (i*3)).take 3:=by
 apply List.ext_getElem?
 intro m
 by_cases hm:m<3
 ·split
  ·rename_i e;subst e
   rw[List.getElem?_take,if_pos hm,List.getElem?_drop,List.getElem?_set,List.getElem?_set]
   by_cases e2:c=m
   ·subst e2
    rw[if_pos rfl,if_pos rfl]
    simp only[List.length_take,List.length_drop]
    by_cases e3:i*3+c<l.length
    ·rw[if_pos e3,if_pos (by omega)]
    ·rw[if_neg e3,if_neg (by omega)]
   ·rw[if_neg (by omega),if_neg e2,List.getElem?_take,if_pos hm,List.getElem?_drop]
  ·rw[List.getElem?_take,if_pos hm,List.getElem?_drop,List.getElem?_set,if_neg (by omega),List.getElem?_take,if_pos hm,List.getElem?_drop]
 ·rw[List.getElem?_eq_none (by simp;omega),List.getElem?_eq_none]
  split
  ·rw[List.length_set,List.length_take];omega
  ·rw[List.length_take];omega
theorem chunk_get{l:List Value}{i m:Nat}{v:Value}(h:((l.drop (i*3)).take 3)[m]? = some v):l[i*3+m]? = some v:=by
 rw[List.getElem?_take]at h
 split at h
 ·rwa[List.getElem?_drop]at h
 ·cases h
section
variable{G:Gh}{h:Hp}
theorem SlP.all(t:HT G h){s:Sl}{P:List PutD}(x:SlP G s P):∃ L:List ((Int × Sl) × List UInt8),P=L.map (fun x=>(x.1.1,x.2))∧Rd 2 h s (c2 (L.map (·.1)))∧∀ x∈L,SlB G x.1.2 x.2:=by
 obtain⟨h1,h2,rfl | ⟨b,L,h3,h4,rfl⟩⟩:=x
 ·exact⟨[],rfl,⟨by simp[h1,c2],h2,RdC.nil _ _⟩,fun x hx=>by simp at hx⟩
 ·obtain⟨⟨c,e,g1,g2⟩,g3⟩:=t.puts b L h4
  rw[List.length_map]at h1
  refine⟨L,rfl,⟨by rw[c2_length,List.length_map,h1],h2,fun i v hv=>⟨_,h3,?_⟩⟩,g3⟩
  rw[add_none,hcell_blk g1,Nat.zero_add]
  rw[← g2,List.getElem?_take]at hv
  split at hv
  ·simpa using hv
  ·cases hv
theorem dCopied_spec(t:HT G h)(a0 a1 a2 a3 a4:Int){rs ps:Sl}{P:List PutD}(hr:SlA G (.reads 0) rs)(hrl:rs.len≤1000000)(hp:SlP G ps P)(hP:PutsB P) :
 HC Tryz.prog 37 #[.agg #[.int .i64 a0,.int .i64 a1,.int .i64 a2,.int .i64 a3,.int .i64 a4,.slice rs.base rs.len rs.cap,.slice ps.base ps.len ps.cap]] h fun r h'=>∃ (G':Gh) (rs' ps':Sl),r=.agg #[.int .i64 a0,.int .i64 a1,.int .i64 a2,.int .i64 a3,.int .i64 a4,.slice rs'.base rs'.len rs'.cap,.slice ps'.base ps'.len ps'.cap]∧To (fun _=>False) G h G' h'∧G'.W=G.W∧SlA G' (.reads 0) rs'∧rs'.len=rs.len∧SlP G' ps' P:=by
 apply wc37
 unfold vc37
 intro h1 h2
 obtain⟨G2,y2,w2,k1,k2,r1,r2⟩:=alcTwo t (h7V a0 a1 a2 a3 a4 rs ps) (h7V 0 0 0 0 0 Sl.nil Sl.nil) 49 49
 have e1:nw h=(⟨h.size,0,none⟩:Addr):=rfl
 have e2:nw h1=(⟨h.size+1,0,none⟩:Addr):=by show nw (alc h _ _)=_;unfold nw;rw[size_alc]
 rw[e1,e2]
 change To _ G h G2 h2 at y2
 change Row h2 _ _ at r1
 change Row h2 _ _ at r2
 clear_value h2
 clear e1 e2
 obtain⟨lr,rdr,okr⟩:=(hr.mono y2.le).all y2.ht
 have rdr:Rd 3 h2 rs lr:=rdr
 have okc:∀ v∈lr,cellOk v=true:=by
  intro v hv
  obtain⟨j,hj,rfl⟩:=List.mem_iff_getElem.1 hv
  have hlen:=rdr.len
  have hjx:j / 3<rs.len:=by omega
  refine okE_cell (okr (j / 3) hjx) _ ?_
  have:((lr.drop (j / 3*3)).take 3)[j % 3]? = some lr[j]:=by
   rw[List.getElem?_take,if_pos (Nat.mod_lt _ (by omega)),List.getElem?_drop,show j / 3*3+j % 3=j by omega]
   exact List.getElem?_eq_getElem hj
  exact List.mem_of_getElem? this
 refine⟨rs,r1.get rfl,ps,r1.get rfl,(rClone_spec rdr okc hrl).mono ?_⟩
 rintro _ h3 ⟨u,rfl,ou,lu,e3⟩
 obtain⟨L,rfl,rdL,okL⟩:=(hp.mono y2.le).all y2.ht
 have hLn:L.length≤1000000:=by have:=hP.1;simpa using this
 refine⟨u,rfl,e3,(pClone_spec (rdL.ext e3) (by simpa using hLn)).mono ?_⟩
 rintro _ h4 ⟨p,rfl,op,lp,e4⟩
 rw[List.length_map]at lp
 have y4:To (fun _=>False) G h G2 h4:=(y2.ext e3).ext e4
 have on4:OwnN h.size 3 G2 h4 u lr:=((ou.ext e4).toN y2.ht y2.size)
 have op4:OwnN h.size 2 G2 h4 p (c2 (L.map (·.1))):=op.toN (y2.ht.ext e3) (Nat.le_trans y2.size e3.size)
 have hd:∀ a b,u.base=some a→p.base=some b→a.block≠b.block:=fun a b ha hb=>by
  have:=(ou.lt ha).2
  have:=(op.lt hb).1
  omega
 obtain⟨ok5,b5,y5,r5⟩:=locSet y4.ht k1 (r1.ext (e3.trans e4)) (i:=5) (by simp[h7V]) (.slice u.base u.len u.cap)
 obtain⟨ok6,b6,y6,r6⟩:=locSet y5.ht k1 r5 (i:=6) (by simp[h7V]) (.slice p.base p.len p.cap)
 have r6:Row _ h.size (h7V a0 a1 a2 a3 a4 u p):=r6
 have r26:=(b6.row (b5.row (r2.ext (e3.trans e4)) (by omega)) (by omega))
 have y06:=b6.new (b5.new y4 (Nat.le_refl _)) (Nat.le_refl _)
 refine⟨p,rfl,e3.trans e4,ok5,ok6,u,r6.get rfl,?_⟩
 refine⟨fun i n h'=>∃ (j:Nat) (G':Gh) (l:List Value),i=j∧n+j=rs.len∧To (fun _=>False) G h G' h'∧G'.W=G.W∧OwnN h.size 3 G' h' u l∧(∀ k,k<rs.len→okE G' (.reads 0) ((l.drop (k*3)).take 3))∧OwnN h.size 2 G' h' p (c2 (L.map (·.1)))∧(∀ x∈L,SlB G' x.1.2 x.2)∧Row h' h.size (h7V a0 a1 a2 a3 a4 u p)∧Row h' (h.size+1) (h7V 0 0 0 0 0 Sl.nil Sl.nil)∧G'.k h.size=.one 30∧G'.k (h.size+1)=.one 30,rs.len,
  ⟨0,G2,lr,rfl,rfl,y06,w2,(on4.to y5).to y6,okr,(op4.to y5).to y6,okL,r6,r26,k1,k2⟩,?_⟩
 rintro _ _ n7 h7 ⟨j,G7,l7,rfl,hn7,y7,w7,o7,ok7,op7,okL7,r7,r27,k17,k27⟩
 refine IfB.dec (fun hlt=>?_) (fun hge=>?_)
 ·have hj:j<rs.len:=by omega
  obtain⟨lba,d,own,bs,hch,sd,ld,wd⟩:=ok7 j hj
  obtain⟨a,ha,hca⟩:=o7.own.rd (j*3+1) _ (chunk_get (m:=1) (by rw[hch];rfl))
  refine⟨u,r7.get rfl,u,r7.get rfl,a,ha,by omega,by omega,d,by rw[Int.toNat_natCast,add_add];exact hca,(cloneB y7.ht sd (by omega)).mono ?_⟩
  rintro _ h8 ⟨v,G8,rfl,y8,sv,w8⟩
  have o8:=o7.to y8
  have y08:=y7.trans y8
  have hl7:=o8.own.len
  obtain⟨ok9,o9,kp9,fr9,sz9⟩:=o8.own.set ha (k:=j*3+1) (by omega) (.slice v.base v.len v.cap)
  refine⟨v,rfl,y8.toExt,a,ha,by omega,by omega,by rw[Int.toNat_natCast,add_add];exact ok9,?_⟩
  rw[Int.toNat_natCast,add_add]
  have hne:∀ b,G8.k b=.one 30→b≠a.block:=fun b hb e=>by have:=o8.any a ha;rw[← e,hb]at this;cases this
  have k18:=y8.kd k17 (by simp)
  have k28:=y8.kd k27 (by simp)
  have op8:=op7.to y8
  refine⟨n7-1,by omega,j+1,G8,_,by rw[iAdd64 (by omega)];push_cast;rfl,by omega,y08.own1 (o8.own.lt ha).1 (o8.any a ha) (by omega) (fun b _ hb=>fr9 b hb),w8.trans w7,⟨o9,o8.any⟩,fun k hk=>?_,⟨op8.own.eq fun b hb=>fr9 _ fun e=>hd a b ha hb e.symm,op8.any⟩,fun x hx=>(okL7 x hx).mono y8.le,(y8.rowK r7 k17 id).eq (fr9 _ (hne _ k18)),(y8.rowK r27 k27 id).eq (fr9 _ (hne _ k28)),k18,k28⟩
  rw[chunk_set l7 _ (by omega)]
  split
  ·rename_i e;subst e
   rw[hch]
   exact⟨lba,v,own,bs,rfl,sv,ld,wd.imp id (Or.imp id fun h=>by rw[w8];exact h)⟩
  ·exact okE_mono y8.le (ok7 k hk)
 ·obtain rfl:j=rs.len:=by omega
  refine⟨p,r7.get rfl,?_⟩
  refine⟨fun i n h'=>∃ (j:Nat) (G':Gh) (D:List ((Int × Sl) × List UInt8)),i=j∧n+j=L.length∧To (fun _=>False) G h G' h'∧G'.W=G.W∧OwnN h.size 3 G' h' u l7∧(∀ k,k<rs.len→okE G' (.reads 0) ((l7.drop (k*3)).take 3))∧OwnN h.size 2 G' h' p (c2 (D.map (·.1)))∧D.map (fun x=>(x.1.1,x.2))=L.map (fun x=>(x.1.1,x.2))∧(∀ x∈D,SlB G' x.1.2 x.2)∧Row h' h.size (h7V a0 a1 a2 a3 a4 u p)∧Row h' (h.size+1) (h7V 0 0 0 0 0 Sl.nil Sl.nil)∧G'.k h.size=.one 30∧G'.k (h.size+1)=.one 30,L.length,
   ⟨0,G7,L,rfl,rfl,y7,w7,o7,ok7,op7,rfl,okL7,r7,r27,k17,k27⟩,?_⟩
  rintro _ _ n9 h9 ⟨i,G9,D,rfl,hn9,y9,w9,o9,ok9,op9,hDm,okD,r9,r29,k19,k29⟩
  have hDl:D.length=L.length:=by have:=congrArg List.length hDm;simpa using this
  refine IfB.dec (fun hlt=>?_) (fun hge=>?_)
  ·have hi:i<L.length:=by omega
   have hiD:i<D.length:=by omega
   refine⟨p,r9.get rfl,p,r9.get rfl,ix2 op9.own.toRd i rfl (by simpa using hiD) fun a c0 c1=>?_⟩
   rw[List.getElem_map]at c0 c1
   have hlen:D[i].2.length≤1000000:=hP.2 _ (by rw[← hDm];exact List.mem_map.2 ⟨_,List.getElem_mem hiD,rfl⟩)
   refine⟨D[i].1.2,c1,(cloneB y9.ht (okD _ (List.getElem_mem hiD)) hlen).mono ?_⟩
   rintro _ h10 ⟨v,G10,rfl,y10,sv,w10⟩
   have op10:=op9.to y10
   have y010:=y9.trans y10
   obtain⟨ab,hab,_⟩:=op10.own.rd (i*2) (.int .i64 D[i].1.1) (by rw[c2_get0,List.getElem?_eq_getElem (by simpa using hiD),List.getElem_map];rfl)
   obtain⟨ok11,y11,o11,fr11,sz11⟩:=OwnN.setD (u:=v) y010 op10 hab (k:=i) (by simpa using hiD)
   refine⟨v,rfl,y10.toExt,ab,hab,by omega,by omega,by rw[Int.toNat_natCast];exact ok11,?_⟩
   rw[Int.toNat_natCast]
   have hne:∀ b,G10.k b=.one 30→b≠ab.block:=fun b hb e=>by have:=op10.any ab hab;rw[← e,hb]at this;cases this
   have k110:=y10.kd k19 (by simp)
   have k210:=y10.kd k29 (by simp)
   have o10:=o9.to y10
   refine⟨n9-1,by omega,i+1,G10,D.set i ((D[i].1.1,v),D[i].2),by rw[iAdd64 (by omega)];push_cast;rfl,by omega,y11,w10.trans w9,⟨o10.own.eq fun b hb=>fr11 _ fun e=>hd b ab hb hab e,o10.any⟩,fun k hk=>okE_mono y10.le (ok9 k hk),?_,?_,fun x hx=>?_,(y10.rowK r9 k19 id).eq (fr11 _ (hne _ k110)),(y10.rowK r29 k29 id).eq (fr11 _ (hne _ k210)),k110,k210⟩
   ·rw[List.map_set]
    simpa using o11
   ·rw[List.map_set,← hDm]
    exact set_same (by rw[List.getElem?_map,List.getElem?_eq_getElem hiD];rfl)
   ·rcases List.mem_or_eq_of_mem_set hx with hx | rfl
    ·exact(okD x hx).mono y10.le
    ·exact sv
  ·refine ret7 y9.ht r9 k29 r29 rfl fun h10 b10 y10 _=>?_
   have y010:=b10.new y9 (by omega:h.size≤h.size+1)
   have o10:=o9.to y10
   have op10:=op9.to y10
   obtain⟨GA,leA,htA,slA,eA,wA⟩:=OwnG.arr (a := .reads 0) y010.ht o10.g (fun k hk=>ok9 k (by omega))
   have yA:=y010.give leA htA (s:=u) (fun a ha=>(o10.own.lt ha).1) eA
   have opA:OwnN h.size 2 GA h10 p (c2 (D.map (·.1))):=⟨op10.own,fun a ha=>by rw[eA _ fun b hb e=>hd b a hb ha e.symm];exact op10.any a ha⟩
   obtain⟨GB,leB,htB,slB,eB,wB⟩:=OwnG.puts yA.ht opA.g (fun x hx=>(okD x hx).mono leA)
   have yB:=yA.give leB htB (s:=p) (fun a ha=>(opA.own.lt ha).1) eB
   refine⟨GB,u,p,rfl,yB,wB.trans (wA.trans w9),slA.mono leB,lu,?_⟩
   rw[hDm]at slB
   exact slB
end
structure HiD where
 st:Int
 g:Int
 tm:Int
 fr:Int
 to_:Int
 rs:Sl
 ps:Sl
 P:List PutD
def hiV(x:HiD):List Value:=h7V x.st x.g x.tm x.fr x.to_ x.rs x.ps
def c7(l:List HiD):List Value:=l.flatMap hiV
theorem hiV_len(x:HiD):(hiV x).length=7:=rfl
theorem c7_cons(x:HiD)(r:List HiD):c7 (x::r)=hiV x++c7 r:=rfl
theorem c7_append(a b:List HiD):c7 (a++b)=c7 a++c7 b:=by simp[c7]
theorem c7_length:∀ l:List HiD,(c7 l).length=l.length*7
 | []=>rfl
 | x::r=>by rw[c7_cons,List.length_append,c7_length r,hiV_len];simp only[List.length_cons];omega
theorem c7_get:∀ (l:List HiD) (i j:Nat),j<7→(c7 l)[i*7+j]? =(l[i]?).bind fun x=>(hiV x)[j]?
 | [],i,j,_=>by simp[c7]
 | x::r,0,j,h=>by rw[c7_cons,List.getElem?_append_left (by rw[hiV_len];omega)];simp
 | x::r,i+1,j,h=>by
   rw[c7_cons,List.getElem?_append_right (by rw[hiV_len];omega)]
   rw[show(i+1)*7+j-(hiV x).length=i*7+j by rw[hiV_len];omega,c7_get r i j h]
   rfl
structure HsR(G:Gh)(h:Hp)(s:Sl)(L:List HiD):Prop where
 rd:Rd 7 h s (c7 L)
 stab:∀ a,s.base=some a→s.len≠0→Stab G h a.block
 each:∀ x∈L,SlA G (.reads 0) x.rs∧x.rs.len≤1000000∧SlP G x.ps x.P∧PutsB x.P
theorem HsR.len{G:Gh}{h:Hp}{s:Sl}{L:List HiD}(p:HsR G h s L):s.len=L.length:=by
 have:=p.rd.len
 rw[c7_length]at this
 omega
theorem HsR.to{S:Kd→Prop}{A B:Gh}{a b:Hp}(x:To S A a B b){s:Sl}{L:List HiD}(p:HsR A a s L):HsR B b s L:=
 ⟨p.rd.mv p.stab fun k hk=>(x.stab hk).1,fun q hq hn=>(x.stab (p.stab q hq hn)).2,fun y hy=>by
  obtain⟨h1,h2,h3,h4⟩:=p.each y hy
  exact⟨h1.mono x.le,h2,h3.mono x.le,h4⟩⟩
theorem HsR.ix{G:Gh}{h:Hp}{s:Sl}{L:List HiD}(p:HsR G h s L){i:Int}(k:Nat)(hi:i=k)(hk:k<L.length){K:Addr→Prop}
 (hK:∀ a,hY h (a.add (i.toNat*7))=some (.int .i64 L[k].st)→hY h ((a.add (i.toNat*7)).add 4)=some (.int .i64 L[k].to_)→hY h ((a.add (i.toNat*7)).add 5)=some (.slice L[k].rs.base L[k].rs.len L[k].rs.cap)→hY h ((a.add (i.toNat*7)).add 6)=some (.slice L[k].ps.base L[k].ps.len L[k].ps.cap)→K a):∃ a:Addr,s.base=some a∧0≤i∧i<(s.len:Int)∧K a:=by
 have hl:=p.len
 subst hi
 have g:∀ j,j<7→(c7 L)[k*7+j]? =(hiV L[k])[j]?:=fun j hj=>by rw[c7_get L k j hj,List.getElem?_eq_getElem hk];rfl
 have cell:∀ j v,j<7→(hiV L[k])[j]? = some v →∃ a:Addr,s.base=some a∧hY h ((a.add (((k:Int)).toNat*7)).add j)=some v:=fun j v hj hv=>by
  obtain⟨a,ha,hc⟩:=p.rd.rd (k*7+j) v (by rw[g j hj];exact hv)
  exact⟨a,ha,by rw[Int.toNat_natCast,add_add];exact hc⟩
 obtain⟨a,ha,q0⟩:=cell 0 _ (by omega) rfl
 obtain⟨a1,ha1,q1⟩:=cell 4 _ (by omega) rfl
 obtain⟨a2,ha2,q2⟩:=cell 5 _ (by omega) rfl
 obtain⟨a3,ha3,q3⟩:=cell 6 _ (by omega) rfl
 rw[ha]at ha1 ha2 ha3
 cases ha1;cases ha2;cases ha3
 rw[Addr.add_zero]at q0
 exact⟨a,ha,by omega,by omega,hK a q0 q1 q2 q3⟩
section
variable{G:Gh}{h:Hp}{M N sc:Nat}{X:StD}{cl:List CSl}{bg:List BgD}{na base:Nat}{ev:Int}{db sb:Nat}{all:Sl}{bb:Nat→Nat}
def seeSt(X:StD)(b:BgD):Int:=if b.h=0 then b.st else ((X.D.at_ b.h).state:Int)
def seeP(X:StD)(b:BgD):List PutD:=if b.h=0 then b.P else (X.D.at_ b.h).P
def Sees(X:StD)(bg:List BgD)(L:List HiD):Prop:=∀ (i:Nat) (b:BgD),bg[i]? = some b →∃ x:HiD,L[i]? = some x∧x.st=seeSt X b∧x.P=seeP X b∧x.to_=b.to_
theorem dHist_spec(t:HT G h)(x:SdIn G h M N sc X cl bg bg.length ev db sb all bb)(hN:bg.length≤1000000)(hM:M≤1000000)(htx:∀ (i:Nat) (b:BgD),bg[i]? = some b→b.h≠0 →∃ (j:Nat) (t:TxS),b.h=j+1∧X.D.txs[j]? = some t) :
 HC Tryz.prog 12 #[pv sc] h fun r h'=>∃ (G':Gh) (s:Sl) (L:List HiD),r=.slice s.base s.len s.cap∧To (fun _=>False) G h G' h'∧G'.W=G.W∧HsR G' h' s L∧L.length=bg.length∧Sees X bg L:=by
 apply wc12
 unfold vc12
 refine(dGone_spec x).mono ?_
 rintro _ _ ⟨rfl,hh⟩
 obtain rfl:=hh.symm
 have hall:all.len=bg.length:=by have:=x.all.own.len;simp at this;omega
 refine⟨_,rfl,.no rfl ⟨_,rfl,_,x.row.get (scV_all x.len).1,?_⟩⟩
 refine⟨fun out v n h'=>∃ (j:Nat) (G':Gh) (L:List HiD),v=j∧n+j=bg.length∧To (fun _=>False) G h G' h'∧G'.W=G.W∧OwnN h.size 7 G' h' out (c7 L)∧L.length=j∧(∀ x∈L,SlA G' (.reads 0) x.rs∧x.rs.len≤1000000∧SlP G' x.ps x.P∧PutsB x.P)∧Sees X (bg.take j) L,bg.length,
  ⟨0,G,[],rfl,rfl,.refl t,rfl,OwnN.nil _ _ _ _,rfl,fun x hx=>by simp at hx,fun i b hb=>by simp at hb⟩,?_⟩
 rintro _ out _ n1 h1 ⟨j,G1,L,rfl,hn1,y1,w1,o1,hL,okL,hsee⟩
 have x1:=x.pure y1
 refine IfB.dec (fun hlt=>?_) fun hge=>?_
 ·have hj:j<bg.length:=by omega
  have hbj:bg[j]? = some bg[j]:=List.getElem?_eq_getElem hj
  refine ix1 x1.all.own.rd (by simpa using hall.symm) j rfl (by simpa using hj) fun a _ hce=>⟨_,by simpa [pv] using hce,?_⟩
  have xb:=x1.beg j _ hbj
  obtain⟨g,tm,f,tt,rs,ps,r,ha,hl,hp,hP⟩:=xb.row
  have e3:∀ k,(((⟨bb j,0,none⟩:Addr).add 3).add k)=(⟨bb j,0,none⟩:Addr).add (3+k):=fun k=>add_add _ _ _
  refine⟨_,rfl,bg[j].st,g,tm,f,tt,rs,ps,r.get rfl,by rw[e3];exact r.get rfl,by rw[e3];exact r.get rfl,by rw[e3];exact r.get rfl,by rw[e3];exact r.get rfl,by rw[e3];exact r.get rfl,by rw[e3];exact r.get rfl,(dCopied_spec y1.ht _ _ _ _ _ ha hl hp hP).mono ?_⟩
  rintro _ h2 ⟨G2,rs2,ps2,rfl,y2,w2,ha2,hl2,hp2⟩
  have x2:=x1.pure y2
  have y02:=y1.trans y2
  refine⟨_,_,_,_,_,rs2,ps2,rfl,?_⟩
  intro h3
  obtain⟨G3,y3,w3,k3,r3⟩:=alcLoc y2.ht (h7V 0 0 0 0 0 Sl.nil Sl.nil) 49
  change To _ G2 h2 G3 h3 at y3
  change Row h3 _ _ at r3
  have e2:nw h2=(⟨h2.size,0,none⟩:Addr):=rfl
  rw[e2]
  clear_value h3
  clear e2
  have x3:=x2.pure y3
  have s02:=y02.size
  refine locPut (vs:=h7V bg[j].st g tm f tt rs2 ps2) y3.ht k3 r3 rfl (h7V_ok _ _ _ _ _ _ _) fun h4 b4 y4 r4=>?_
  have x4:=x3.loc y4
  have y04:=b4.new (y02.trans y3) s02
  have o4:OwnN h.size 7 G3 h4 out (c7 L):=((o1.to y2).to y3).to y4
  have W3:G3.W=G.W:=w3.trans (w2.trans w1)
  have ha3:=ha2.mono y3.le
  have hp3:=hp2.mono y3.le
  have okL3:∀ x∈L,SlA G3 (.reads 0) x.rs∧x.rs.len≤1000000∧SlP G3 x.ps x.P∧PutsB x.P:=fun y hy=>by
   obtain⟨q1,q2,q3,q4⟩:=okL y hy
   exact⟨(q1.mono y2.le).mono y3.le,q2,(q3.mono y2.le).mono y3.le,q4⟩
  have fin:∀ {G5:Gh} {h5:Hp} {st g tm f tt:Int} {rs ps:Sl} {P:List PutD},To (fun _=>False) G h G5 h5→G5.W=G.W→SdIn G5 h5 M N sc X cl bg bg.length ev db sb all bb→OwnN h.size 7 G5 h5 out (c7 L)→G5.k h2.size=.one 30→Row h5 h2.size (h7V st g tm f tt rs ps)→SlA G5 (.reads 0) rs→rs.len≤1000000→SlP G5 ps P→PutsB P→(∀ x∈L,SlA G5 (.reads 0) x.rs∧x.rs.len≤1000000∧SlP G5 x.ps x.P∧PutsB x.P)→st=seeSt X bg[j]→P=seeP X bg[j] →
   ∃ hR:Hp,Sub hR h5∧∃ a8:Addr,(some (⟨bb j,0,none⟩:Addr))=some a8∧∃ c36:Int,hY hR (a8.add 1)=some (.int .i64 c36)∧∃ a9:Addr,(some (⟨bb j,0,none⟩:Addr))=some a9∧∃ c37:Int,hY hR (a9.add 2)=some (.int .i64 c37)∧
   StOk h5 ((⟨h2.size,0,none⟩:Addr).add 3)∧Lt (hset h5 ((⟨h2.size,0,none⟩:Addr).add 3) (.int .i64 c36)) fun vh11=>Sub hR vh11∧StOk vh11 ((⟨h2.size,0,none⟩:Addr).add 4)∧Lt (hset vh11 ((⟨h2.size,0,none⟩:Addr).add 4) (.int .i64 c37)) fun vh12=>
   ∃ c38:Int,∃ c39:Int,∃ c40:Int,∃ c41:Int,∃ c42:Int,∃ c43:Sl,∃ c44:Sl,hY vh12 (⟨h2.size,0,none⟩:Addr)=some (.int .i64 c38)∧hY vh12 ((⟨h2.size,0,none⟩:Addr).add 1)=some (.int .i64 c39)∧hY vh12 ((⟨h2.size,0,none⟩:Addr).add 2)=some (.int .i64 c40)∧hY vh12 ((⟨h2.size,0,none⟩:Addr).add 3)=some (.int .i64 c41)∧hY vh12 ((⟨h2.size,0,none⟩:Addr).add 4)=some (.int .i64 c42)∧hY vh12 ((⟨h2.size,0,none⟩:Addr).add 5)=some (.slice c43.base c43.len c43.cap)∧hY vh12 ((⟨h2.size,0,none⟩:Addr).add 6)=some (.slice c44.base c44.len c44.cap)∧
   let vh13:=alc vh12 [.int .i64 c38,.int .i64 c39,.int .i64 c40,.int .i64 c41,.int .i64 c42,.slice c43.base c43.len c43.cap,.slice c44.base c44.len c44.cap] 49;
   AppC 49 7 88 #[.int .i64 (0:Int),.int .i64 (0:Int),.int .i64 (0:Int),.int .i64 (0:Int),.int .i64 (0:Int),.slice Sl.nil.base Sl.nil.len Sl.nil.cap,.slice Sl.nil.base Sl.nil.len Sl.nil.cap] out (Sl.mk (some (nw vh12)) 1 1) vh13 fun s2 vh14=>
   ∃ n2,n2<n1∧(∃ (j':Nat) (G':Gh) (L:List HiD),iAdd .i64 (j:Int) (1:Int)=j'∧n2+j'=bg.length∧To (fun _=>False) G h G' vh14∧G'.W=G.W∧OwnN h.size 7 G' vh14 s2 (c7 L)∧L.length=j'∧(∀ x∈L,SlA G' (.reads 0) x.rs∧x.rs.len≤1000000∧SlP G' x.ps x.P∧PutsB x.P)∧Sees X (bg.take j') L):=by
   intro G5 h5 st g tm f tt rs ps P y5 w5 x5 o5 k5 r5 ha5 hl5 hp5 hP5 ok5 hst hPs
   obtain⟨g',tm',f',tt',rs',ps',rb,_⟩:=(x5.beg j _ hbj).row
   have fb:kf G5 isLoc (bb j)=true:=kf_yes (by rw[(x5.beg j _ hbj).kd];intro h;cases h)
   have rbR:=rb.filt fb
   obtain⟨ok6,b6,y6,r6⟩:=locSet y5.ht k5 r5 (i:=3) (by simp[h7V]) (.int .i64 bg[j].fr)
   obtain⟨ok7,b7,y7,r7⟩:=locSet y6.ht k5 r6 (i:=4) (by simp[h7V]) (.int .i64 bg[j].to_)
   have r7:Row _ h2.size (h7V st g tm bg[j].fr bg[j].to_ rs ps):=r7
   have y07:=b7.new (b6.new y5 s02) s02
   have o7:=(o5.to y6).to y7
   refine⟨filt (kf G5 isLoc) h5,sub_kf _ _ _,_,rfl,_,rbR.get rfl,_,rfl,_,rbR.get rfl,ok6,y6.kf,ok7,r7.get7 ?_⟩
   intro h9
   have hl7:=o7.own.len
   rw[c7_length]at hl7
   refine OwnN.push y07 rfl o7 rfl (h7V_ok _ _ _ _ _ _ _) (by omega) (by omega) fun s2 h10 y10 o10 l10 _ _=>⟨n1-1,by omega,j+1,G5,L ++ [⟨st,g,tm,bg[j].fr,bg[j].to_,rs,ps,P⟩],by rw[iAdd64 (by omega)];push_cast;rfl,by omega,y10,w5,by rw[c7_append];exact o10,by simp[hL],fun y hy=>?_,fun i b hb=>?_⟩
   ·rcases List.mem_append.1 hy with hy | hy
    ·exact ok5 y hy
    ·simp only[List.mem_cons,List.not_mem_nil,or_false]at hy
     subst hy;exact⟨ha5,hl5,hp5,hP5⟩
   ·rw[List.getElem?_take]at hb
    split at hb
    ·rename_i hi
     by_cases e:i<j
     ·obtain⟨y,q1,q2⟩:=hsee i b (by rw[List.getElem?_take,if_pos e];exact hb)
      exact⟨y,by rw[List.getElem?_append_left (by omega)];exact q1,q2⟩
     ·obtain rfl:i=j:=by omega
      rw[hbj]at hb;cases hb
      exact⟨_,by rw[List.getElem?_append_right (by omega),hL,Nat.sub_self];rfl,hst,hPs,rfl⟩
    ·cases hb
  refine⟨_,rfl,_,x4.begH hbj,IfB.dec (fun hpos=>?_) fun hz=>?_⟩
  ·have hnz:bg[j].h≠0:=by omega
   obtain⟨i,tx,hi,htxi⟩:=htx j _ hbj hnz
   refine⟨h4,Sub.refl _,_,rfl,_,x4.row.get rfl,_,rfl,_,x4.begH hbj,?_⟩
   refine(sHistory_spec y4.ht x4.st hM _).mono ?_
   rintro _ h5 ⟨G5,rs5,ps5,st5,g5,tm5,P5,rfl,y5,w5,ha5,hl5,hp5,hP5,_,hx5⟩
   obtain⟨rfl,rfl⟩:=hx5 i tx htxi (by rw[hi])
   have pB:PutsB tx.P:=by
    obtain⟨_,_,_,_,_,_,_,_,si⟩:=x4.st
    exact(si.mgr.plen i tx htxi).2.b (si.mgr.plen i tx htxi).1
   have x5:=x4.pure y5
   have k5:=y5.kd k3 (by simp)
   have r5:=y5.rowK r4 k3 id
   refine⟨_,_,_,_,_,rs5,ps5,rfl,y5.toExt.sub,locPut (vs:=h7V tx.state g5 tm5 0 0 rs5 ps5) y5.ht k5 r5 rfl (h7V_ok _ _ _ _ _ _ _) fun h6 b6 y6 r6=>?_⟩
   exact fin (b6.new (y04.trans y5) s02) (w5.trans W3) (x5.loc y6) ((o4.to y5).to y6) k5 r6 ha5 (by omega) hp5 pB (fun y hy=>by
    obtain⟨q1,q2,q3,q4⟩:=okL3 y hy
    exact⟨q1.mono y5.le,q2,q3.mono y5.le,q4⟩) (by unfold seeSt;rw[if_neg hnz,hi,MgrD.at_get htxi]) (by unfold seeP;rw[if_neg hnz,hi,MgrD.at_get htxi])
  ·have hz:bg[j].h=0:=by omega
   exact fin y04 W3 x4 o4 k3 r4 ha3 (by omega) hp3 hP okL3 (by unfold seeSt;rw[if_pos hz]) (by unfold seeP;rw[if_pos hz])
 ·obtain rfl:j=bg.length:=by omega
  rw[List.take_length]at hsee
  refine⟨G1,out,L,rfl,y1,w1,⟨o1.own.toRd,fun a ha _=>⟨(o1.own.lt ha).2,by rw[o1.any a ha];exact fun h=>h⟩,okL⟩,hL,hsee⟩
end
end Go.Proofs.YtdpdkpfnfllipaaGreatDoor

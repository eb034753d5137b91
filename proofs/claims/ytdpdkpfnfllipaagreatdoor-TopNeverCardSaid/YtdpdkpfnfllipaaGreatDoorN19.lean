/- A part of the proof, no condition. -/
import Derived.Test.YtdpdkpfnfllipaaGreatDoorN18
set_option linter.unusedVariables false
set_option linter.unusedSimpArgs false
namespace Go.Proofs.YtdpdkpfnfllipaaGreatDoor
theorem ToB.row{c:Nat}{G G':Gh}{h h':Hp}{b:Nat}{l:List Value}(x:ToB c G h G' h')(r:Row h b l)(hne:b≠c):Row h' b l:=r.eq (x.fr b r.lt hne)
theorem cl_step{k:Nat}(hk:k<8):sStep (.one (12+k)):=by
 match k,hk with
 | 0,_=>exact .inr (by omega)
 | 1,_=>exact .inr (by omega)
 | 2,_=>exact .inr (by omega)
 | 3,_=>exact .inr (by omega)
 | 4,_=>exact .inr (by omega)
 | 5,_=>exact .inr (by omega)
 | 6,_=>exact .inr (by omega)
 | 7,_=>exact .inr (by omega)
theorem set_same{α:Type}{l:List α}{k:Nat}{c:α}(h:l[k]? = some c):l.set k c=l:=by
 apply List.ext_getElem?
 intro i
 rw[List.getElem?_set]
 split
 ·rename_i e;subst e
  rw[if_pos (List.getElem?_eq_some_iff.1 h).1,h]
 ·rfl
section
variable{G:Gh}{h:Hp}{M N sc:Nat}{X:StD}{cl:List CSl}{bg:List BgD}{na base:Nat}{ev:Int}{db sb:Nat}{all:Sl}{bb:Nat→Nat}
theorem SdIn.moreN{N':Nat}(x:SdIn G h M N sc X cl bg na ev db sb all bb)(hN:N≤N'):SdIn G h M N' sc X cl bg na ev db sb all bb:=
 ⟨x.kd,x.row,x.len,x.st,fun k c hc=>by
  have:=x.cls k c hc
  exact⟨this.ops,this.len,this.asked,this.beg,this.L,this.ans,Nat.le_trans this.ansN hN,Nat.le_trans this.LN hN⟩,x.all,x.beg⟩
theorem SdIn.addBg{G':Gh}{h':Hp}{bk:Nat}{b:BgD}(x:SdIn G h M N sc X cl bg na ev db sb all bb)(hna:na≤bg.length)(y:To (fun _=>False) G h G' h')(hb:BgAt G' h' bg.length bk b):SdIn G' h' M N sc X cl (bg ++ [b]) na ev db sb all (fun i=>if i=bg.length then bk else bb i):=by
 have x':=x.pure y
 have same:∀ i,i<bg.length→(fun i=>if i=bg.length then bk else bb i) i=bb i:=fun i hi=>if_neg (by omega)
 refine⟨x'.kd,x'.row,x'.len,x'.st,fun k c hc=>(x.cls k c hc).to y (Nat.le_refl _) (by simp) same id,?_,fun i d hd=>?_⟩
 ·have e:((List.range na).map fun i=>pv ((fun i=>if i=bg.length then bk else bb i) i))=(List.range na).map fun i=>pv (bb i):=List.map_congr_left fun i hi=>by
   rw[same i (by have:=List.mem_range.1 hi;omega)]
  rw[e];exact x'.all
 ·rcases Nat.lt_or_ge i bg.length with hi | hi
  ·rw[List.getElem?_append_left hi]at hd
   rw[if_neg (by omega)];exact x'.beg i d hd
  ·have:i=bg.length:=by
    have:=(List.getElem?_eq_some_iff.1 hd).1
    simp at this;omega
   subst this
   simp at hd
   subst hd
   simp only[if_pos]
   exact hb
theorem SdIn.pushBeg{G':Gh}{h':Hp}{k n:Nat}{c:CSl}{r:Sl}(x:SdIn G h M N sc X cl bg na ev db sb all bb)(hc:cl[k]? = some c)(y:To (fun q=>q=.one (12+k)) G h G' h')(o:OwnK (.one (12+k)) 1 G' h' r ((c.L ++ [n]).map fun i=>pv (bb i)))(hn:n<bg.length)(hL:c.L.length+1≤N) :
 StOk h' ((clA sc k).add 1)∧To (fun q=>q=.one 1) G' h' G' (hset h' ((clA sc k).add 1) (.slice r.base r.len r.cap))∧SdIn G' (hset h' ((clA sc k).add 1) (.slice r.base r.len r.cap)) M N sc X (cl.set k { c with beg:=r,L:=c.L ++ [n] }) bg na ev db sb all bb:=by
 have hk:=x.lt hc
 have row:=y.rowK x.row x.kd (by simp;omega)
 have kd:=y.kd x.kd (by simp)
 rw[clA_add]
 obtain⟨ok,b,r'⟩:=kset y.ht kd (fun h=>h) row (i:=2+(k*4+1)) (by rw[scV_len x.len];omega) (.slice r.base r.len r.cap)
 rw[scV_set (c':={ c with beg:=r,L:=c.L ++ [n] }) (by omega) hc rfl]at r'
 have y1:To (fun q=>q=.one 1) G' h' G' _:=b.to (by rw[kd];exact⟨trivial,rfl⟩)
 have nst:∀ q,sStO q∨sMgr q →¬ q=.one (12+k):=fun q hq e=>by subst e;exact sSc_not _ hq (by simp only[sSc];omega)
 have nst1:∀ q,sStO q∨sMgr q →¬ q=.one 1:=fun q hq e=>by subst e;exact sSc_not _ hq (by simp[sSc])
 refine⟨ok,y1,kd,r',by simpa using x.len,(x.st.to y (Nat.le_refl _) nst).to y1 (Nat.le_refl _) nst1,fun i d hd=>?_,(x.all.to y (by simp;omega)).to y1 (by simp),fun i b hb=>((x.beg i b hb).to y (by simp)).to y1 (by simp)⟩
 have ck:=x.cls k c hc
 rw[List.getElem?_set]at hd
 by_cases e:k=i
 ·subst e
  rw[if_pos rfl]at hd
  split at hd
  ·injection hd with hd;subst hd
   refine⟨(ck.ops.mono y.le).mono y1.le,ck.len,ck.asked,o.to y1 (by simp;omega),fun i hi=>?_,(ck.ans.mono y.le).mono y1.le,ck.ansN,by simp;omega⟩
   rcases List.mem_append.1 hi with hi | hi
   ·exact ck.L i hi
   ·simp at hi;omega
  ·cases hd
 ·rw[if_neg e]at hd
  exact((x.cls i d hd).to y (Nat.le_refl _) (Nat.le_refl _) (fun _ _=>rfl) (by simp;omega)).to y1 (Nat.le_refl _) (Nat.le_refl _) (fun _ _=>rfl) (by simp;omega)
theorem SdIn.pushAll{G':Gh}{h':Hp}{r:Sl}(x:SdIn G h M N sc X cl bg na ev db sb all bb)(y:To (fun q=>q=.one 11) G h G' h')(o:OwnK (.one 11) 1 G' h' r ((List.range (na+1)).map fun i=>pv (bb i))) :
 StOk h' ((⟨sc,0,none⟩:Addr).add 34)∧To (fun q=>q=.one 1) G' h' G' (hset h' ((⟨sc,0,none⟩:Addr).add 34) (.slice r.base r.len r.cap))∧SdIn G' (hset h' ((⟨sc,0,none⟩:Addr).add 34) (.slice r.base r.len r.cap)) M N sc X cl bg (na+1) ev db sb r bb:=by
 have row:=y.rowK x.row x.kd (by simp)
 have kd:=y.kd x.kd (by simp)
 obtain⟨ok,b,r'⟩:=kset y.ht kd (fun h=>h) row (i:=34) (by rw[scV_len x.len];omega) (.slice r.base r.len r.cap)
 rw[scV_setAll x.len]at r'
 have y1:To (fun q=>q=.one 1) G' h' G' _:=b.to (by rw[kd];exact⟨trivial,rfl⟩)
 have nst:∀ q,sStO q∨sMgr q →¬ q=.one 11:=fun q hq e=>by subst e;exact sSc_not _ hq (by simp[sSc])
 have nst1:∀ q,sStO q∨sMgr q →¬ q=.one 1:=fun q hq e=>by subst e;exact sSc_not _ hq (by simp[sSc])
 exact⟨ok,y1,kd,r',x.len,(x.st.to y (Nat.le_refl _) nst).to y1 (Nat.le_refl _) nst1,fun i d hd=>((x.cls i d hd).to y (Nat.le_refl _) (Nat.le_refl _) (fun _ _=>rfl) (by simp;omega)).to y1 (Nat.le_refl _) (Nat.le_refl _) (fun _ _=>rfl) (by simp;omega),o.to y1 (by simp),fun i b hb=>((x.beg i b hb).to y (by simp)).to y1 (by simp)⟩
theorem SdOk.mgr{W:Int→List UInt8→Prop}{N':Nat}{D':MgrD}(o:SdOk W N X bg base)(hN:N≤N')(m:MgrOk N' D')(hl:D'.txs.length=X.D.txs.length)(ht:∀ (j:Nat) (t:TxS),X.D.txs[j]? = some t→t.state=3 →∃ t',D'.txs[j]? = some t'∧t'.state=3∧t'.P=t.P):SdOk W N' { X with D:=D' } bg base:=
 ⟨o.sr.mgr hN m,by rw[show({ X with D:=D' }:StD).D=D' from rfl,hl];exact o.len,Nat.le_trans o.bgN hN,o.hs,fun a l hw=>by
  rcases o.link a l hw with h | ⟨j,t,h1,h2,h3⟩
  ·exact .inl h
  ·obtain⟨t',g1,g2,g3⟩:=ht j t h1 h2
   exact .inr ⟨j,t',g1,g2,by rw[g3];exact h3⟩⟩
theorem SdOk.add{W:Int→List UInt8→Prop}{b:BgD}(o:SdOk W N X bg base)(hb:b.h=X.D.txs.length+1):SdOk W (N+1) { X with D:=X.D.add } (bg ++ [b]) base:=by
 have hlen:=o.len
 refine⟨o.sr.mgr (Nat.le_succ _) o.sr.mg.add,?_,?_,fun i d hd=>?_,fun a l hw=>?_⟩
 ·show(bg ++ [b]).length=base+(X.D.txs ++ [_]).length
  simp;omega
 ·have:=o.bgN;simp;omega
 ·rcases Nat.lt_or_ge i bg.length with hi | hi
  ·rw[List.getElem?_append_left hi]at hd;exact o.hs i d hd
  ·have:i=bg.length:=by
    have:=(List.getElem?_eq_some_iff.1 hd).1
    simp at this;omega
   subst this
   simp at hd
   subst hd
   rw[if_neg (by omega),hb];omega
 ·rcases o.link a l hw with ⟨i,d,h1,h2⟩ | ⟨j,t,h1,h2,h3⟩
  ·exact .inl ⟨i,d,by rw[List.getElem?_append_left (List.getElem?_eq_some_iff.1 h1).1];exact h1,h2⟩
  ·exact .inr ⟨j,t,by show(X.D.txs ++ [_])[j]? = _;rw[List.getElem?_append_left (List.getElem?_eq_some_iff.1 h1).1];exact h1,h2,h3⟩
theorem dBegin_spec(t:HT G h)(x:SdIn G h M N sc X cl bg bg.length ev db sb all bb)(o:SdOk G.W N X bg base)(hN:N≤900000){k:Nat}{c:CSl}(hc:cl[k]? = some c)(a0 a1 a2 a3:Int)(a4:Sl) :
 HC Tryz.prog 86 #[pv sc,.pointer (some (clA sc k)),.agg #[.int .i64 a0,.int .i64 a1,.int .i64 a2,.int .i64 a3,.slice a4.base a4.len a4.cap]] h fun r h'=>∃ (G':Gh) (X':StD) (c':CSl) (bg':List BgD) (all':Sl) (bb':Nat→Nat) (b1 b2 b3:Int),
  r=.agg #[.int .i64 a0,.int .i64 b1,.int .i64 b2,.int .i64 b3,.slice a4.base a4.len a4.cap]∧To sStep G h G' h'∧G'.W=G.W∧SdIn G' h' M (N+1) sc X' (cl.set k c') bg' bg'.length ev db sb all' bb'∧SdOk G.W (N+1) X' bg' base∧X'.dv=X.dv∧c'.ops=c.ops∧c'.asked=c.asked∧c'.ans=c.ans∧
  ((∀ (j:Nat) (t:TxS),X.D.txs[j]? = some t →¬ t.live)→X' = { X with D:=X.D.add }∧bg'=bg ++ [⟨X.D.txs.length+1,0,[],ev,0⟩]∧c'.L=c.L ++ [bg.length]):=by
 apply wc86
 unfold vc86
 intro h1 h2
 obtain⟨G1,y1,w1,k1,r1⟩:=alcLoc t [.int .i64 a0,.int .i64 a1,.int .i64 a2,.int .i64 a3,.slice a4.base a4.len a4.cap] 62
 obtain⟨G2,y2,w2,k2,r2⟩:=alcLoc y1.ht [.int .i64 (0:Int),.int .i64 (0:Int),.int .i64 (0:Int),.int .i64 (0:Int),.slice Sl.nil.base Sl.nil.len Sl.nil.cap] 62
 have s1:h1.size=h.size+1:=size_alc _ _ _
 change To _ G1 h1 G2 h2 at y2
 change To _ G h G1 h1 at y1
 change Row h1 _ _ at r1
 change Row h2 h1.size _ at r2
 change G2.k h1.size=_ at k2
 have k1':=y2.kd k1 (by simp)
 have r1':=y2.rowK r1 k1 id
 have y02:=y1.trans y2
 have x2:=x.pure y02
 have s2:=x2.st
 obtain⟨lb,mb,ts,em,bk,am,q,tb,si⟩:=s2
 refine⟨_,rfl,_,x2.row.get rfl,(sLast_spec si).mono ?_⟩
 rintro _ _ ⟨rfl,hh⟩
 obtain rfl:=hh.symm
 refine⟨_,rfl,_,rfl,_,x2.row.get rfl,(sBegin_spec y2.ht x2.st o.sr.off (N:=N) (by omega) o.sr.mg).mono ?_⟩
 rintro _ h3 ⟨G3,D3,y3,w3,s3,m3,hcase⟩
 have x3:=x2.str y3 (Nat.le_succ N) s3
 have y03:To sStep G h G3 h3:=(y02.mono fun _ h=>h.elim).trans (y3.mono sSt_step)
 have k1'':=y3.kd k1' (by simp)
 have k2'':=y3.kd k2 (by simp)
 have r1'':=y3.rowK r1' k1' (by simp[sSt])
 have r2'':=y3.rowK r2 k2 (by simp[sSt])
 have hW3:G3.W=G.W:=w3.trans (w2.trans w1)
 rcases hcase with ⟨e,rfl,hne,rfl,hfail⟩ | ⟨rfl,rfl⟩
 ·obtain⟨ok4,b4,y4,r4⟩:=locSet y3.ht k1'' r1'' (i:=2) (by simp) (.int .i64 (0:Int))
  have x4:=x3.loc y4
  obtain⟨ok5,b5,y5,r5⟩:=locSet y4.ht k1'' r4 (i:=1) (by simp) (.int .i64 e)
  have x5:=x4.loc y5
  have r5:Row _ h.size (blkV a0 e 0 a3 a4):=r5
  have r25:=b5.row (b4.row r2'' (by omega)) (by omega)
  have y05:=b5.new (b4.new y03 (Nat.le_refl _)) (Nat.le_refl _)
  refine⟨_,_,rfl,ok4,ok5,IfB.eq (fun hh=>absurd hh hne) fun _=>r5.get5 ?_⟩
  refine locPut (vs:=blkV a0 e 0 a3 a4) y5.ht k2'' r25 rfl (blkV_ok _ _ _ _ _) fun h6 b6 y6 r6=>?_
  have r6:Row h6 h1.size (blkV a0 e 0 a3 a4):=r6
  refine r6.get5 ?_
  have x6:=x5.loc y6
  refine⟨G3,_,c,bg,all,bb,e,0,a3,rfl,b6.new y05 (by omega),hW3,by rw[set_same hc];exact x6,?_,rfl,rfl,rfl,rfl,fun hh=>(hfail hh).elim⟩
  exact o.mgr (Nat.le_succ _) m3 rfl fun j t h1 h2=>⟨t,h1,h2,rfl⟩
 ·obtain⟨ok4,b4,y4,r4⟩:=locSet y3.ht k1'' r1'' (i:=2) (by simp) (.int .i64 (0:Int))
  have x4:=x3.loc y4
  obtain⟨ok5,b5,y5,r5⟩:=locSet y4.ht k1'' r4 (i:=1) (by simp) (.int .i64 (0:Int))
  have x5:=x4.loc y5
  have r25:=b5.row (b4.row r2'' (by omega)) (by omega)
  have y05:=b5.new (b4.new y03 (Nat.le_refl _)) (Nat.le_refl _)
  refine⟨_,_,rfl,ok4,ok5,.yes rfl ⟨_,rfl,_,x5.row.get (scV_all x5.len).2,?_⟩⟩
  rw[show nw h=(⟨h.size,0,none⟩:Addr) from rfl]
  generalize hset (hset h3 ((⟨h.size,0,none⟩:Addr).add 2) (.int .i64 (0:Int))) ((⟨h.size,0,none⟩:Addr).add 1) (.int .i64 (0:Int))=h5 at *
  intro h6
  have e6:Ext h5 h6:=alc_ext _ _ _
  have s5:=y05.size
  have r6b:Row h6 h5.size [.int .i64 ((X.D.txs.length+1:Nat):Int),.int .i64 ev,.int .i64 (0:Int),.int .i64 (0:Int),.int .i64 (0:Int),.int .i64 (0:Int),.int .i64 (0:Int),.int .i64 (0:Int),.slice Sl.nil.base Sl.nil.len Sl.nil.cap,.slice Sl.nil.base Sl.nil.len Sl.nil.cap]:=Row.alc _ _ _
  obtain⟨y6,kb6,w6⟩:=y5.ht.kindNew e6 (b:=h5.size) (Nat.le_refl _) r6b.lt (k := .beg bg.length) id
  generalize G3.set h5.size (.beg bg.length) 0=G6 at *
  have x6:=x5.addBg (Nat.le_refl _) y6 (b:=⟨X.D.txs.length+1,0,[],ev,0⟩) ⟨kb6,_,_,_,_,Sl.nil,Sl.nil,r6b,SlA.nil _ _,Nat.zero_le _,SlP.nil _,Nat.zero_le _,fun _ h=>by simp at h⟩
  have k1a:=y6.kd k1'' (by simp)
  have k2a:=y6.kd k2'' (by simp)
  have r6:=r5.ext e6
  have r26:=r25.ext e6
  have y06:=y05.trans (y6.mono (S':=sStep) fun _ h=>h.elim)
  have ck6:=x6.cls k c hc
  have hbl:c.beg.len=c.L.length:=by have:=ck6.beg.own.len;simp at this;omega
  have hLN:=(x.cls k c hc).LN
  obtain⟨ok7,b7,y7,r7⟩:=locSet y6.ht k1a r6 (i:=2) (by simp) (.int .i64 (c.beg.len:Int))
  have x7:=x6.loc y7
  obtain⟨ok8,b8,y8,r8⟩:=locSet y7.ht k1a r7 (i:=3) (by simp) (.int .i64 X.D.last)
  have x8:=x7.loc y8
  have r28:=b8.row (b7.row r26 (by omega)) (by omega)
  have y08:=b8.new (b7.new y06 (Nat.le_refl _)) (Nat.le_refl _)
  refine⟨_,rfl,_,x6.cell hc (j:=1) (by omega) rfl,ok7,ok8,_,rfl,_,x8.cell hc (j:=1) (by omega) rfl,?_⟩
  have r8:Row _ h.size (blkV a0 0 (c.beg.len:Int) X.D.last a4):=r8
  generalize hset (hset h6 ((⟨h.size,0,none⟩:Addr).add 2) (.int .i64 (c.beg.len:Int))) ((⟨h.size,0,none⟩:Addr).add 3) (.int .i64 X.D.last)=h8 at *
  intro h9
  have ck8:=x8.cls k c hc
  refine OwnK.push (k := .one (12+k)) (news:=[pv h5.size]) trivial (fun h=>h) y8.ht rfl ck8.beg rfl (by simp[pv,cellOk]) (by omega) (by omega) fun r10 h10 G10 y10 o10 l10 w10=>?_
  have hpb:pv h5.size=pv ((fun i=>if i=bg.length then h5.size else bb i) bg.length):=by simp
  rw[hpb]at o10
  obtain⟨ok11,y11,x11⟩:=x8.pushBeg (n:=bg.length) hc y10 (by simpa [List.map_append] using o10) (by simp) (by omega)
  refine⟨_,rfl,ok11,_,rfl,_,x11.row.get (scV_all x11.len).1,?_⟩
  generalize hset h10 ((clA sc k).add 1) (.slice r10.base r10.len r10.cap)=h11 at *
  intro h12
  have hbgN:=o.bgN
  have hal:all.len=bg.length:=by have:=x11.all.own.len;simp at this;omega
  refine OwnK.push (k := .one 11) (news:=[pv h5.size]) trivial (fun h=>h) y11.ht rfl x11.all rfl (by simp[pv,cellOk]) (by omega) (by omega) fun r13 h13 G13 y13 o13 l13 w13=>?_
  rw[hpb]at o13
  obtain⟨ok14,y14,x14⟩:=x11.pushAll y13 (by rw[List.range_succ,List.map_append];exact o13)
  refine⟨_,rfl,ok14,?_⟩
  have st12:∀ q,q=Kd.one (12+k)→sStep q:=fun q e=>by rw[e];exact cl_step (x.lt hc)
  have yx:To (fun q=>q=.one (12+k)∨q=.one 1∨q=.one 11) G6 h8 G13 _:=(((y10.mono fun _ h=>.inl h).trans (y11.mono fun _ h=>.inr (.inl h))).trans (y13.mono fun _ h=>.inr (.inr h))).trans (y14.mono fun _ h=>.inr (.inl h))
  have k1b:=yx.kd k1a (by simp)
  have k2b:=yx.kd k2a (by simp)
  have hk8:=x.lt hc
  have r1b:=yx.rowK r8 k1a (by simp;omega)
  have r2b:=yx.rowK r28 k2a (by simp;omega)
  have y014:=y08.trans (yx.mono (S':=sStep) fun q hq=>by
   rcases hq with hq | rfl | rfl
   ·exact st12 q hq
   ·trivial
   ·trivial)
  refine r1b.get5 ?_
  refine locPut (vs:=blkV a0 0 (c.beg.len:Int) X.D.last a4) y14.ht k2b r2b rfl (blkV_ok _ _ _ _ _) fun h15 b15 y15 r15=>?_
  have r15:Row h15 h1.size (blkV a0 0 (c.beg.len:Int) X.D.last a4):=r15
  refine r15.get5 ?_
  refine⟨G13,{ X with D:=X.D.add },{ c with beg:=r10,L:=c.L ++ [bg.length] },bg ++ [⟨X.D.txs.length+1,0,[],ev,0⟩],r13,(fun i=>if i=bg.length then h5.size else bb i),0,(c.beg.len:Int),X.D.last,rfl,b15.new y014 (by omega),?_,?_,o.add rfl,rfl,rfl,rfl,rfl,fun _=>⟨rfl,rfl,rfl⟩⟩
  ·rw[w13,w10,w6];exact hW3
  ·have:=x14.loc y15
   rw[show bg.length+1=(bg ++ [(⟨X.D.txs.length+1,0,[],ev,0⟩:BgD)]).length by simp]at this
   exact this
end
section
variable{G:Gh}{h:Hp}
theorem retA(t:HT G h){la lr:Nat}{a0 a1 a2 a3:Int}{a4:Sl}{l5:List Value}(ra:Row h la (blkV a0 a1 a2 a3 a4))(kr:G.k lr=.one 30)(rr:Row h lr l5)(hl:l5.length=5){K:Int→Int→Int→Int→Sl→Hp→Prop}
 (hK:∀ h',ToB lr G h G h'→To isLoc G h G h'→K a0 a1 a2 a3 a4 h') :
 ∃ c4:Int,∃ c5:Int,∃ c6:Int,∃ c7:Int,∃ c8:Sl,hY h ⟨la,0,none⟩=some (.int .i64 c4)∧hY h ((⟨la,0,none⟩:Addr).add 1)=some (.int .i64 c5)∧hY h ((⟨la,0,none⟩:Addr).add 2)=some (.int .i64 c6)∧hY h ((⟨la,0,none⟩:Addr).add 3)=some (.int .i64 c7)∧hY h ((⟨la,0,none⟩:Addr).add 4)=some (.slice c8.base c8.len c8.cap)∧
   stCells ⟨lr,0,none⟩ 0 [.int .i64 c4,.int .i64 c5,.int .i64 c6,.int .i64 c7,.slice c8.base c8.len c8.cap] h fun vh7=>
   ∃ x:Int,∃ x1:Int,∃ x2:Int,∃ x3:Int,∃ x4:Sl,hY vh7 ⟨lr,0,none⟩=some (.int .i64 x)∧hY vh7 ((⟨lr,0,none⟩:Addr).add 1)=some (.int .i64 x1)∧hY vh7 ((⟨lr,0,none⟩:Addr).add 2)=some (.int .i64 x2)∧hY vh7 ((⟨lr,0,none⟩:Addr).add 3)=some (.int .i64 x3)∧hY vh7 ((⟨lr,0,none⟩:Addr).add 4)=some (.slice x4.base x4.len x4.cap)∧K x x1 x2 x3 x4 vh7:=
 ra.get5 (locPut (vs:=blkV a0 a1 a2 a3 a4) t kr rr (by rw[hl];rfl) (blkV_ok _ _ _ _ _) fun h' b y r=>Row.get5 (k:=a0) (e:=a1) (s:=a2) (l:=a3) (t:=a4) r (K:=fun x x1 x2 x3 x4=>K x x1 x2 x3 x4 h') (hK h' b y))
theorem retZ(t:HT G h){lr:Nat}{l5:List Value}(a0 a1 a2 a3:Int)(a4:Sl)(kr:G.k lr=.one 30)(rr:Row h lr l5)(hl:l5.length=5){K:Int→Int→Int→Int→Sl→Hp→Prop}
 (hK:∀ h',ToB lr G h G h'→To isLoc G h G h'→Row h' lr (blkV a0 a1 a2 a3 a4)→K a0 a1 a2 a3 a4 h') :
  stCells ⟨lr,0,none⟩ 0 [.int .i64 a0,.int .i64 a1,.int .i64 a2,.int .i64 a3,.slice a4.base a4.len a4.cap] h fun vh7=>
  ∃ x:Int,∃ x1:Int,∃ x2:Int,∃ x3:Int,∃ x4:Sl,hY vh7 ⟨lr,0,none⟩=some (.int .i64 x)∧hY vh7 ((⟨lr,0,none⟩:Addr).add 1)=some (.int .i64 x1)∧hY vh7 ((⟨lr,0,none⟩:Addr).add 2)=some (.int .i64 x2)∧hY vh7 ((⟨lr,0,none⟩:Addr).add 3)=some (.int .i64 x3)∧hY vh7 ((⟨lr,0,none⟩:Addr).add 4)=some (.slice x4.base x4.len x4.cap)∧K x x1 x2 x3 x4 vh7:=
 locPut (vs:=blkV a0 a1 a2 a3 a4) t kr rr (by rw[hl];rfl) (blkV_ok _ _ _ _ _) fun h' b y r=>Row.get5 (k:=a0) (e:=a1) (s:=a2) (l:=a3) (t:=a4) r (K:=fun x x1 x2 x3 x4=>K x x1 x2 x3 x4 h') (hK h' b y r)
end
section
variable{G:Gh}{h:Hp}{M N sc:Nat}{X:StD}{cl:List CSl}{bg:List BgD}{na base:Nat}{ev:Int}{db sb:Nat}{all:Sl}{bb:Nat→Nat}
theorem SdIn.setTo(t:HT G h)(x:SdIn G h M N sc X cl bg na ev db sb all bb){i:Nat}{b:BgD}(hb:bg[i]? = some b)(v:Int) :
 StOk h ((⟨bb i,0,none⟩:Addr).add 2)∧To (fun q=>q=.beg i) G h G (hset h ((⟨bb i,0,none⟩:Addr).add 2) (.int .i64 v))∧SdIn G (hset h ((⟨bb i,0,none⟩:Addr).add 2) (.int .i64 v)) M N sc X cl (bg.set i { b with to_:=v }) na ev db sb all bb:=by
 have xb:=x.beg i b hb
 obtain⟨g,tm,f,tt,rs,ps,r,p1,p2,p3,p4⟩:=xb.row
 obtain⟨ok,b1,r'⟩:=kset t xb.kd (fun h=>h) r (i:=2) (by simp) (.int .i64 v)
 have y:To (fun q=>q=.beg i) G h G _:=b1.to (by rw[xb.kd];exact⟨trivial,rfl⟩)
 have nst:∀ q,sStO q∨sMgr q →¬ q=.beg i:=fun q hq e=>by subst e;exact sSc_not _ hq trivial
 refine⟨ok,y,x.kd,y.rowK x.row x.kd (by simp),x.len,x.st.to y (Nat.le_refl _) nst,fun k c hc=>?_,x.all.to y (by simp),fun j d hd=>?_⟩
 ·exact(x.cls k c hc).to y (Nat.le_refl _) (by simp) (fun _ _=>rfl) (by simp)
 ·rw[List.getElem?_set]at hd
  by_cases e:i=j
  ·subst e
   rw[if_pos rfl]at hd
   split at hd
   ·injection hd with hd
    subst hd
    exact⟨xb.kd,g,tm,f,tt,rs,ps,r',p1,p2,p3,p4⟩
   ·cases hd
  ·rw[if_neg e]at hd
   exact(x.beg j d hd).to y (by simp;exact fun h=>e h.symm)
theorem SdOk.setTo{W:Int→List UInt8→Prop}(o:SdOk W N X bg base){i:Nat}{b:BgD}(hb:bg[i]? = some b)(v:Int):SdOk W N X (bg.set i { b with to_:=v }) base:=by
 have get:∀ (j:Nat) (d:BgD),(bg.set i { b with to_:=v })[j]? = some d →∃ d':BgD,bg[j]? = some d'∧d.h=d'.h:=fun j d hd=>by
  rw[List.getElem?_set]at hd
  by_cases e:i=j
  ·subst e
   rw[if_pos rfl]at hd
   split at hd
   ·injection hd with hd;subst hd;exact⟨b,hb,rfl⟩
   ·cases hd
  ·rw[if_neg e]at hd;exact⟨d,hd,rfl⟩
 refine⟨o.sr,by simpa using o.len,by simpa using o.bgN,fun j d hd=>?_,fun a l hw=>?_⟩
 ·obtain⟨d',h1,h2⟩:=get j d hd
  rw[h2];exact o.hs j d' h1
 ·rcases o.link a l hw with ⟨j,d,h1,h2,h3,h4⟩ | h
  ·by_cases e:i=j
   ·subst e
    rw[hb]at h1;cases h1
    exact .inl ⟨i,_,List.getElem?_set_self (List.getElem?_eq_some_iff.1 hb).1,h2,h3,h4⟩
   ·exact .inl ⟨j,d,by rw[List.getElem?_set_ne e];exact h1,h2,h3,h4⟩
  ·exact .inr h
theorem SdOk.tx{W:Int→List UInt8→Prop}(o:SdOk W N X bg base){i:Nat}{b:BgD}(hb:bg[i]? = some b)(h0:b.h≠0):∃ (j:Nat) (t:TxS),b.h=j+1∧X.D.txs[j]? = some t:=by
 have h1:=o.hs i b hb
 have hi:=(List.getElem?_eq_some_iff.1 hb).1
 have hl:=o.len
 by_cases hbse:i<base
 ·rw[if_pos hbse]at h1;exact absurd h1 h0
 ·rw[if_neg hbse]at h1
  exact⟨i-base,X.D.txs[i-base]'(by omega),by omega,List.getElem?_eq_getElem _⟩
theorem SdOk.commit{W:Int→List UInt8→Prop}{D':MgrD}{hd c:Int}(o:SdOk W N X bg base)(m:MgrOk N D')(r:CommitR X.D hd D' c):SdOk W N { X with D:=D' } bg base:=by
 rcases r with ⟨_,rfl,_⟩ | ⟨j,t,ht,h1,_,hr⟩
 ·exact o.mgr (Nat.le_refl _) m rfl fun j t h1 h2=>⟨t,h1,h2,rfl⟩
 ·have keep:∀ t':TxS,∀ (i:Nat) (u:TxS),X.D.txs[i]? = some u→u.state=3 →∃ u',(X.D.txs.set j t')[i]? = some u'∧u'.state=3∧u'.P=u.P:=fun t' i u hu h3=>by
   have hne:j≠i:=fun e=>by subst e;rw[ht]at hu;cases hu;omega
   exact⟨u,by rw[List.getElem?_set_ne hne];exact hu,h3,rfl⟩
  rcases hr with ⟨_,_,rfl⟩ | ⟨_,_,rfl⟩ | ⟨_,_,_,rfl⟩
  ·exact o.mgr (Nat.le_refl _) m (by simp[MgrD.set]) (keep _)
  ·exact o.mgr (Nat.le_refl _) m (by simp[MgrD.set]) (keep _)
  ·exact o.mgr (Nat.le_refl _) m (by simp) (keep _)
end
theorem beg_step(i:Nat):∀ q,q=Kd.beg i→sStep q:=fun q e=>by subst e;trivial
section
variable{G:Gh}{h:Hp}{M N sc:Nat}{X:StD}{cl:List CSl}{bg:List BgD}{na base:Nat}{ev:Int}{db sb:Nat}{all:Sl}{bb:Nat→Nat}
theorem SdIn.begH(x:SdIn G h M N sc X cl bg na ev db sb all bb){i:Nat}{b:BgD}(hb:bg[i]? = some b):hY h ⟨bb i,0,none⟩=some (.int .i64 (b.h:Int)):=by
 obtain⟨g,tm,f,tt,rs,ps,r,_⟩:=(x.beg i b hb).row
 exact r.get0 rfl
theorem commit_tail{W:Int→List UInt8→Prop}{G0:Gh}{h0:Hp}(y:To sStep G0 h0 G h)(x:SdIn G h M N sc X cl bg na ev db sb all bb)(o:SdOk W N X bg base){i:Nat}{b:BgD}(hb:bg[i]? = some b)(hnz:b.h≠0)
 {la lr:Nat} {a0 a1 a2 a3:Int} {a4:Sl} {l5:List Value} (ka:G.k la=.one 30) (ra:Row h la (blkV a0 a1 a2 a3 a4)) (kr:G.k lr=.one 30) (rr:Row h lr l5) (hl:l5.length=5) (hla:h0.size≤la) (hlr:h0.size≤lr) (hne:la≠lr) {KF KT:Int→Int→Int→Int→Sl→Hp→Prop}
 (hF:∀ (h':Hp),To sStep G0 h0 G h'→SdIn G h' M N sc X cl bg na ev db sb all bb→(∀ (j:Nat) (tx:TxS),b.h=j+1→X.D.txs[j]? = some tx→tx.state=2)→KF 0 0 0 0 Sl.nil h')
 (hT:∀ (h':Hp) (b0 b1 b2 b3:Int),To sStep G0 h0 G h'→SdIn G h' M N sc X cl (bg.set i { b with to_:=ev }) na ev db sb all bb→(∀ (j:Nat) (tx:TxS),b.h=j+1→X.D.txs[j]? = some tx→tx.state≠2)→KT b0 b1 b2 b3 a4 h') :
 ∃ a14:Addr,(some (⟨sc,0,none⟩:Addr))=some a14∧
   ∃ c27:Option Addr,hY h (a14.add 1)=some (.pointer c27)∧
   ∃ a15:Addr,(some (⟨bb i,0,none⟩:Addr))=some a15∧
   ∃ c28:Int,hY h a15=some (.int .i64 c28)∧
   HC Tryz.prog 189 #[.pointer c27,.int .i64 c28] h fun r3 vh9=>
   ∃ c29:Int,∃ c30:Int,∃ c31:Int,r3=.tuple #[.int .i64 c29,.int .i64 c30,.int .i64 c31]∧
   Ext h vh9∧
   IfB (c29 ==(2:Int)) (stCells ⟨lr,0,none⟩ 0 [.int .i64 (0:Int),.int .i64 (0:Int),.int .i64 (0:Int),.int .i64 (0:Int),.slice Sl.nil.base Sl.nil.len Sl.nil.cap] vh9 fun vh10=>
    ∃ x10:Int,∃ x11:Int,∃ x12:Int,∃ x13:Int,∃ x14:Sl,hY vh10 ⟨lr,0,none⟩=some (.int .i64 x10)∧hY vh10 ((⟨lr,0,none⟩:Addr).add 1)=some (.int .i64 x11)∧hY vh10 ((⟨lr,0,none⟩:Addr).add 2)=some (.int .i64 x12)∧hY vh10 ((⟨lr,0,none⟩:Addr).add 3)=some (.int .i64 x13)∧hY vh10 ((⟨lr,0,none⟩:Addr).add 4)=some (.slice x14.base x14.len x14.cap)∧
    KF x10 x11 x12 x13 x14 vh10)
   (IfB (c29 ==(3:Int)) (StOk vh9 ((⟨la,0,none⟩:Addr).add 3)∧
    Lt (hset vh9 ((⟨la,0,none⟩:Addr).add 3) (.int .i64 c30)) fun vh11=>
    ∃ a16:Addr,(some (⟨sc,0,none⟩:Addr))=some a16∧
    ∃ c32:Int,hY vh11 (a16.add 35)=some (.int .i64 c32)∧
    ∃ a17:Addr,(some (⟨bb i,0,none⟩:Addr))=some a17∧
    StOk vh11 (a17.add 2)∧
    Lt (hset vh11 (a17.add 2) (.int .i64 c32)) fun vh12=>
    ∃ c33:Int,∃ c34:Int,∃ c35:Int,∃ c36:Int,∃ c37:Sl,hY vh12 ⟨la,0,none⟩=some (.int .i64 c33)∧hY vh12 ((⟨la,0,none⟩:Addr).add 1)=some (.int .i64 c34)∧hY vh12 ((⟨la,0,none⟩:Addr).add 2)=some (.int .i64 c35)∧hY vh12 ((⟨la,0,none⟩:Addr).add 3)=some (.int .i64 c36)∧hY vh12 ((⟨la,0,none⟩:Addr).add 4)=some (.slice c37.base c37.len c37.cap)∧
    stCells ⟨lr,0,none⟩ 0 [.int .i64 c33,.int .i64 c34,.int .i64 c35,.int .i64 c36,.slice c37.base c37.len c37.cap] vh12 fun vh13=>
    ∃ x15:Int,∃ x16:Int,∃ x17:Int,∃ x18:Int,∃ x19:Sl,hY vh13 ⟨lr,0,none⟩=some (.int .i64 x15)∧hY vh13 ((⟨lr,0,none⟩:Addr).add 1)=some (.int .i64 x16)∧hY vh13 ((⟨lr,0,none⟩:Addr).add 2)=some (.int .i64 x17)∧hY vh13 ((⟨lr,0,none⟩:Addr).add 3)=some (.int .i64 x18)∧hY vh13 ((⟨lr,0,none⟩:Addr).add 4)=some (.slice x19.base x19.len x19.cap)∧
    KT x15 x16 x17 x18 x19 vh13)
    (StOk vh9 ((⟨la,0,none⟩:Addr).add 1)∧
     Lt (hset vh9 ((⟨la,0,none⟩:Addr).add 1) (.int .i64 c31)) fun vh14=>
     ∃ a18:Addr,(some (⟨sc,0,none⟩:Addr))=some a18∧
     ∃ c38:Int,hY vh14 (a18.add 35)=some (.int .i64 c38)∧
     ∃ a19:Addr,(some (⟨bb i,0,none⟩:Addr))=some a19∧
     StOk vh14 (a19.add 2)∧
     Lt (hset vh14 (a19.add 2) (.int .i64 c38)) fun vh15=>
     ∃ c39:Int,∃ c40:Int,∃ c41:Int,∃ c42:Int,∃ c43:Sl,hY vh15 ⟨la,0,none⟩=some (.int .i64 c39)∧hY vh15 ((⟨la,0,none⟩:Addr).add 1)=some (.int .i64 c40)∧hY vh15 ((⟨la,0,none⟩:Addr).add 2)=some (.int .i64 c41)∧hY vh15 ((⟨la,0,none⟩:Addr).add 3)=some (.int .i64 c42)∧hY vh15 ((⟨la,0,none⟩:Addr).add 4)=some (.slice c43.base c43.len c43.cap)∧
     stCells ⟨lr,0,none⟩ 0 [.int .i64 c39,.int .i64 c40,.int .i64 c41,.int .i64 c42,.slice c43.base c43.len c43.cap] vh15 fun vh16=>
     ∃ x20:Int,∃ x21:Int,∃ x22:Int,∃ x23:Int,∃ x24:Sl,hY vh16 ⟨lr,0,none⟩=some (.int .i64 x20)∧hY vh16 ((⟨lr,0,none⟩:Addr).add 1)=some (.int .i64 x21)∧hY vh16 ((⟨lr,0,none⟩:Addr).add 2)=some (.int .i64 x22)∧hY vh16 ((⟨lr,0,none⟩:Addr).add 3)=some (.int .i64 x23)∧hY vh16 ((⟨lr,0,none⟩:Addr).add 4)=some (.slice x24.base x24.len x24.cap)∧
     KT x20 x21 x22 x23 x24 vh16)):=by
 obtain⟨j,tx,hbj,htx⟩:=o.tx hb hnz
 refine⟨_,rfl,_,x.row.get rfl,_,rfl,_,x.begH hb,(sResult_spec x.st _).mono ?_⟩
 rintro r3 h9 ⟨hh,hr⟩
 obtain rfl:=hh.symm
 obtain rfl:r3=.tuple #[.int .i64 (tx.state:Int),.int .i64 tx.time,.int .i64 tx.code]:=by
  rcases hr with ⟨_,hn⟩ | ⟨j',t',h1,h2,rfl⟩
  ·exact absurd ⟨j,(List.getElem?_eq_some_iff.1 htx).1,by rw[hbj]⟩ hn
  ·obtain rfl:j'=j:=by rw[hbj]at h2;omega
   rw[htx]at h1;cases h1;rfl
 have uniq:∀ (j':Nat) (t':TxS),b.h=j'+1→X.D.txs[j']? = some t'→t'=tx:=fun j' t' h1 h2=>by
  obtain rfl:j'=j:=by omega
  rw[htx]at h2;cases h2;rfl
 have t9:=y.ht
 have fin:∀ (q:Nat) (v:Int) (p0 p1 p2 p3:Int),q<5→(blkV a0 a1 a2 a3 a4).set q (.int .i64 v)=blkV p0 p1 p2 p3 a4→tx.state≠2→StOk h ((⟨la,0,none⟩:Addr).add q)∧
  ∃ a18:Addr,(some (⟨sc,0,none⟩:Addr))=some a18∧
   ∃ c38:Int,hY (hset h ((⟨la,0,none⟩:Addr).add q) (.int .i64 v)) (a18.add 35)=some (.int .i64 c38)∧
   ∃ a19:Addr,(some (⟨bb i,0,none⟩:Addr))=some a19∧
   StOk (hset h ((⟨la,0,none⟩:Addr).add q) (.int .i64 v)) (a19.add 2)∧
   Lt (hset (hset h ((⟨la,0,none⟩:Addr).add q) (.int .i64 v)) (a19.add 2) (.int .i64 c38)) fun vh15=>
   ∃ c39:Int,∃ c40:Int,∃ c41:Int,∃ c42:Int,∃ c43:Sl,hY vh15 ⟨la,0,none⟩=some (.int .i64 c39)∧hY vh15 ((⟨la,0,none⟩:Addr).add 1)=some (.int .i64 c40)∧hY vh15 ((⟨la,0,none⟩:Addr).add 2)=some (.int .i64 c41)∧hY vh15 ((⟨la,0,none⟩:Addr).add 3)=some (.int .i64 c42)∧hY vh15 ((⟨la,0,none⟩:Addr).add 4)=some (.slice c43.base c43.len c43.cap)∧
   stCells ⟨lr,0,none⟩ 0 [.int .i64 c39,.int .i64 c40,.int .i64 c41,.int .i64 c42,.slice c43.base c43.len c43.cap] vh15 fun vh16=>
   ∃ x20:Int,∃ x21:Int,∃ x22:Int,∃ x23:Int,∃ x24:Sl,hY vh16 ⟨lr,0,none⟩=some (.int .i64 x20)∧hY vh16 ((⟨lr,0,none⟩:Addr).add 1)=some (.int .i64 x21)∧hY vh16 ((⟨lr,0,none⟩:Addr).add 2)=some (.int .i64 x22)∧hY vh16 ((⟨lr,0,none⟩:Addr).add 3)=some (.int .i64 x23)∧hY vh16 ((⟨lr,0,none⟩:Addr).add 4)=some (.slice x24.base x24.len x24.cap)∧
   KT x20 x21 x22 x23 x24 vh16:=by
  intro q v p0 p1 p2 p3 hq hset' hst
  obtain⟨ok1,b1,y1,r1⟩:=locSet t9 ka ra (i:=q) (by simpa [blkV] using hq) (.int .i64 v)
  rw[hset']at r1
  have x1:=x.loc y1
  have yy1:=b1.new y hla
  have rr1:=b1.row rr (Ne.symm hne)
  obtain⟨ok2,y2,x2⟩:=x1.setTo b1.ht hb ev
  have r2:=y2.rowK r1 ka (by simp)
  have rr2:=y2.rowK rr1 kr (by simp)
  refine⟨ok1,_,rfl,_,x1.row.get (scV_all x1.len).2,_,rfl,ok2,?_⟩
  refine retA y2.ht r2 kr rr2 hl fun h3 b3 y3=>?_
  refine hT h3 _ _ _ _ (b3.new (yy1.trans (y2.mono (beg_step i))) hlr) (x2.loc y3) fun j' t' h1 h2=>?_
  obtain rfl:=uniq j' t' h1 h2
  exact hst
 refine⟨_,_,_,rfl,.refl _,IfB.eq (fun h2=>?_) fun h2=>IfB.eq (fun h3=>?_) fun h3=>?_⟩
 ·refine retZ t9 0 0 0 0 Sl.nil kr rr hl fun h10 b10 y10 _=>?_
  refine hF h10 (b10.new y hlr) (x.loc y10) fun j' t' h1 h4=>?_
  obtain rfl:=uniq j' t' h1 h4
  omega
 ·exact fin 3 tx.time a0 a1 a2 tx.time (by omega) rfl (by omega)
 ·exact fin 1 tx.code a0 tx.code a2 a3 (by omega) rfl (by omega)
theorem locTwo(t:HT G h)(x:SdIn G h M N sc X cl bg na ev db sb all bb)(v1 v2:List Value)(ty1 ty2:Nat):∃ G2:Gh,To (fun _=>False) G h G2 (alc (alc h v1 ty1) v2 ty2)∧G2.W=G.W∧G2.k h.size=.one 30∧G2.k (h.size+1)=.one 30∧Row (alc (alc h v1 ty1) v2 ty2) h.size v1∧Row (alc (alc h v1 ty1) v2 ty2) (h.size+1) v2∧SdIn G2 (alc (alc h v1 ty1) v2 ty2) M N sc X cl bg na ev db sb all bb:=by
 obtain⟨G1,y1,w1,k1,r1⟩:=alcLoc t v1 ty1
 obtain⟨G2,y2,w2,k2,r2⟩:=alcLoc y1.ht v2 ty2
 have s1:(alc h v1 ty1).size=h.size+1:=size_alc _ _ _
 rw[s1]at k2 r2
 exact⟨G2,y1.trans y2,w2.trans w1,y2.kd k1 (by simp),k2,y2.rowK r1 k1 id,r2,x.pure (y1.trans y2)⟩
theorem dCommit_spec(t:HT G h)(x:SdIn G h M N sc X cl bg na ev db sb all bb)(o:SdOk G.W N X bg base)(hM:M≤1000000){k:Nat}{c:CSl}(hc:cl[k]? = some c){i:Nat}{b:BgD}(hb:bg[i]? = some b)(hnz:b.h≠0)(a0 a1 a2 a3:Int)(a4:Sl) :
 HC Tryz.prog 140 #[pv sc,.pointer (some (clA sc k)),pv (bb i),.agg #[.int .i64 a0,.int .i64 a1,.int .i64 a2,.int .i64 a3,.slice a4.base a4.len a4.cap]] h fun r h'=>∃ (G':Gh) (X':StD) (bg':List BgD) (okb:Bool) (b0 b1 b2 b3:Int) (s:Sl),
  r=.tuple #[.agg #[.int .i64 b0,.int .i64 b1,.int .i64 b2,.int .i64 b3,.slice s.base s.len s.cap],.bool okb]∧To sStep G h G' h'∧G'.W=G.W∧SdIn G' h' M N sc X' cl bg' na ev db sb all bb∧SdOk G.W N X' bg' base∧X'.dv=X.dv∧bg'.length=bg.length∧(s=a4∨s=Sl.nil)∧
  (∀ (j:Nat) (tx:TxS),b.h=j+1→X.D.txs[j]? = some tx →
   (c.asked=false→tx.state=1→tx.P ≠ []→X.D.read=false→X.D.last=0→X.D.queue = []→X.D.given<1099511627776→okb=false∧bg'=bg∧X' = { X with D:={ X.D with txs:=X.D.txs.set j { tx with state:=2,time:=X.D.given+1 },queue:=X.D.queue ++ [j+1],given:=X.D.given+1 } })∧
   (c.asked=true→tx.state=3→okb=true∧X'=X∧bg'=bg.set i { b with to_:=ev })):=by
 apply wc140
 unfold vc140
 intro h1 h2
 obtain⟨G2,y2,w2,ka,kr,ra,rr,x2⟩:=locTwo t x [.int .i64 a0,.int .i64 a1,.int .i64 a2,.int .i64 a3,.slice a4.base a4.len a4.cap] [.int .i64 (0:Int),.int .i64 (0:Int),.int .i64 (0:Int),.int .i64 (0:Int),.slice Sl.nil.base Sl.nil.len Sl.nil.cap] 62 62
 have e1:nw h=(⟨h.size,0,none⟩:Addr):=rfl
 have e2:nw h1=(⟨h.size+1,0,none⟩:Addr):=by show nw (alc h _ _)=_;unfold nw;rw[size_alc]
 rw[e1,e2]
 change To _ G h G2 h2 at y2
 change Row h2 _ _ at ra
 change Row h2 _ _ at rr
 change SdIn G2 h2 _ _ _ _ _ _ _ _ _ _ _ _ at x2
 clear_value h2
 clear e1 e2
 have ra:Row h2 h.size (blkV a0 a1 a2 a3 a4):=ra
 have y02:To sStep G h G2 h2:=y2.mono fun _ h=>h.elim
 refine⟨_,rfl,_,x2.cell hc (j:=3) (by omega) rfl,IfB.intro (fun hask=>?_) fun hask=>?_⟩
 ·have hask:c.asked=false:=by simpa using hask
  obtain⟨j,tx,hbj,htx⟩:=o.tx hb hnz
  refine⟨_,rfl,_,x2.row.get rfl,_,rfl,_,x2.begH hb,(sResult_spec x2.st _).mono ?_⟩
  rintro r3 h3 ⟨hh,hr⟩
  obtain rfl:=hh.symm
  obtain rfl:r3=.tuple #[.int .i64 (tx.state:Int),.int .i64 tx.time,.int .i64 tx.code]:=by
   rcases hr with ⟨_,hn⟩ | ⟨j',t',h1,h2,rfl⟩
   ·exact absurd ⟨j,(List.getElem?_eq_some_iff.1 htx).1,by rw[hbj]⟩ hn
   ·obtain rfl:j'=j:=by rw[hbj]at h2;omega
    rw[htx]at h1;cases h1;rfl
  have rR:=x2.row.filt (P:=kf G2 sSt) (kf_yes (by rw[x2.kd];simp[sSt]))
  obtain⟨g,tm,f,tt,rs,ps,rbg,_⟩:=(x2.beg i b hb).row
  have bR:=rbg.filt (P:=kf G2 sSt) (kf_yes (by rw[(x2.beg i b hb).kd];exact id))
  refine⟨_,_,_,rfl,.refl _,filt (kf G2 sSt) h2,sub_kf _ _ _,_,rfl,_,rR.get rfl,_,rfl,_,bR.get0 rfl,(sCommit_spec y2.ht x2.st o.sr.off hM o.sr.mg _).mono ?_⟩
  rintro _ h3 ⟨G3,cc,D3,rfl,y3,w3,s3,m3,hcr,hex⟩
  have x3:=x2.str y3 (Nat.le_refl N) s3
  have o3:=o.commit m3 hcr
  have ka3:=y3.kd ka (by simp)
  have kr3:=y3.kd kr (by simp)
  have ra3:=y3.rowK ra ka (by simp[sSt])
  have rr3:=y3.rowK rr kr (by simp[sSt])
  have y03:=y02.trans (y3.mono sSt_step)
  obtain⟨ok4,b4,y4,r4⟩:=locSet y3.ht ka3 ra3 (i:=1) (by simp[blkV]) (.int .i64 cc)
  have r4:Row _ h.size (blkV a0 cc a2 a3 a4):=r4
  have rr4:=b4.row rr3 (by omega)
  have x4:=x3.loc y4
  have y04:=b4.new y03 (Nat.le_refl _)
  have hW3:G3.W=G.W:=w3.trans w2
  refine⟨_,rfl,y3.kf,ok4,_,r4.get rfl,IfB.ne (fun hne=>?_) fun heq=>?_⟩
  ·
   obtain⟨j',tx',hbj',htx'⟩:=o3.tx hb hnz
   refine⟨_,rfl,_,x4.row.get rfl,_,rfl,_,x4.begH hb,(sResult_spec x4.st _).mono ?_⟩
   rintro r5 h5 ⟨hh,hr5⟩
   obtain rfl:=hh.symm
   obtain⟨p1,p2,p3,rfl⟩:∃ p1 p2 p3:Int,r5=.tuple #[.int .i64 p1,.int .i64 p2,.int .i64 p3]:=by
    rcases hr5 with ⟨rfl,_⟩ | ⟨_,_,_,_,rfl⟩
    ·exact⟨_,_,_,rfl⟩
    ·exact⟨_,_,_,rfl⟩
   have exq:∀ {okb:Bool} {bg':List BgD},∀ (j:Nat) (tx:TxS),b.h=j+1→X.D.txs[j]? = some tx →
    (c.asked=false→tx.state=1→tx.P ≠ []→X.D.read=false→X.D.last=0→X.D.queue = []→X.D.given<1099511627776→okb=false∧bg'=bg∧({ X with D:=D3 }:StD) = { X with D:={ X.D with txs:=X.D.txs.set j { tx with state:=2,time:=X.D.given+1 },queue:=X.D.queue ++ [j+1],given:=X.D.given+1 } })∧
    (c.asked=true→tx.state=3→okb=true∧({ X with D:=D3 }:StD)=X∧bg'=bg.set i { b with to_:=ev }):=fun j tx h1 h2=>
    ⟨fun _ h3 h4 h5 h6 h7 h8=>absurd (hex j tx h2 h3 (by rw[h1]) h4 h5 h6 h7 h8) hne,fun h=>by rw[hask]at h;cases h⟩
   refine⟨_,_,_,rfl,.refl _,IfB.ne (fun _=>?_) fun _=>?_⟩
   ·obtain⟨ok6,y6,x6⟩:=x4.setTo b4.ht hb ev
    have r6:=y6.rowK r4 ka3 (by simp)
    have rr6:=y6.rowK rr4 kr3 (by simp)
    refine⟨_,rfl,_,x4.row.get (scV_all x4.len).2,_,rfl,ok6,retA y6.ht r6 kr3 rr6 rfl fun h7 b7 y7=>?_⟩
    exact⟨G3,{ X with D:=D3 },_,true,_,_,_,_,a4,rfl,b7.new (y04.trans (y6.mono (beg_step i))) (by omega),hW3,x6.loc y7,o3.setTo hb ev,rfl,by simp,.inl rfl,exq⟩
   ·refine retA b4.ht r4 kr3 rr4 rfl fun h7 b7 y7=>?_
    exact⟨G3,{ X with D:=D3 },bg,true,_,_,_,_,a4,rfl,b7.new y04 (by omega),hW3,x4.loc y7,o3,rfl,rfl,.inl rfl,exq⟩
  ·
   have hst:∀ (j':Nat) (tx':TxS),b.h=j'+1→X.D.txs[j']? = some tx'→tx'.state=1→tx'.P ≠ []→D3 = { X.D with txs:=X.D.txs.set j' { tx' with state:=2,time:=X.D.given+1 },queue:=X.D.queue ++ [j'+1],given:=X.D.given+1 }:=fun j' tx' h1 h2 h3 h4=>?_
   ·refine commit_tail y04 x4 o3 hb hnz ka3 r4 kr3 rr4 rfl (Nat.le_refl _) (by omega) (by omega) (fun h7 y7 x7 hx7=>?_) fun h7 b0 b1 b2 b3 y7 x7 hx7=>?_
    ·exact⟨G3,{ X with D:=D3 },bg,false,_,_,_,_,Sl.nil,rfl,y7,hW3,x7,o3,rfl,rfl,.inr rfl,fun j' tx' h1 h2=>⟨fun _ h3 h4 _ _ _ _=>⟨rfl,rfl,by rw[hst j' tx' h1 h2 h3 h4]⟩,fun h=>by rw[hask]at h;cases h⟩⟩
    ·refine⟨G3,{ X with D:=D3 },_,true,b0,b1,b2,b3,a4,rfl,y7,hW3,x7,o3.setTo hb ev,rfl,by simp,.inl rfl,fun j' tx' h1 h2=>⟨fun _ h3 h4 _ _ _ _=>?_,fun h=>by rw[hask]at h;cases h⟩⟩
     have e3:=hst j' tx' h1 h2 h3 h4
     refine absurd rfl (hx7 j' { tx' with state:=2,time:=X.D.given+1 } h1 ?_)
     show D3.txs[j']? = _
     rw[e3]
     exact List.getElem?_set_self (List.getElem?_eq_some_iff.1 h2).1
   rcases hcr with ⟨hno,_,_⟩ | ⟨j2,t2,g1,g2,g3,⟨g4,_⟩ | ⟨_,g5,_⟩ | ⟨_,_,_,rfl⟩⟩
   ·exact absurd ⟨j',tx',h2,h3,by rw[h1]⟩ hno
   ·obtain rfl:j2=j':=by rw[h1]at g3;omega
    rw[h2]at g1;cases g1;exact absurd g4 h4
   ·exact absurd heq g5
   ·obtain rfl:j2=j':=by rw[h1]at g3;omega
    rw[h2]at g1;cases g1;rfl
 ·have hask:c.asked=true:=by simpa using hask
  refine commit_tail y02 x2 o hb hnz ka ra kr rr rfl (Nat.le_refl _) (by omega) (by omega) (fun h7 y7 x7 hx7=>?_) fun h7 b0 b1 b2 b3 y7 x7 hx7=>?_
  ·refine⟨G2,X,bg,false,_,_,_,_,Sl.nil,rfl,y7,w2,x7,o,rfl,rfl,.inr rfl,fun j' tx' h1 h2=>⟨fun h=>(by rw[hask]at h;cases h),fun _ h3=>?_⟩⟩
   have:=hx7 j' tx' h1 h2
   omega
  ·exact⟨G2,X,_,true,b0,b1,b2,b3,a4,rfl,y7,w2,x7,o.setTo hb ev,rfl,by simp,.inl rfl,fun j' tx' h1 h2=>⟨fun h=>(by rw[hask]at h;cases h),fun _ h3=>⟨rfl,rfl,rfl⟩⟩⟩
end
section
variable{G:Gh}{h:Hp}{M N sc:Nat}{X:StD}{cl:List CSl}{bg:List BgD}{na base:Nat}{ev:Int}{db sb:Nat}{all:Sl}{bb:Nat→Nat}
theorem locThree(t:HT G h)(x:SdIn G h M N sc X cl bg na ev db sb all bb)(v1 v2 v3:List Value)(ty1 ty2 ty3:Nat):∃ G2:Gh,To (fun _=>False) G h G2 (alc (alc (alc h v1 ty1) v2 ty2) v3 ty3)∧G2.W=G.W∧G2.k h.size=.one 30∧G2.k (h.size+1)=.one 30∧G2.k (h.size+2)=.one 30∧Row (alc (alc (alc h v1 ty1) v2 ty2) v3 ty3) h.size v1∧Row (alc (alc (alc h v1 ty1) v2 ty2) v3 ty3) (h.size+1) v2∧Row (alc (alc (alc h v1 ty1) v2 ty2) v3 ty3) (h.size+2) v3∧SdIn G2 (alc (alc (alc h v1 ty1) v2 ty2) v3 ty3) M N sc X cl bg na ev db sb all bb:=by
 obtain⟨G1,y1,w1,k1,k2,r1,r2,x1⟩:=locTwo t x v1 v2 ty1 ty2
 obtain⟨G2,y2,w2,k3,r3⟩:=alcLoc y1.ht v3 ty3
 have s1:(alc (alc h v1 ty1) v2 ty2).size=h.size+2:=by rw[size_alc,size_alc]
 rw[s1]at k3 r3
 exact⟨G2,y1.trans y2,w2.trans w1,y2.kd k1 (by simp),y2.kd k2 (by simp),k3,y2.rowK r1 k1 id,y2.rowK r2 k2 id,r3,x1.pure y2⟩
theorem SdIn.moreM{M':Nat}(x:SdIn G h M N sc X cl bg na ev db sb all bb)(t:HT G h)(hM:M≤M'):SdIn G h M' N sc X cl bg na ev db sb all bb:=
 x.to (To.refl t (S:=fun _=>False)) hM (Nat.le_refl _) (fun _ _ h=>h) fun _ _ _ h=>h
theorem SdOk.set{W:Int→List UInt8→Prop}{D':MgrD}{j:Nat}{tx t':TxS}(o:SdOk W N X bg base)(m:MgrOk N D')(hD:D'=X.D∨(X.D.txs[j]? = some tx∧tx.state=1∧D'=X.D.set j t')):SdOk W N { X with D:=D' } bg base:=by
 rcases hD with rfl | ⟨ht,h1,rfl⟩
 ·exact o
 ·exact o.mgr (Nat.le_refl _) m (by simp[MgrD.set]) fun i u hu h3=>by
   have hne:j≠i:=fun e=>by subst e;rw[ht]at hu;cases hu;omega
   exact⟨u,by show(X.D.txs.set j t')[i]? = _;rw[List.getElem?_set_ne hne];exact hu,h3,rfl⟩
theorem dCall_spec(t:HT G h)(x:SdIn G h M N sc X cl bg na ev db sb all bb)(o:SdOk G.W N X bg base)(hM:M+16≤1000000){k:Nat}{c:CSl}(hc:cl[k]? = some c){i:Nat}{b:BgD}(hb:bg[i]? = some b)(hnz:b.h≠0)(o0 o1 o2 o3:Int){o4:Sl}{P:List PutD}(sp:SlP G o4 P)(hP:PutsB P)(a0 a1 a2 a3:Int) :
 HC Tryz.prog 88 #[pv sc,.pointer (some (clA sc k)),pv (bb i),.agg #[.int .i64 o0,.int .i64 o1,.int .i64 o2,.int .i64 o3,.slice o4.base o4.len o4.cap],.agg #[.int .i64 a0,.int .i64 a1,.int .i64 a2,.int .i64 a3,.slice Sl.nil.base Sl.nil.len Sl.nil.cap]] h fun r h'=>∃ (G':Gh) (X':StD) (bg':List BgD) (okb:Bool) (b0 b1 b2 b3:Int) (s:Sl) (l:List UInt8),
  r=.tuple #[.agg #[.int .i64 b0,.int .i64 b1,.int .i64 b2,.int .i64 b3,.slice s.base s.len s.cap],.bool okb]∧To sStep G h G' h'∧G'.W=G.W∧SdIn G' h' (M+16) N sc X' cl bg' na ev db sb all bb∧SdOk G.W N X' bg' base∧X'.dv=X.dv∧bg'.length=bg.length∧SlB G' s l∧l.length≤1000∧
  (∀ (j:Nat) (tx:TxS),b.h=j+1→X.D.txs[j]? = some tx →
   (o0=3→tx.state=1→tx.P = [] →∀ a l,P = [(a,l)]→0≤a∧a<258→l.length=40→okb=true∧bg'=bg∧X' = { X with D:=X.D.set j { tx with P:=[(a,l)] } })∧
   (o0=4→c.asked=false→tx.state=1→tx.P ≠ []→X.D.read=false→X.D.last=0→X.D.queue = []→X.D.given<1099511627776→okb=false∧bg'=bg∧X' = { X with D:={ X.D with txs:=X.D.txs.set j { tx with state:=2,time:=X.D.given+1 },queue:=X.D.queue ++ [j+1],given:=X.D.given+1 } })∧
   (o0=4→c.asked=true→tx.state=3→okb=true∧X'=X∧bg'=bg.set i { b with to_:=ev })):=by
 apply wc88
 unfold vc88
 intro h1 h2 h3
 obtain⟨G3,y3,w3,ko,ka,kr,ro,ra,rr,x3⟩:=locThree t x [.int .i64 o0,.int .i64 o1,.int .i64 o2,.int .i64 o3,.slice o4.base o4.len o4.cap] [.int .i64 a0,.int .i64 a1,.int .i64 a2,.int .i64 a3,.slice Sl.nil.base Sl.nil.len Sl.nil.cap] [.int .i64 (0:Int),.int .i64 (0:Int),.int .i64 (0:Int),.int .i64 (0:Int),.slice Sl.nil.base Sl.nil.len Sl.nil.cap] 58 62 62
 have e1:nw h=(⟨h.size,0,none⟩:Addr):=rfl
 have e2:nw h1=(⟨h.size+1,0,none⟩:Addr):=by show nw (alc h _ _)=_;unfold nw;rw[size_alc]
 have e3:nw h2=(⟨h.size+2,0,none⟩:Addr):=by show nw (alc (alc h _ _) _ _)=_;unfold nw;rw[size_alc,size_alc]
 rw[e1,e2,e3]
 change To _ G h G3 h3 at y3
 change Row h3 _ _ at ro
 change Row h3 _ _ at ra
 change Row h3 _ _ at rr
 change SdIn G3 h3 _ _ _ _ _ _ _ _ _ _ _ _ at x3
 clear_value h3
 clear e1 e2 e3
 have ra:Row h3 (h.size+1) (blkV a0 a1 a2 a3 Sl.nil):=ra
 have y03:To sStep G h G3 h3:=y3.mono fun _ h=>h.elim
 have sp3:=sp.mono y3.le
 obtain⟨g,tm,f,tt,rs,ps,rbg,_⟩:=(x3.beg i b hb).row
 have kb:=(x3.beg i b hb).kd
 refine⟨_,ro.get0 rfl,IfB.eq (fun hk=>?_) fun hk2=>IfB.eq (fun hk=>?_) fun hk3=>IfB.eq (fun hk=>?_) fun hk5=>IfB.eq (fun hk=>?_) fun hk4=>?_⟩
 ·
  let Q:Nat→Bool:=fun q=>kf G3 sSt q && decide (q≠h.size+1)
  have qs:Q sc=true:=by
   have:sc≠h.size+1:=fun e=>by have:=x3.kd;rw[e,ka]at this;cases this
   simp[Q,this,kf_yes (G:=G3) (S:=sSt) (b:=sc) (by rw[x3.kd];simp[sSt])]
  have qb:Q (bb i)=true:=by
   have:bb i≠h.size+1:=fun e=>by rw[e,ka]at kb;cases kb
   simp[Q,this,kf_yes (G:=G3) (S:=sSt) (b:=bb i) (by rw[kb];exact id)]
  have qo:Q h.size=true:=by
   simp[Q,kf_yes (G:=G3) (S:=sSt) (b:=h.size) (by rw[ko];simp[sSt])]
  refine⟨filt Q h3,sub_filt fun _ _ _=>rfl,_,rfl,_,(x3.row.filt qs).get rfl,_,rfl,_,(rbg.filt qb).get0 rfl,_,(ro.filt qo).get rfl,_,(ro.filt qo).get rfl,(sRead_spec y3.ht x3.st o.sr.off (by omega) _ _ _).mono ?_⟩
  rintro _ h4 ⟨G4,cc,s,l,rfl,y4,w4,sl,hl,s4⟩
  have x4:=x3.str y4 (Nat.le_refl N) s4
  have ka4:=y4.kd ka (by simp)
  have kr4:=y4.kd kr (by simp)
  have ra4:=y4.rowK ra ka (by simp[sSt])
  have rr4:=y4.rowK rr kr (by simp[sSt])
  have fr4:∀ q,q<h3.size→Q q=true→h4[q]? = h3[q]?:=fun q hq hQ=>y4.fr q hq fun hh=>by
   have:kf G3 sSt q=true:=by simp only[Q,Bool.and_eq_true]at hQ;exact hQ.1
   simp[kf]at this
   exact this hh.1 hh.2
  obtain⟨ok5,b5,y5,r5⟩:=locSet y4.ht ka4 ra4 (i:=4) (by simp[blkV]) (.slice s.base s.len s.cap)
  have r5:Row _ (h.size+1) (blkV a0 a1 a2 a3 s):=r5
  have x5:=x4.loc y5
  obtain⟨ok6,b6,y6,r6⟩:=locSet y5.ht ka4 r5 (i:=1) (by simp[blkV]) (.int .i64 cc)
  have r6:Row _ (h.size+1) (blkV a0 cc a2 a3 s):=r6
  have x6:=x5.loc y6
  have rr6:=b6.row (b5.row rr4 (by omega)) (by omega)
  have y06:=b6.new (b5.new (y03.trans (y4.mono sSt_step)) (by omega:h.size≤h.size+1)) (by omega:h.size≤h.size+1)
  refine⟨s,cc,rfl,sub_filt fr4,ok5,sub_filt fun q hq hQ=>?_,ok6,retA y6.ht r6 kr4 rr6 rfl fun h7 b7 y7=>?_⟩
  ·have hne:q≠h.size+1:=by
    simp only[Q,Bool.and_eq_true,decide_eq_true_eq]at hQ;exact hQ.2
   rw[b5.fr q (by have:=y4.size;omega) hne,fr4 q hq hQ]
  ·exact⟨G4,X,bg,true,_,_,_,_,s,l,rfl,b7.new y06 (by omega),w4.trans w3,x6.loc y7,o,rfl,rfl,sl,hl,fun j tx h1 h2=>⟨fun h=>by omega,fun h=>by omega,fun h=>by omega⟩⟩
 ·
  have rR:=x3.row.filt (P:=kf G3 sSt) (kf_yes (by rw[x3.kd];simp[sSt]))
  have bR:=rbg.filt (P:=kf G3 sSt) (kf_yes (by rw[kb];exact id))
  have oR:=ro.filt (P:=kf G3 sSt) (kf_yes (by rw[ko];simp[sSt]))
  refine⟨filt (kf G3 sSt) h3,sub_kf _ _ _,_,rfl,_,rR.get rfl,_,rfl,_,bR.get0 rfl,o4,oR.get rfl,(sWrite_spec y3.ht x3.st o.sr.off o.sr.mg _ (sp3.puts y3.ht) hP).mono ?_⟩
  rintro _ h4 ⟨G4,cc,D4,rfl,y4,w4,s4,m4,hcase,hex⟩
  have x4:=x3.str y4 (Nat.le_refl N) s4
  have o4':SdOk G.W N { X with D:=D4 } bg base:=by
   rcases hcase with ⟨_,rfl⟩ | ⟨j,tx,P',h1,h2,_,_,_,rfl⟩
   ·exact o
   ·exact o.set m4 (.inr ⟨h1,h2,rfl⟩)
  have ka4:=y4.kd ka (by simp)
  have kr4:=y4.kd kr (by simp)
  have ra4:=y4.rowK ra ka (by simp[sSt])
  have rr4:=y4.rowK rr kr (by simp[sSt])
  obtain⟨ok6,b6,y6,r6⟩:=locSet y4.ht ka4 ra4 (i:=1) (by simp[blkV]) (.int .i64 cc)
  have r6:Row _ (h.size+1) (blkV a0 cc a2 a3 Sl.nil):=r6
  have x6:=x4.loc y6
  have rr6:=b6.row rr4 (by omega)
  have y06:=b6.new (y03.trans (y4.mono sSt_step)) (by omega:h.size≤h.size+1)
  refine⟨_,rfl,y4.kf,ok6,retA y6.ht r6 kr4 rr6 rfl fun h7 b7 y7=>?_⟩
  refine⟨G4,{ X with D:=D4 },bg,true,_,_,_,_,Sl.nil,[],rfl,b7.new y06 (by omega),w4.trans w3,(x6.loc y7).moreM b7.ht (by omega),o4',rfl,rfl,SlB.nil _,by simp,fun j tx h1 h2=>⟨fun _ h3 h4 a l h5 h6 h7=>?_,fun h=>by omega,fun h=>by omega⟩⟩
  obtain⟨_,hD⟩:=hex j tx a l h2 h3 (by rw[h1]) h5 h6 h7 h4
  exact⟨rfl,rfl,by rw[hD]⟩
 ·
  have rR:=x3.row.filt (P:=kf G3 sSt) (kf_yes (by rw[x3.kd];simp[sSt]))
  have bR:=rbg.filt (P:=kf G3 sSt) (kf_yes (by rw[kb];exact id))
  refine⟨filt (kf G3 sSt) h3,sub_kf _ _ _,_,rfl,_,rR.get rfl,_,rfl,_,bR.get0 rfl,(sAbort_spec y3.ht x3.st o.sr.off o.sr.mg _).mono ?_⟩
  rintro _ h4 ⟨G4,cc,D4,rfl,y4,w4,s4,m4,hcase⟩
  have x4:=x3.str y4 (Nat.le_refl N) s4
  have o4':SdOk G.W N { X with D:=D4 } bg base:=by
   rcases hcase with ⟨_,rfl⟩ | ⟨j,tx,h1,h2,_,_,rfl⟩
   ·exact o
   ·exact o.set m4 (.inr ⟨h1,h2,rfl⟩)
  have ka4:=y4.kd ka (by simp)
  have kr4:=y4.kd kr (by simp)
  have ra4:=y4.rowK ra ka (by simp[sSt])
  have rr4:=y4.rowK rr kr (by simp[sSt])
  obtain⟨ok6,b6,y6,r6⟩:=locSet y4.ht ka4 ra4 (i:=1) (by simp[blkV]) (.int .i64 cc)
  have r6:Row _ (h.size+1) (blkV a0 cc a2 a3 Sl.nil):=r6
  have x6:=x4.loc y6
  have rr6:=b6.row rr4 (by omega)
  have y06:=b6.new (y03.trans (y4.mono sSt_step)) (by omega:h.size≤h.size+1)
  refine⟨_,rfl,y4.kf,ok6,_,r6.get rfl,IfB.eq (fun _=>?_) fun _=>?_⟩
  ·obtain⟨ok7,y7,x7⟩:=x6.setTo b6.ht hb ev
   have r7:=y7.rowK r6 ka4 (by simp)
   have rr7:=y7.rowK rr6 kr4 (by simp)
   refine⟨_,rfl,_,x6.row.get (scV_all x6.len).2,_,rfl,ok7,retA y7.ht r7 kr4 rr7 rfl fun h8 b8 y8=>?_⟩
   exact⟨G4,{ X with D:=D4 },_,true,_,_,_,_,Sl.nil,[],rfl,b8.new (y06.trans (y7.mono (beg_step i))) (by omega),w4.trans w3,(x7.loc y8).moreM b8.ht (by omega),o4'.setTo hb ev,rfl,by simp,SlB.nil _,by simp,fun j tx h1 h2=>⟨fun h=>by omega,fun h=>by omega,fun h=>by omega⟩⟩
  ·refine retA y6.ht r6 kr4 rr6 rfl fun h8 b8 y8=>?_
   exact⟨G4,{ X with D:=D4 },bg,true,_,_,_,_,Sl.nil,[],rfl,b8.new y06 (by omega),w4.trans w3,(x6.loc y8).moreM b8.ht (by omega),o4',rfl,rfl,SlB.nil _,by simp,fun j tx h1 h2=>⟨fun h=>by omega,fun h=>by omega,fun h=>by omega⟩⟩
 ·
  refine ra.get5 ((dCommit_spec y3.ht x3 (by rw[w3];exact o) (by omega) hc hb hnz a0 a1 a2 a3 Sl.nil).mono ?_)
  rintro _ h4 ⟨G4,X4,bg4,okb,b0,b1,b2,b3,s,rfl,y4,w4,x4,o4',hdv,hlen,hs,hex⟩
  have kr4:=y4.kd kr (by simp)
  have rr4:=y4.rowK rr kr (by simp[sStep,sSt])
  have hs:s=Sl.nil:=hs.elim id id
  subst hs
  rw[w3]at o4'
  refine⟨b0,b1,b2,b3,Sl.nil,okb,rfl,retZ y4.ht b0 b1 b2 b3 Sl.nil kr4 rr4 rfl fun h5 b5 y5 _=>?_⟩
  refine⟨G4,X4,bg4,okb,b0,b1,b2,b3,Sl.nil,[],rfl,b5.new (y03.trans y4) (by omega),w4.trans w3,(x4.loc y5).moreM b5.ht (by omega),o4',hdv,hlen,SlB.nil _,by simp,fun j tx h1 h2=>⟨fun h=>by omega,fun _=>(hex j tx h1 h2).1,fun _=>(hex j tx h1 h2).2⟩⟩
 ·
  refine retA y3.ht ra kr rr rfl fun h5 b5 y5=>?_
  exact⟨G3,X,bg,true,_,_,_,_,Sl.nil,[],rfl,b5.new y03 (by omega),w3,(x3.loc y5).moreM b5.ht (by omega),o,rfl,rfl,SlB.nil _,by simp,fun j tx h1 h2=>⟨fun h=>by omega,fun h=>by omega,fun h=>by omega⟩⟩
end
end Go.Proofs.YtdpdkpfnfllipaaGreatDoor

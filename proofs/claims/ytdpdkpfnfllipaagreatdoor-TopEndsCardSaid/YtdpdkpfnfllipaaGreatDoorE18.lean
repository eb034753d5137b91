/- A part of the proof, no condition. -/
import Derived.Test.YtdpdkpfnfllipaaGreatDoorE17
set_option linter.unusedVariables false
set_option linter.unusedSimpArgs false
namespace Go.Proofs.YtdpdkpfnfllipaaGreatDoor
structure ClOk(G:Gh)(h:Hp)(N k:Nat)(c:CSl)(n:Nat)(bb:Nat→Nat):Prop where
 ops:SlA G (.ops 0) c.ops
 len:c.ops.len≤200
 asked:c.asked=true→1≤c.ops.len
 beg:OwnK (.one (12+k)) 1 G h c.beg (c.L.map fun i=>pv (bb i))
 L:∀ i∈c.L,i<n
 ans:SlA G (.ans 0) c.ans
 ansN:c.ans.len≤N
 LN:c.L.length≤N
structure BgAt(G:Gh)(h:Hp)(i bk:Nat)(b:BgD):Prop where
 kd:G.k bk=.beg i
 row:∃ (g tm f t:Int) (rs ps:Sl),Row h bk [.int .i64 (b.h:Int),.int .i64 b.fr,.int .i64 b.to_,.int .i64 b.st,.int .i64 g,.int .i64 tm,.int .i64 f,.int .i64 t,.slice rs.base rs.len rs.cap,.slice ps.base ps.len ps.cap]∧SlA G (.reads 0) rs∧rs.len≤1000000∧SlP G ps b.P∧PutsB b.P
structure SdIn(G:Gh)(h:Hp)(M N sc:Nat)(X:StD)(cl:List CSl)(bg:List BgD)(na:Nat)(ev:Int)(db sb:Nat)(all:Sl)(bb:Nat→Nat):Prop where
 kd:G.k sc=.one 1
 row:Row h sc (scV db sb cl all ev)
 len:cl.length=8
 st:StAt G h M sb db X
 cls:∀ k c,cl[k]? = some c→ClOk G h N k c bg.length bb
 all:OwnK (.one 11) 1 G h all ((List.range na).map fun i=>pv (bb i))
 beg:∀ i b,bg[i]? = some b→BgAt G h i (bb i) b
def sSc:Kd→Prop
 | .one n=>n=1∨(11≤n∧n≤19)
 | .beg _=>True
 | .arr (.ops _) _=>True
 | .arr (.ans _) _=>True
 | _=>False
theorem sSc_not:∀ k,sStO k∨sMgr k →¬ sSc k:=fun k hk=>by
 rcases hk with (hk | rfl | rfl) | hk
 ·cases k <;> first | exact hk.elim | exact fun h=>h
 ·simp[sSc]
 ·simp[sSc]
 ·cases k <;> first | exact hk.elim | (simp only[sMgr]at hk;simp only[sSc];omega) | exact fun h=>h
section
variable{G:Gh}{h:Hp}{M N sc:Nat}{X:StD}{cl:List CSl}{bg:List BgD}{na:Nat}{ev:Int}{db sb:Nat}{all:Sl}{bb:Nat→Nat}
theorem StAt.to{S:Kd→Prop}{G':Gh}{h':Hp}{M':Nat}(x:StAt G h M sb db X)(y:To S G h G' h')(hM:M≤M')(hS:∀ k,sStO k∨sMgr k →¬ S k):StAt G' h' M' sb db X:=by
 obtain⟨lb,mb,ts,em,bk,am,q,tb,x⟩:=x
 exact⟨lb,mb,ts,em,bk,am,q,tb,x.to y hM hS⟩
theorem ClOk.to{S:Kd→Prop}{G':Gh}{h':Hp}{N' k n n':Nat}{c:CSl}{bb':Nat→Nat}(x:ClOk G h N k c n bb)(y:To S G h G' h')(hN:N≤N')(hn:n≤n')(hb:∀ i,i<n→bb' i=bb i)(hS:¬ S (.one (12+k))):ClOk G' h' N' k c n' bb':=by
 refine⟨x.ops.mono y.le,x.len,x.asked,?_,fun i hi=>Nat.lt_of_lt_of_le (x.L i hi) hn,x.ans.mono y.le,Nat.le_trans x.ansN hN,Nat.le_trans x.LN hN⟩
 have:=x.beg.to y hS
 have e:(c.L.map fun i=>pv (bb' i))=c.L.map fun i=>pv (bb i):=List.map_congr_left fun i hi=>by rw[hb i (x.L i hi)]
 rw[e];exact this
theorem BgAt.to{S:Kd→Prop}{G':Gh}{h':Hp}{i bk:Nat}{b:BgD}(x:BgAt G h i bk b)(y:To S G h G' h')(hS:¬ S (.beg i)):BgAt G' h' i bk b:=by
 obtain⟨g,tm,f,t,rs,ps,r,a,l,p,q⟩:=x.row
 exact⟨y.kd x.kd (by simp),g,tm,f,t,rs,ps,y.rowK r x.kd hS,a.mono y.le,l,p.mono y.le,q⟩
theorem sSt_cl{k:Nat}(hk:k<8):¬ sSt (.one (12+k)):=by simp only[sSt];omega
theorem SdIn.lt(x:SdIn G h M N sc X cl bg na ev db sb all bb){k:Nat}{c:CSl}(hc:cl[k]? = some c):k<8:=by
 have:=(List.getElem?_eq_some_iff.1 hc).1
 have:=x.len
 omega
theorem SdIn.str{G':Gh}{h':Hp}{M' N':Nat}{X':StD}(x:SdIn G h M N sc X cl bg na ev db sb all bb)(y:To sSt G h G' h')(hN:N≤N')(s:StAt G' h' M' sb db X'):SdIn G' h' M' N' sc X' cl bg na ev db sb all bb:=
 ⟨y.kd x.kd (by simp),y.rowK x.row x.kd (by simp[sSt]),x.len,s,fun k c hc=>(x.cls k c hc).to y hN (Nat.le_refl _) (fun _ _=>rfl) (sSt_cl (x.lt hc)),x.all.to y (by simp[sSt]),fun i b hb=>(x.beg i b hb).to y id⟩
theorem SdIn.pure{G':Gh}{h':Hp}(x:SdIn G h M N sc X cl bg na ev db sb all bb)(y:To (fun _=>False) G h G' h'):SdIn G' h' M N sc X cl bg na ev db sb all bb:=
 x.str (y.mono fun _ h=>h.elim) (Nat.le_refl _) (x.st.to y (Nat.le_refl _) fun _ _ h=>h)
theorem SdIn.own{G':Gh}{h':Hp}{ev':Int}(x:SdIn G h M N sc X cl bg na ev db sb all bb)(y:To (fun k=>k=.one 1) G h G' h')(hr:Row h' sc (scV db sb cl all ev')):SdIn G' h' M N sc X cl bg na ev' db sb all bb:=
 ⟨y.kd x.kd (by simp),hr,x.len,x.st.to y (Nat.le_refl _) fun k hk e=>by subst e;exact sSc_not _ hk (by simp[sSc]),fun k c hc=>(x.cls k c hc).to y (Nat.le_refl _) (Nat.le_refl _) (fun _ _=>rfl) (by simp;omega),x.all.to y (by simp),fun i b hb=>(x.beg i b hb).to y (by simp)⟩
theorem SdIn.evt(t:HT G h)(x:SdIn G h M N sc X cl bg na ev db sb all bb)(ev':Int):hY h ((⟨sc,0,none⟩:Addr).add 35)=some (.int .i64 ev)∧StOk h ((⟨sc,0,none⟩:Addr).add 35)∧To (fun k=>k=.one 1) G h G (hset h ((⟨sc,0,none⟩:Addr).add 35) (.int .i64 ev'))∧SdIn G (hset h ((⟨sc,0,none⟩:Addr).add 35) (.int .i64 ev')) M N sc X cl bg na ev' db sb all bb:=by
 obtain⟨ok,b,r⟩:=kset t x.kd (fun h=>h) x.row (i:=35) (by rw[scV_len x.len];omega) (.int .i64 ev')
 rw[scV_setEv x.len]at r
 have y:To (fun k=>k=.one 1) G h G _:=b.to (by rw[x.kd];exact⟨trivial,rfl⟩)
 exact⟨x.row.get (scV_all x.len).2,ok,y,x.own y r⟩
theorem dGone_spec(x:SdIn G h M N sc X cl bg na ev db sb all bb):HC Tryz.prog 31 #[pv sc] h fun r h'=>r=.bool false∧h'=h:=by
 apply wc31
 unfold vc31
 exact .no rfl ⟨_,rfl,_,x.row.get rfl,rfl,rfl⟩
theorem dStore_spec(x:SdIn G h M N sc X cl bg na ev db sb all bb):HC Tryz.prog 13 #[pv sc] h fun r h'=>r=pv sb∧h'=h:=by
 apply wc13
 unfold vc13
 refine(dGone_spec x).mono ?_
 rintro _ _ ⟨rfl,rfl⟩
 exact⟨_,rfl,.no rfl ⟨_,rfl,_,x.row.get rfl,rfl,rfl⟩⟩
def clA(sc k:Nat):Addr:=⟨sc,2+k*4,none⟩
theorem dClient_spec(x:SdIn G h M N sc X cl bg na ev db sb all bb)(k:Int):HC Tryz.prog 43 #[pv sc,.int .i64 k] h fun r h'=>h'=h∧((r=.pointer none∧¬ (1≤k∧k≤8)) ∨∃ (i:Nat) (c:CSl),k=((i+1:Nat):Int)∧i<8∧cl[i]? = some c∧r=.pointer (some (clA sc i))):=by
 apply wc43
 unfold vc43
 refine(dGone_spec x).mono ?_
 rintro _ _ ⟨rfl,rfl⟩
 refine⟨_,rfl,.no rfl (IfB.dec (fun h1=>⟨rfl,.inl ⟨rfl,by omega⟩⟩) fun h1=>IfB.dec (fun h2=>⟨rfl,.inl ⟨rfl,by omega⟩⟩) fun h2=>?_)⟩
 obtain⟨i,rfl⟩:∃ i:Nat,k=((i+1:Nat):Int):=⟨(k-1).toNat,by omega⟩
 have e:iSub .i64 ((i+1:Nat):Int) (1:Int)=(i:Int):=by rw[iSub64 (by omega)];omega
 rw[e]
 have hl:=x.len
 refine⟨_,rfl,by omega,by omega,rfl,.inr ⟨i,cl[i]'(by omega),rfl,by omega,List.getElem?_eq_getElem _,?_⟩⟩
 rw[Int.toNat_natCast,add_add,add_none]
 unfold clA
 simp
theorem SdIn.cell(x:SdIn G h M N sc X cl bg na ev db sb all bb){k:Nat}{c:CSl}(hc:cl[k]? = some c){j:Nat}(hj:j<4){v:Value}(hv:(clV c)[j]? = some v):hY h ((clA sc k).add j)=some v:=by
 have hk:=x.lt hc
 have:=x.row.get (i:=2+(k*4+j)) (v:=v) (by rw[scV_get x.len hk hj hc];exact hv)
 unfold clA
 rw[add_none]at this ⊢
 rw[show 2+k*4+j=0+(2+(k*4+j)) by omega]
 exact this
theorem SdIn.cell0(x:SdIn G h M N sc X cl bg na ev db sb all bb){k:Nat}{c:CSl}(hc:cl[k]? = some c):hY h (clA sc k)=some (.slice c.ops.base c.ops.len c.ops.cap):=by
 have:=x.cell hc (j:=0) (by omega) rfl
 rwa[Addr.add_zero]at this
theorem clA_add(sc k j:Nat):(clA sc k).add j=(⟨sc,0,none⟩:Addr).add (2+(k*4+j)):=by unfold clA;rw[add_none,add_none];congr 1;omega
theorem SdIn.cset(t:HT G h)(x:SdIn G h M N sc X cl bg na ev db sb all bb){k:Nat}{c c':CSl}(hc:cl[k]? = some c){j:Nat}(hj:j<4){v:Value}(hv:(clV c).set j v=clV c')(hok:ClOk G h N k c' bg.length bb) :
 StOk h ((clA sc k).add j)∧To (fun k=>k=.one 1) G h G (hset h ((clA sc k).add j) v)∧SdIn G (hset h ((clA sc k).add j) v) M N sc X (cl.set k c') bg na ev db sb all bb:=by
 have hk:=x.lt hc
 rw[clA_add]
 obtain⟨ok,b,r⟩:=kset t x.kd (fun h=>h) x.row (i:=2+(k*4+j)) (by rw[scV_len x.len];omega) v
 rw[scV_set hj hc hv]at r
 have y:To (fun k=>k=.one 1) G h G _:=b.to (by rw[x.kd];exact⟨trivial,rfl⟩)
 refine⟨ok,y,y.kd x.kd (by simp),r,by simpa using x.len,x.st.to y (Nat.le_refl _) fun k hk e=>by subst e;exact sSc_not _ hk (by simp[sSc]),fun i d hd=>?_,x.all.to y (by simp),fun i b hb=>(x.beg i b hb).to y (by simp)⟩
 rw[List.getElem?_set]at hd
 by_cases e:k=i
 ·subst e
  rw[if_pos rfl]at hd
  split at hd
  ·injection hd with hd;subst hd
   exact hok.to y (Nat.le_refl _) (Nat.le_refl _) (fun _ _=>rfl) (by simp;omega)
  ·cases hd
 ·rw[if_neg e]at hd
  exact(x.cls i d hd).to y (Nat.le_refl _) (Nat.le_refl _) (fun _ _=>rfl) (by simp;omega)
end
def LinkP(W:Int→List UInt8→Prop)(D:MgrD)(bg:List BgD)(base:Nat)(Q:Nat→Prop):Prop:=
 ∀ a l,W a l→(∃ (i:Nat) (b:BgD),bg[i]? = some b∧i<base∧(b.st=2∨b.st=3)∧(a,l)∈b.P) ∨∃ (j:Nat) (t:TxS),D.txs[j]? = some t∧Q t.state∧(a,l)∈t.P
structure SdOk(W:Int→List UInt8→Prop)(N:Nat)(X:StD)(bg:List BgD)(base:Nat):Prop where
 sr:SrOk W N X
 len:bg.length=base+X.D.txs.length
 bgN:bg.length≤N
 hs:∀ i b,bg[i]? = some b→b.h=if i<base then 0 else i-base+1
 link:LinkP W X.D bg base fun s=>s=3
structure WkOk(W:Int→List UInt8→Prop)(N:Nat)(X:StD)(bg:List BgD)(base:Nat):Prop where
 cr:CrOk W N X.inn X.count X.tx X.dv
 len:bg.length=base+X.D.txs.length
 bgN:bg.length≤N
 hs:∀ i b,bg[i]? = some b→b.h=if i<base then 0 else i-base+1
 link:LinkP W X.D bg base fun s=>s=3∨s=2
theorem LinkP.imp{W:Int→List UInt8→Prop}{D:MgrD}{bg:List BgD}{base:Nat}{Q Q':Nat→Prop}(h:LinkP W D bg base Q)(hq:∀ s,Q s→Q' s):LinkP W D bg base Q':=fun a l hw=>by
 rcases h a l hw with h | ⟨j,t,h1,h2,h3⟩
 ·exact .inl h
 ·exact .inr ⟨j,t,h1,hq _ h2,h3⟩
theorem SdOk.wk{W:Int→List UInt8→Prop}{N:Nat}{X:StD}{bg:List BgD}{base:Nat}(o:SdOk W N X bg base):WkOk W N X bg base:=
 ⟨o.sr.cr,o.len,o.bgN,o.hs,o.link.imp fun _ h=>.inl h⟩
theorem SdOk.same{W:Int→List UInt8→Prop}{N N':Nat}{X X':StD}{bg:List BgD}{base:Nat}(o:SdOk W N X bg base)(hN:N≤N')(s:SrOk W N' X')(ht:X'.D.txs=X.D.txs):SdOk W N' X' bg base:=
 ⟨s,by rw[ht];exact o.len,Nat.le_trans o.bgN hN,o.hs,fun a l hw=>by
  rcases o.link a l hw with h | ⟨j,t,h1,h2,h3⟩
  ·exact .inl h
  ·exact .inr ⟨j,t,by rw[ht];exact h1,h2,h3⟩⟩
def FlushS(X X':StD)(c:Int):Prop:=
 (c≠0∧X'=X∧X.D.queue = []) ∨
 (∃ k:Nat,1≤k∧k≤X.D.queue.length∧(c=0∨c=9)∧X'.D=doneD c X.D k∧(CheckP ((X.num+1:Nat):Int) ((waitT X.D).take k)→X.pos+blocksN ((waitT X.D).take k)≤192→c=0))
theorem flush_ok{W W':Int→List UInt8→Prop}{N:Nat}{X X':StD}{bg:List BgD}{base:Nat}{c:Int}(o:SdOk W N X bg base)(f:FlushR W W' N X X' c):WkOk W' (N+1) X' bg base∧(Live X.dv→SdOk W' (N+1) X' bg base∧Live X'.dv∧FlushS X X' c):=by
 have om:=o.sr.mg
 rcases f with ⟨hc,rfl,rfl,hq⟩ | ⟨k,hk1,hk2,hc,hD,hW,hsr,hl,hz⟩ | ⟨rfl,hnl,k,hD,hW,hcr⟩
 ·have o':=o.same (Nat.le_succ _) (o.sr.more (Nat.le_succ _)) rfl
  exact⟨o'.wk,fun hl=>⟨o',hl,.inl ⟨hc,rfl,hq⟩⟩⟩
 ·have o':SdOk W' (N+1) X' bg base:=by
   refine⟨hsr,by rw[hD,doneD_len];exact o.len,Nat.le_succ_of_le o.bgN,o.hs,fun a l hw=>?_⟩
   rcases(hW a l).1 hw with hw | ⟨rfl,p,hp,hm⟩
   ·rcases o.link a l hw with h | ⟨j,t,h1,h2,h3⟩
    ·exact .inl h
    ·refine .inr ⟨j,t,?_,h2,h3⟩
     rw[hD,doneD_tx om h1,if_neg fun hin=>?_]
     have:=(om.st j t h1).2.2.2 (List.mem_of_mem_take hin)
     omega
   ·obtain⟨e,h1,h2,h3⟩:=om.queued (List.mem_of_mem_take hp)
    refine .inr ⟨p-1,endT (X.D.at_ p) 3 0,?_,rfl,hm⟩
    rw[hD,doneD_tx om e,if_pos (by rw[show p-1+1=p by omega];exact hp)]
    rfl
  exact⟨o'.wk,fun hlv=>⟨o',hl hlv,.inr ⟨k,hk1,hk2,hc,hD,hz hlv⟩⟩⟩
 ·refine⟨⟨hcr,by rw[hD];exact o.len,Nat.le_succ_of_le o.bgN,o.hs,fun a l hw=>?_⟩,fun hl=>absurd hl hnl⟩
  rcases(hW a l).1 hw with hw | ⟨p,hp,hm⟩
  ·rcases o.link a l hw with h | ⟨j,t,h1,h2,h3⟩
   ·exact .inl h
   ·exact .inr ⟨j,t,by rw[hD];exact h1,.inl h2,h3⟩
  ·obtain⟨e,h1,h2,h3⟩:=om.queued (List.mem_of_mem_take hp)
   exact .inr ⟨p-1,X.D.at_ p,by rw[hD];exact e,.inr h3,hm⟩
def sStep:Kd→Prop
 | .one 1=>True
 | .one 11=>True
 | .one n=>sSt (.one n)∨(12≤n∧n≤19)
 | .beg _=>True
 | .arr (.ans _) _=>True
 | k=>sSt k
theorem sSt_step:∀ k,sSt k→sStep k
 | .any,h=>h
 | .dev _,h=>h
 | .one n,h=>by
   unfold sStep
   split <;> first | trivial | exact .inl h | (rename_i e;cases e;first | trivial | exact .inl h) | exact h
 | .tx _ _,h=>h
 | .beg _,_=>trivial
 | .bytes _,h=>h
 | .puts _,h=>h
 | .arr (.vers _) _,h=>h
 | .arr (.reads _) _,h=>h
 | .arr .exts _,h=>h
 | .arr (.ops _) _,h=>h
 | .arr (.begs _) _,h=>h
 | .arr (.ans _) _,_=>trivial
theorem s1_step:∀ k,k=Kd.one 1→sStep k:=fun k e=>by subst e;trivial
section
variable{G:Gh}{h:Hp}{M N sc:Nat}{X:StD}{cl:List CSl}{bg:List BgD}{na base:Nat}{ev:Int}{db sb:Nat}{all:Sl}{bb:Nat→Nat}
theorem dFlush_spec(t:HT G h)(x:SdIn G h M N sc X cl bg na ev db sb all bb)(o:SdOk G.W N X bg base)(hN:N≤900000)(hM:M+128≤1000000):HC Tryz.prog 10 #[pv sc] h fun r h'=>∃ (G':Gh) (c:Int) (X':StD),r=.int .i64 c∧To sStep G h G' h'∧SdIn G' h' (M+128) (N+1) sc X' cl bg na (iAdd .i64 ev 1) db sb all bb∧WkOk G'.W (N+1) X' bg base∧(Live X.dv→SdOk G'.W (N+1) X' bg base∧Live X'.dv∧FlushS X X' c):=by
 apply wc10
 unfold vc10
 refine(dGone_spec x).mono ?_
 rintro _ _ ⟨rfl,hh⟩
 obtain rfl:=hh.symm
 obtain⟨hc,ok,y1,x1⟩:=x.evt t (iAdd .i64 ev 1)
 refine⟨_,rfl,.no rfl ⟨_,rfl,_,hc,_,rfl,ok,_,rfl,_,x1.row.get rfl,(sFlush_spec y1.ht x1.st o.sr hN hM).mono ?_⟩⟩
 rintro _ h2 ⟨G2,c,X2,rfl,y2,s2,f2⟩
 obtain⟨wk,lv⟩:=flush_ok o f2
 exact⟨_,rfl,G2,c,X2,rfl,(y1.mono s1_step).trans (y2.mono sSt_step),x1.str y2 (Nat.le_succ _) s2,wk,lv⟩
theorem dCheck_spec(t:HT G h)(x:SdIn G h M N sc X cl bg na ev db sb all bb)(o:SdOk G.W N X bg base)(l:Live X.dv)(hN:N≤900000)(hM:M≤1000000):HC Tryz.prog 28 #[pv sc] h fun r h'=>∃ (G':Gh) (X':StD),r=.int .i64 (0:Int)∧To sStep G h G' h'∧SdIn G' h' M (N+1) sc X' cl bg na (iAdd .i64 ev 1) db sb all bb∧SdOk G'.W (N+1) X' bg base∧Live X'.dv∧X'.D=X.D:=by
 apply wc28
 unfold vc28
 refine(dGone_spec x).mono ?_
 rintro _ _ ⟨rfl,hh⟩
 obtain rfl:=hh.symm
 obtain⟨hc,ok,y1,x1⟩:=x.evt t (iAdd .i64 ev 1)
 refine⟨_,rfl,.no rfl ⟨_,rfl,_,hc,_,rfl,ok,_,rfl,_,x1.row.get rfl,(sCheck_spec y1.ht x1.st (o.sr.mt l) o.sr.mg o.sr.off hN hM).mono ?_⟩⟩
 rintro _ h2 ⟨G2,X2,rfl,y2,w2,s2,o2,l2,hD⟩
 exact⟨_,rfl,G2,X2,rfl,(y1.mono s1_step).trans (y2.mono sSt_step),x1.str y2 (Nat.le_succ _) s2,by rw[w2];exact o.same (Nat.le_succ _) o2 (by rw[hD]),l2,hD⟩
theorem dClean_spec(t:HT G h)(x:SdIn G h M N sc X cl bg na ev db sb all bb)(o:SdOk G.W N X bg base)(hM:M≤1000000):HC Tryz.prog 29 #[pv sc] h fun r h'=>∃ (G':Gh) (n:Int),r=.int .i64 n∧To sStep G h G' h'∧SdIn G' h' M N sc X cl bg na (iAdd .i64 ev 1) db sb all bb∧SdOk G'.W N X bg base:=by
 apply wc29
 unfold vc29
 refine(dGone_spec x).mono ?_
 rintro _ _ ⟨rfl,hh⟩
 obtain rfl:=hh.symm
 obtain⟨hc,ok,y1,x1⟩:=x.evt t (iAdd .i64 ev 1)
 refine⟨_,rfl,.no rfl ⟨_,rfl,_,hc,_,rfl,ok,_,rfl,_,x1.row.get rfl,(sClean_spec y1.ht x1.st o.sr.off hM).mono ?_⟩⟩
 rintro _ h2 ⟨G2,n,rfl,y2,w2,s2⟩
 exact⟨_,rfl,G2,n,rfl,(y1.mono s1_step).trans (y2.mono sSt_step),x1.str y2 (Nat.le_refl _) s2,by rw[w2];exact o⟩
theorem dReadOnly_spec(t:HT G h)(x:SdIn G h M N sc X cl bg na ev db sb all bb)(o:SdOk G.W N X bg base)(yes:Bool):HC Tryz.prog 30 #[pv sc,.bool yes] h fun r h'=>∃ (G':Gh) (X':StD),r=.tuple #[]∧To sStep G h G' h'∧SdIn G' h' M N sc X' cl bg na ev db sb all bb∧SdOk G'.W N X' bg base∧X'.dv=X.dv:=by
 apply wc30
 unfold vc30
 refine(dGone_spec x).mono ?_
 rintro _ _ ⟨rfl,hh⟩
 obtain rfl:=hh.symm
 refine⟨_,rfl,.yes rfl ⟨_,rfl,_,x.row.get rfl,(sReadOnly_spec t x.st o.sr.mg yes).mono ?_⟩⟩
 rintro _ h2 ⟨G2,rfl,y2,w2,s2,m2⟩
 exact⟨rfl,G2,_,rfl,y2.mono sSt_step,x.str y2 (Nat.le_refl _) s2,by rw[w2];exact o.same (Nat.le_refl _) (o.sr.mgr (Nat.le_refl _) m2) rfl,rfl⟩
end
def isLoc:Kd→Prop:=fun k=>k=.one 30
section
variable{G:Gh}{h:Hp}
theorem alcLoc(t:HT G h)(vs:List Value)(ty:Nat):∃ G',To (fun _=>False) G h G' (alc h vs ty)∧G'.W=G.W∧G'.k h.size=.one 30∧Row (alc h vs ty) h.size vs:=by
 have r:Row (alc h vs ty) h.size vs:=Row.alc _ _ _
 obtain⟨y,k,w⟩:=t.kindNew (alc_ext h vs ty) (b:=h.size) (Nat.le_refl _) r.lt (k := .one 30) id
 exact⟨_,y,w,k,r⟩
theorem locSet(t:HT G h){b:Nat}{l:List Value}(kd:G.k b=.one 30)(r:Row h b l){i:Nat}(hi:i<l.length)(v:Value):StOk h ((⟨b,0,none⟩:Addr).add i)∧ToB b G h G (hset h ((⟨b,0,none⟩:Addr).add i) v)∧To isLoc G h G (hset h ((⟨b,0,none⟩:Addr).add i) v)∧Row (hset h ((⟨b,0,none⟩:Addr).add i) v) b (l.set i v):=by
 obtain⟨ok,bb,r'⟩:=kset t kd (fun h=>h) r hi v
 exact⟨ok,bb,bb.to (by rw[kd];exact⟨trivial,rfl⟩),r'⟩
theorem locPut(t:HT G h){b:Nat}{l vs:List Value}(kd:G.k b=.one 30)(r:Row h b l)(hl:vs.length=l.length)(hok:∀ v∈vs,cellOk v=true){K:Hp→Prop}(hK:∀ h',ToB b G h G h'→To isLoc G h G h'→Row h' b vs→K h'):stCells ⟨b,0,none⟩ 0 vs h K:=
 r.put hl hok fun h' r' s' o'=>by
  have bb:ToB b G h G h':=t.toB (by rw[kd];exact fun h=>h) (by omega) fun c _ hc=>o' c hc
  exact hK h' bb (bb.to (by rw[kd];exact⟨trivial,rfl⟩)) r'
end
section
variable{G:Gh}{h:Hp}{M N sc:Nat}{X:StD}{cl:List CSl}{bg:List BgD}{na base:Nat}{ev:Int}{db sb:Nat}{all:Sl}{bb:Nat→Nat}
theorem SdIn.to{S:Kd→Prop}{G':Gh}{h':Hp}{M' N':Nat}(x:SdIn G h M N sc X cl bg na ev db sb all bb)(y:To S G h G' h')(hM:M≤M')(hN:N≤N')(h1:∀ k,sStO k∨sMgr k →¬ S k)(h2:∀ k,sSc k→(∀ a n,k ≠ .arr a n) →¬ S k):SdIn G' h' M' N' sc X cl bg na ev db sb all bb:=
 ⟨y.kd x.kd (by simp),y.rowK x.row x.kd (h2 _ (.inl rfl) (by simp)),x.len,x.st.to y hM h1,fun k c hc=>(x.cls k c hc).to y hN (Nat.le_refl _) (fun _ _=>rfl) (h2 _ (by have:=x.lt hc;simp only[sSc];omega) (by simp)),x.all.to y (h2 _ (by simp[sSc]) (by simp)),fun i b hb=>(x.beg i b hb).to y (h2 _ trivial (by simp))⟩
theorem SdIn.loc{G':Gh}{h':Hp}(x:SdIn G h M N sc X cl bg na ev db sb all bb)(y:To isLoc G h G' h'):SdIn G' h' M N sc X cl bg na ev db sb all bb:=
 x.to y (Nat.le_refl _) (Nat.le_refl _) (fun k hk e=>by unfold isLoc at e;subst e;rcases hk with (hk | hk | hk) | hk <;> first | exact hk | (simp only[sMgr]at hk;omega) | cases hk) (fun k hk _ e=>by unfold isLoc at e;subst e;simp[sSc]at hk)
theorem dAt_spec(x:SdIn G h M N sc X cl bg na ev db sb all bb){k:Nat}{c:CSl}(hc:cl[k]? = some c)(hd:Int):HC Tryz.prog 87 #[.pointer (some (clA sc k)),.int .i64 hd] h fun r h'=>h'=h∧((r=.pointer none∧¬ ∃ (j i:Nat) (b:BgD),hd=j∧c.L[j]? = some i∧bg[i]? = some b∧b.h≠0) ∨∃ (j i:Nat) (b:BgD),hd=j∧c.L[j]? = some i∧bg[i]? = some b∧b.h≠0∧r=pv (bb i)):=by
 apply wc87
 unfold vc87
 have ck:=x.cls k c hc
 have hl:c.beg.len=c.L.length:=by have:=ck.beg.own.len;simp at this;omega
 have c1:=x.cell hc (j:=1) (by omega) rfl
 refine IfB.dec (fun h0=>⟨rfl,.inl ⟨rfl,fun⟨j,i,b,e,_⟩=>by omega⟩⟩) fun h0=>⟨_,rfl,c.beg,c1,IfB.dec (fun hge=>⟨rfl,.inl ⟨rfl,fun⟨j,i,b,e,hj,_⟩=>?_⟩⟩) fun hlt=>?_⟩
 ·have:=(List.getElem?_eq_some_iff.1 hj).1;omega
 obtain⟨j,rfl⟩:∃ j:Nat,hd=j:=⟨hd.toNat,by omega⟩
 have hj:j<c.L.length:=by omega
 have hi:=ck.L _ (List.getElem_mem hj)
 have hcj:c.L[j]? = some c.L[j]:=List.getElem?_eq_getElem hj
 have hbg:bg[c.L[j]]? = some bg[c.L[j]]:=List.getElem?_eq_getElem hi
 obtain⟨g,tm,f,t,rs,ps,r,_⟩:=(x.beg _ _ hbg).row
 refine⟨_,rfl,c.beg,c1,ix1 ck.beg.own.rd (by simpa using hl.symm) j rfl (by simpa using hj) fun a _ hY=>⟨_,by simpa [pv] using hY,_,rfl,_,r.get0 rfl,IfB.eq (fun hz=>⟨rfl,.inl ⟨rfl,fun⟨j',i,b,e,h1,h2,h3⟩=>?_⟩⟩) fun hnz=>⟨_,rfl,c.beg,c1,ix1 ck.beg.own.rd (by simpa using hl.symm) j rfl (by simpa using hj) fun a' _ hcell'=>⟨_,by simpa [pv] using hcell',rfl,.inr ⟨j,c.L[j],bg[c.L[j]],rfl,hcj,hbg,by omega,rfl⟩⟩⟩⟩⟩
 obtain rfl:j=j':=by omega
 rw[hcj]at h1
 cases h1
 rw[hbg]at h2
 cases h2
 omega
end
theorem ToB.row{c:Nat}{G G':Gh}{h h':Hp}{b:Nat}{l:List Value}(x:ToB c G h G' h')(r:Row h b l)(hne:b≠c):Row h' b l:=r.eq (x.fr b r.lt hne)
theorem cl_step{k:Nat}(hk:k<8):sStep (.one (12+k)):=by
 match k,hk with
 | 0,_=>exact .inr (by omega)
 | 1,_=>exact .inr (by omega)
 | 2,_=>exact .inr (by omega)
 | 3,_=>exact .inr (by omega)
 | 4,_=>exact .inr (by omega)
 | 5,_=>exact .inr (by omega)
 | 6,_=>exact .inr (by omega)
 | 7,_=>exact .inr (by omega)
theorem set_same{α:Type}{l:List α}{k:Nat}{c:α}(h:l[k]? = some c):l.set k c=l:=by
 apply List.ext_getElem?
 intro i
 rw[List.getElem?_set]
 split
 ·rename_i e;subst e
  rw[if_pos (List.getElem?_eq_some_iff.1 h).1,h]
 ·rfl
section
variable{G:Gh}{h:Hp}{M N sc:Nat}{X:StD}{cl:List CSl}{bg:List BgD}{na base:Nat}{ev:Int}{db sb:Nat}{all:Sl}{bb:Nat→Nat}
theorem SdIn.moreN{N':Nat}(x:SdIn G h M N sc X cl bg na ev db sb all bb)(hN:N≤N'):SdIn G h M N' sc X cl bg na ev db sb all bb:=
 ⟨x.kd,x.row,x.len,x.st,fun k c hc=>by
  have:=x.cls k c hc
  exact⟨this.ops,this.len,this.asked,this.beg,this.L,this.ans,Nat.le_trans this.ansN hN,Nat.le_trans this.LN hN⟩,x.all,x.beg⟩
theorem SdIn.addBg{G':Gh}{h':Hp}{bk:Nat}{b:BgD}(x:SdIn G h M N sc X cl bg na ev db sb all bb)(hna:na≤bg.length)(y:To (fun _=>False) G h G' h')(hb:BgAt G' h' bg.length bk b):SdIn G' h' M N sc X cl (bg ++ [b]) na ev db sb all (fun i=>if i=bg.length then bk else bb i):=by
 have x':=x.pure y
 have same:∀ i,i<bg.length→(fun i=>if i=bg.length then bk else bb i) i=bb i:=fun i hi=>if_neg (by omega)
 refine⟨x'.kd,x'.row,x'.len,x'.st,fun k c hc=>(x.cls k c hc).to y (Nat.le_refl _) (by simp) same id,?_,fun i d hd=>?_⟩
 ·have e:((List.range na).map fun i=>pv ((fun i=>if i=bg.length then bk else bb i) i))=(List.range na).map fun i=>pv (bb i):=List.map_congr_left fun i hi=>by
   rw[same i (by have:=List.mem_range.1 hi;omega)]
  rw[e];exact x'.all
 ·rcases Nat.lt_or_ge i bg.length with hi | hi
  ·rw[List.getElem?_append_left hi]at hd
   rw[if_neg (by omega)];exact x'.beg i d hd
  ·have:i=bg.length:=by
    have:=(List.getElem?_eq_some_iff.1 hd).1
    simp at this;omega
   subst this
   simp at hd
   subst hd
   simp only[if_pos]
   exact hb
theorem SdIn.pushBeg{G':Gh}{h':Hp}{k n:Nat}{c:CSl}{r:Sl}(x:SdIn G h M N sc X cl bg na ev db sb all bb)(hc:cl[k]? = some c)(y:To (fun q=>q=.one (12+k)) G h G' h')(o:OwnK (.one (12+k)) 1 G' h' r ((c.L ++ [n]).map fun i=>pv (bb i)))(hn:n<bg.length)(hL:c.L.length+1≤N) :
 StOk h' ((clA sc k).add 1)∧To (fun q=>q=.one 1) G' h' G' (hset h' ((clA sc k).add 1) (.slice r.base r.len r.cap))∧SdIn G' (hset h' ((clA sc k).add 1) (.slice r.base r.len r.cap)) M N sc X (cl.set k { c with beg:=r,L:=c.L ++ [n] }) bg na ev db sb all bb:=by
 have hk:=x.lt hc
 have row:=y.rowK x.row x.kd (by simp;omega)
 have kd:=y.kd x.kd (by simp)
 rw[clA_add]
 obtain⟨ok,b,r'⟩:=kset y.ht kd (fun h=>h) row (i:=2+(k*4+1)) (by rw[scV_len x.len];omega) (.slice r.base r.len r.cap)
 rw[scV_set (c':={ c with beg:=r,L:=c.L ++ [n] }) (by omega) hc rfl]at r'
 have y1:To (fun q=>q=.one 1) G' h' G' _:=b.to (by rw[kd];exact⟨trivial,rfl⟩)
 have nst:∀ q,sStO q∨sMgr q →¬ q=.one (12+k):=fun q hq e=>by subst e;exact sSc_not _ hq (by simp only[sSc];omega)
 have nst1:∀ q,sStO q∨sMgr q →¬ q=.one 1:=fun q hq e=>by subst e;exact sSc_not _ hq (by simp[sSc])
 refine⟨ok,y1,kd,r',by simpa using x.len,(x.st.to y (Nat.le_refl _) nst).to y1 (Nat.le_refl _) nst1,fun i d hd=>?_,(x.all.to y (by simp;omega)).to y1 (by simp),fun i b hb=>((x.beg i b hb).to y (by simp)).to y1 (by simp)⟩
 have ck:=x.cls k c hc
 rw[List.getElem?_set]at hd
 by_cases e:k=i
 ·subst e
  rw[if_pos rfl]at hd
  split at hd
  ·injection hd with hd;subst hd
   refine⟨(ck.ops.mono y.le).mono y1.le,ck.len,ck.asked,o.to y1 (by simp;omega),fun i hi=>?_,(ck.ans.mono y.le).mono y1.le,ck.ansN,by simp;omega⟩
   rcases List.mem_append.1 hi with hi | hi
   ·exact ck.L i hi
   ·simp at hi;omega
  ·cases hd
 ·rw[if_neg e]at hd
  exact((x.cls i d hd).to y (Nat.le_refl _) (Nat.le_refl _) (fun _ _=>rfl) (by simp;omega)).to y1 (Nat.le_refl _) (Nat.le_refl _) (fun _ _=>rfl) (by simp;omega)
theorem SdIn.pushAll{G':Gh}{h':Hp}{r:Sl}(x:SdIn G h M N sc X cl bg na ev db sb all bb)(y:To (fun q=>q=.one 11) G h G' h')(o:OwnK (.one 11) 1 G' h' r ((List.range (na+1)).map fun i=>pv (bb i))) :
 StOk h' ((⟨sc,0,none⟩:Addr).add 34)∧To (fun q=>q=.one 1) G' h' G' (hset h' ((⟨sc,0,none⟩:Addr).add 34) (.slice r.base r.len r.cap))∧SdIn G' (hset h' ((⟨sc,0,none⟩:Addr).add 34) (.slice r.base r.len r.cap)) M N sc X cl bg (na+1) ev db sb r bb:=by
 have row:=y.rowK x.row x.kd (by simp)
 have kd:=y.kd x.kd (by simp)
 obtain⟨ok,b,r'⟩:=kset y.ht kd (fun h=>h) row (i:=34) (by rw[scV_len x.len];omega) (.slice r.base r.len r.cap)
 rw[scV_setAll x.len]at r'
 have y1:To (fun q=>q=.one 1) G' h' G' _:=b.to (by rw[kd];exact⟨trivial,rfl⟩)
 have nst:∀ q,sStO q∨sMgr q →¬ q=.one 11:=fun q hq e=>by subst e;exact sSc_not _ hq (by simp[sSc])
 have nst1:∀ q,sStO q∨sMgr q →¬ q=.one 1:=fun q hq e=>by subst e;exact sSc_not _ hq (by simp[sSc])
 exact⟨ok,y1,kd,r',x.len,(x.st.to y (Nat.le_refl _) nst).to y1 (Nat.le_refl _) nst1,fun i d hd=>((x.cls i d hd).to y (Nat.le_refl _) (Nat.le_refl _) (fun _ _=>rfl) (by simp;omega)).to y1 (Nat.le_refl _) (Nat.le_refl _) (fun _ _=>rfl) (by simp;omega),o.to y1 (by simp),fun i b hb=>((x.beg i b hb).to y (by simp)).to y1 (by simp)⟩
theorem SdOk.mgr{W:Int→List UInt8→Prop}{N':Nat}{D':MgrD}(o:SdOk W N X bg base)(hN:N≤N')(m:MgrOk N' D')(hl:D'.txs.length=X.D.txs.length)(ht:∀ (j:Nat) (t:TxS),X.D.txs[j]? = some t→t.state=3 →∃ t',D'.txs[j]? = some t'∧t'.state=3∧t'.P=t.P):SdOk W N' { X with D:=D' } bg base:=
 ⟨o.sr.mgr hN m,by rw[show({ X with D:=D' }:StD).D=D' from rfl,hl];exact o.len,Nat.le_trans o.bgN hN,o.hs,fun a l hw=>by
  rcases o.link a l hw with h | ⟨j,t,h1,h2,h3⟩
  ·exact .inl h
  ·obtain⟨t',g1,g2,g3⟩:=ht j t h1 h2
   exact .inr ⟨j,t',g1,g2,by rw[g3];exact h3⟩⟩
theorem SdOk.add{W:Int→List UInt8→Prop}{b:BgD}(o:SdOk W N X bg base)(hb:b.h=X.D.txs.length+1):SdOk W (N+1) { X with D:=X.D.add } (bg ++ [b]) base:=by
 have hlen:=o.len
 refine⟨o.sr.mgr (Nat.le_succ _) o.sr.mg.add,?_,?_,fun i d hd=>?_,fun a l hw=>?_⟩
 ·show(bg ++ [b]).length=base+(X.D.txs ++ [_]).length
  simp;omega
 ·have:=o.bgN;simp;omega
 ·rcases Nat.lt_or_ge i bg.length with hi | hi
  ·rw[List.getElem?_append_left hi]at hd;exact o.hs i d hd
  ·have:i=bg.length:=by
    have:=(List.getElem?_eq_some_iff.1 hd).1
    simp at this;omega
   subst this
   simp at hd
   subst hd
   rw[if_neg (by omega),hb];omega
 ·rcases o.link a l hw with ⟨i,d,h1,h2⟩ | ⟨j,t,h1,h2,h3⟩
  ·exact .inl ⟨i,d,by rw[List.getElem?_append_left (List.getElem?_eq_some_iff.1 h1).1];exact h1,h2⟩
  ·exact .inr ⟨j,t,by show(X.D.txs ++ [_])[j]? = _;rw[List.getElem?_append_left (List.getElem?_eq_some_iff.1 h1).1];exact h1,h2,h3⟩
theorem dBegin_spec(t:HT G h)(x:SdIn G h M N sc X cl bg bg.length ev db sb all bb)(o:SdOk G.W N X bg base)(hN:N≤900000){k:Nat}{c:CSl}(hc:cl[k]? = some c)(a0 a1 a2 a3:Int)(a4:Sl) :
 HC Tryz.prog 86 #[pv sc,.pointer (some (clA sc k)),.agg #[.int .i64 a0,.int .i64 a1,.int .i64 a2,.int .i64 a3,.slice a4.base a4.len a4.cap]] h fun r h'=>∃ (G':Gh) (X':StD) (c':CSl) (bg':List BgD) (all':Sl) (bb':Nat→Nat) (b1 b2 b3:Int),
  r=.agg #[.int .i64 a0,.int .i64 b1,.int .i64 b2,.int .i64 b3,.slice a4.base a4.len a4.cap]∧To sStep G h G' h'∧G'.W=G.W∧SdIn G' h' M (N+1) sc X' (cl.set k c') bg' bg'.length ev db sb all' bb'∧SdOk G.W (N+1) X' bg' base∧X'.dv=X.dv∧c'.ops=c.ops∧c'.asked=c.asked∧c'.ans=c.ans∧
  ((∀ (j:Nat) (t:TxS),X.D.txs[j]? = some t →¬ t.live)→X' = { X with D:=X.D.add }∧bg'=bg ++ [⟨X.D.txs.length+1,0,[],ev,0⟩]∧c'.L=c.L ++ [bg.length]):=by
 apply wc86
 unfold vc86
 intro h1 h2
 obtain⟨G1,y1,w1,k1,r1⟩:=alcLoc t [.int .i64 a0,.int .i64 a1,.int .i64 a2,.int .i64 a3,.slice a4.base a4.len a4.cap] 62
 obtain⟨G2,y2,w2,k2,r2⟩:=alcLoc y1.ht [.int .i64 (0:Int),.int .i64 (0:Int),.int .i64 (0:Int),.int .i64 (0:Int),.slice Sl.nil.base Sl.nil.len Sl.nil.cap] 62
 have s1:h1.size=h.size+1:=size_alc _ _ _
 change To _ G1 h1 G2 h2 at y2
 change To _ G h G1 h1 at y1
 change Row h1 _ _ at r1
 change Row h2 h1.size _ at r2
 change G2.k h1.size=_ at k2
 have k1':=y2.kd k1 (by simp)
 have r1':=y2.rowK r1 k1 id
 have y02:=y1.trans y2
 have x2:=x.pure y02
 have s2:=x2.st
 obtain⟨lb,mb,ts,em,bk,am,q,tb,si⟩:=s2
 refine⟨_,rfl,_,x2.row.get rfl,(sLast_spec si).mono ?_⟩
 rintro _ _ ⟨rfl,hh⟩
 obtain rfl:=hh.symm
 refine⟨_,rfl,_,rfl,_,x2.row.get rfl,(sBegin_spec y2.ht x2.st o.sr.off (N:=N) (by omega) o.sr.mg).mono ?_⟩
 rintro _ h3 ⟨G3,D3,y3,w3,s3,m3,hcase⟩
 have x3:=x2.str y3 (Nat.le_succ N) s3
 have y03:To sStep G h G3 h3:=(y02.mono fun _ h=>h.elim).trans (y3.mono sSt_step)
 have k1'':=y3.kd k1' (by simp)
 have k2'':=y3.kd k2 (by simp)
 have r1'':=y3.rowK r1' k1' (by simp[sSt])
 have r2'':=y3.rowK r2 k2 (by simp[sSt])
 have hW3:G3.W=G.W:=w3.trans (w2.trans w1)
 rcases hcase with ⟨e,rfl,hne,rfl,hfail⟩ | ⟨rfl,rfl⟩
 ·obtain⟨ok4,b4,y4,r4⟩:=locSet y3.ht k1'' r1'' (i:=2) (by simp) (.int .i64 (0:Int))
  have x4:=x3.loc y4
  obtain⟨ok5,b5,y5,r5⟩:=locSet y4.ht k1'' r4 (i:=1) (by simp) (.int .i64 e)
  have x5:=x4.loc y5
  have r5:Row _ h.size (blkV a0 e 0 a3 a4):=r5
  have r25:=b5.row (b4.row r2'' (by omega)) (by omega)
  have y05:=b5.new (b4.new y03 (Nat.le_refl _)) (Nat.le_refl _)
  refine⟨_,_,rfl,ok4,ok5,IfB.eq (fun hh=>absurd hh hne) fun _=>r5.get5 ?_⟩
  refine locPut (vs:=blkV a0 e 0 a3 a4) y5.ht k2'' r25 rfl (blkV_ok _ _ _ _ _) fun h6 b6 y6 r6=>?_
  have r6:Row h6 h1.size (blkV a0 e 0 a3 a4):=r6
  refine r6.get5 ?_
  have x6:=x5.loc y6
  refine⟨G3,_,c,bg,all,bb,e,0,a3,rfl,b6.new y05 (by omega),hW3,by rw[set_same hc];exact x6,?_,rfl,rfl,rfl,rfl,fun hh=>(hfail hh).elim⟩
  exact o.mgr (Nat.le_succ _) m3 rfl fun j t h1 h2=>⟨t,h1,h2,rfl⟩
 ·obtain⟨ok4,b4,y4,r4⟩:=locSet y3.ht k1'' r1'' (i:=2) (by simp) (.int .i64 (0:Int))
  have x4:=x3.loc y4
  obtain⟨ok5,b5,y5,r5⟩:=locSet y4.ht k1'' r4 (i:=1) (by simp) (.int .i64 (0:Int))
  have x5:=x4.loc y5
  have r25:=b5.row (b4.row r2'' (by omega)) (by omega)
  have y05:=b5.new (b4.new y03 (Nat.le_refl _)) (Nat.le_refl _)
  refine⟨_,_,rfl,ok4,ok5,.yes rfl ⟨_,rfl,_,x5.row.get (scV_all x5.len).2,?_⟩⟩
  rw[show nw h=(⟨h.size,0,none⟩:Addr) from rfl]
  generalize hset (hset h3 ((⟨h.size,0,none⟩:Addr).add 2) (.int .i64 (0:Int))) ((⟨h.size,0,none⟩:Addr).add 1) (.int .i64 (0:Int))=h5 at *
  intro h6
  have e6:Ext h5 h6:=alc_ext _ _ _
  have s5:=y05.size
  have r6b:Row h6 h5.size [.int .i64 ((X.D.txs.length+1:Nat):Int),.int .i64 ev,.int .i64 (0:Int),.int .i64 (0:Int),.int .i64 (0:Int),.int .i64 (0:Int),.int .i64 (0:Int),.int .i64 (0:Int),.slice Sl.nil.base Sl.nil.len Sl.nil.cap,.slice Sl.nil.base Sl.nil.len Sl.nil.cap]:=Row.alc _ _ _
  obtain⟨y6,kb6,w6⟩:=y5.ht.kindNew e6 (b:=h5.size) (Nat.le_refl _) r6b.lt (k := .beg bg.length) id
  generalize G3.set h5.size (.beg bg.length) 0=G6 at *
  have x6:=x5.addBg (Nat.le_refl _) y6 (b:=⟨X.D.txs.length+1,0,[],ev,0⟩) ⟨kb6,_,_,_,_,Sl.nil,Sl.nil,r6b,SlA.nil _ _,Nat.zero_le _,SlP.nil _,Nat.zero_le _,fun _ h=>by simp at h⟩
  have k1a:=y6.kd k1'' (by simp)
  have k2a:=y6.kd k2'' (by simp)
  have r6:=r5.ext e6
  have r26:=r25.ext e6
  have y06:=y05.trans (y6.mono (S':=sStep) fun _ h=>h.elim)
  have ck6:=x6.cls k c hc
  have hbl:c.beg.len=c.L.length:=by have:=ck6.beg.own.len;simp at this;omega
  have hLN:=(x.cls k c hc).LN
  obtain⟨ok7,b7,y7,r7⟩:=locSet y6.ht k1a r6 (i:=2) (by simp) (.int .i64 (c.beg.len:Int))
  have x7:=x6.loc y7
  obtain⟨ok8,b8,y8,r8⟩:=locSet y7.ht k1a r7 (i:=3) (by simp) (.int .i64 X.D.last)
  have x8:=x7.loc y8
  have r28:=b8.row (b7.row r26 (by omega)) (by omega)
  have y08:=b8.new (b7.new y06 (Nat.le_refl _)) (Nat.le_refl _)
  refine⟨_,rfl,_,x6.cell hc (j:=1) (by omega) rfl,ok7,ok8,_,rfl,_,x8.cell hc (j:=1) (by omega) rfl,?_⟩
  have r8:Row _ h.size (blkV a0 0 (c.beg.len:Int) X.D.last a4):=r8
  generalize hset (hset h6 ((⟨h.size,0,none⟩:Addr).add 2) (.int .i64 (c.beg.len:Int))) ((⟨h.size,0,none⟩:Addr).add 3) (.int .i64 X.D.last)=h8 at *
  intro h9
  have ck8:=x8.cls k c hc
  refine OwnK.push (k := .one (12+k)) (news:=[pv h5.size]) trivial (fun h=>h) y8.ht rfl ck8.beg rfl (by simp[pv,cellOk]) (by omega) (by omega) fun r10 h10 G10 y10 o10 l10 w10=>?_
  have hpb:pv h5.size=pv ((fun i=>if i=bg.length then h5.size else bb i) bg.length):=by simp
  rw[hpb]at o10
  obtain⟨ok11,y11,x11⟩:=x8.pushBeg (n:=bg.length) hc y10 (by simpa [List.map_append] using o10) (by simp) (by omega)
  refine⟨_,rfl,ok11,_,rfl,_,x11.row.get (scV_all x11.len).1,?_⟩
  generalize hset h10 ((clA sc k).add 1) (.slice r10.base r10.len r10.cap)=h11 at *
  intro h12
  have hbgN:=o.bgN
  have hal:all.len=bg.length:=by have:=x11.all.own.len;simp at this;omega
  refine OwnK.push (k := .one 11) (news:=[pv h5.size]) trivial (fun h=>h) y11.ht rfl x11.all rfl (by simp[pv,cellOk]) (by omega) (by omega) fun r13 h13 G13 y13 o13 l13 w13=>?_
  rw[hpb]at o13
  obtain⟨ok14,y14,x14⟩:=x11.pushAll y13 (by rw[List.range_succ,List.map_append];exact o13)
  refine⟨_,rfl,ok14,?_⟩
  have st12:∀ q,q=Kd.one (12+k)→sStep q:=fun q e=>by rw[e];exact cl_step (x.lt hc)
  have yx:To (fun q=>q=.one (12+k)∨q=.one 1∨q=.one 11) G6 h8 G13 _:=(((y10.mono fun _ h=>.inl h).trans (y11.mono fun _ h=>.inr (.inl h))).trans (y13.mono fun _ h=>.inr (.inr h))).trans (y14.mono fun _ h=>.inr (.inl h))
  have k1b:=yx.kd k1a (by simp)
  have k2b:=yx.kd k2a (by simp)
  have hk8:=x.lt hc
  have r1b:=yx.rowK r8 k1a (by simp;omega)
  have r2b:=yx.rowK r28 k2a (by simp;omega)
  have y014:=y08.trans (yx.mono (S':=sStep) fun q hq=>by
   rcases hq with hq | rfl | rfl
   ·exact st12 q hq
   ·trivial
   ·trivial)
  refine r1b.get5 ?_
  refine locPut (vs:=blkV a0 0 (c.beg.len:Int) X.D.last a4) y14.ht k2b r2b rfl (blkV_ok _ _ _ _ _) fun h15 b15 y15 r15=>?_
  have r15:Row h15 h1.size (blkV a0 0 (c.beg.len:Int) X.D.last a4):=r15
  refine r15.get5 ?_
  refine⟨G13,{ X with D:=X.D.add },{ c with beg:=r10,L:=c.L ++ [bg.length] },bg ++ [⟨X.D.txs.length+1,0,[],ev,0⟩],r13,(fun i=>if i=bg.length then h5.size else bb i),0,(c.beg.len:Int),X.D.last,rfl,b15.new y014 (by omega),?_,?_,o.add rfl,rfl,rfl,rfl,rfl,fun _=>⟨rfl,rfl,rfl⟩⟩
  ·rw[w13,w10,w6];exact hW3
  ·have:=x14.loc y15
   rw[show bg.length+1=(bg ++ [(⟨X.D.txs.length+1,0,[],ev,0⟩:BgD)]).length by simp]at this
   exact this
end
section
variable{G:Gh}{h:Hp}
theorem retA(t:HT G h){la lr:Nat}{a0 a1 a2 a3:Int}{a4:Sl}{l5:List Value}(ra:Row h la (blkV a0 a1 a2 a3 a4))(kr:G.k lr=.one 30)(rr:Row h lr l5)(hl:l5.length=5){K:Int→Int→Int→Int→Sl→Hp→Prop}
 (hK:∀ h',ToB lr G h G h'→To isLoc G h G h'→K a0 a1 a2 a3 a4 h') :
 ∃ c4:Int,∃ c5:Int,∃ c6:Int,∃ c7:Int,∃ c8:Sl,hY h ⟨la,0,none⟩=some (.int .i64 c4)∧hY h ((⟨la,0,none⟩:Addr).add 1)=some (.int .i64 c5)∧hY h ((⟨la,0,none⟩:Addr).add 2)=some (.int .i64 c6)∧hY h ((⟨la,0,none⟩:Addr).add 3)=some (.int .i64 c7)∧hY h ((⟨la,0,none⟩:Addr).add 4)=some (.slice c8.base c8.len c8.cap)∧
   stCells ⟨lr,0,none⟩ 0 [.int .i64 c4,.int .i64 c5,.int .i64 c6,.int .i64 c7,.slice c8.base c8.len c8.cap] h fun vh7=>
   ∃ x:Int,∃ x1:Int,∃ x2:Int,∃ x3:Int,∃ x4:Sl,hY vh7 ⟨lr,0,none⟩=some (.int .i64 x)∧hY vh7 ((⟨lr,0,none⟩:Addr).add 1)=some (.int .i64 x1)∧hY vh7 ((⟨lr,0,none⟩:Addr).add 2)=some (.int .i64 x2)∧hY vh7 ((⟨lr,0,none⟩:Addr).add 3)=some (.int .i64 x3)∧hY vh7 ((⟨lr,0,none⟩:Addr).add 4)=some (.slice x4.base x4.len x4.cap)∧K x x1 x2 x3 x4 vh7:=
 ra.get5 (locPut (vs:=blkV a0 a1 a2 a3 a4) t kr rr (by rw[hl];rfl) (blkV_ok _ _ _ _ _) fun h' b y r=>Row.get5 (k:=a0) (e:=a1) (s:=a2) (l:=a3) (t:=a4) r (K:=fun x x1 x2 x3 x4=>K x x1 x2 x3 x4 h') (hK h' b y))
theorem retZ(t:HT G h){lr:Nat}{l5:List Value}(a0 a1 a2 a3:Int)(a4:Sl)(kr:G.k lr=.one 30)(rr:Row h lr l5)(hl:l5.length=5){K:Int→Int→Int→Int→Sl→Hp→Prop}
 (hK:∀ h',ToB lr G h G h'→To isLoc G h G h'→Row h' lr (blkV a0 a1 a2 a3 a4)→K a0 a1 a2 a3 a4 h') :
  stCells ⟨lr,0,none⟩ 0 [.int .i64 a0,.int .i64 a1,.int .i64 a2,.int .i64 a3,.slice a4.base a4.len a4.cap] h fun vh7=>
  ∃ x:Int,∃ x1:Int,∃ x2:Int,∃ x3:Int,∃ x4:Sl,hY vh7 ⟨lr,0,none⟩=some (.int .i64 x)∧hY vh7 ((⟨lr,0,none⟩:Addr).add 1)=some (.int .i64 x1)∧hY vh7 ((⟨lr,0,none⟩:Addr).add 2)=some (.int .i64 x2)∧hY vh7 ((⟨lr,0,none⟩:Addr).add 3)=some (.int .i64 x3)∧hY vh7 ((⟨lr,0,none⟩:Addr).add 4)=some (.slice x4.base x4.len x4.cap)∧K x x1 x2 x3 x4 vh7:=
 locPut (vs:=blkV a0 a1 a2 a3 a4) t kr rr (by rw[hl];rfl) (blkV_ok _ _ _ _ _) fun h' b y r=>Row.get5 (k:=a0) (e:=a1) (s:=a2) (l:=a3) (t:=a4) r (K:=fun x x1 x2 x3 x4=>K x x1 x2 x3 x4 h') (hK h' b y r)
end
section
variable{G:Gh}{h:Hp}{M N sc:Nat}{X:StD}{cl:List CSl}{bg:List BgD}{na base:Nat}{ev:Int}{db sb:Nat}{all:Sl}{bb:Nat→Nat}
theorem SdIn.setTo(t:HT G h)(x:SdIn G h M N sc X cl bg na ev db sb all bb){i:Nat}{b:BgD}(hb:bg[i]? = some b)(v:Int) :
 StOk h ((⟨bb i,0,none⟩:Addr).add 2)∧To (fun q=>q=.beg i) G h G (hset h ((⟨bb i,0,none⟩:Addr).add 2) (.int .i64 v))∧SdIn G (hset h ((⟨bb i,0,none⟩:Addr).add 2) (.int .i64 v)) M N sc X cl (bg.set i { b with to_:=v }) na ev db sb all bb:=by
 have xb:=x.beg i b hb
 obtain⟨g,tm,f,tt,rs,ps,r,p1,p2,p3,p4⟩:=xb.row
 obtain⟨ok,b1,r'⟩:=kset t xb.kd (fun h=>h) r (i:=2) (by simp) (.int .i64 v)
 have y:To (fun q=>q=.beg i) G h G _:=b1.to (by rw[xb.kd];exact⟨trivial,rfl⟩)
 have nst:∀ q,sStO q∨sMgr q →¬ q=.beg i:=fun q hq e=>by subst e;exact sSc_not _ hq trivial
 refine⟨ok,y,x.kd,y.rowK x.row x.kd (by simp),x.len,x.st.to y (Nat.le_refl _) nst,fun k c hc=>?_,x.all.to y (by simp),fun j d hd=>?_⟩
 ·exact(x.cls k c hc).to y (Nat.le_refl _) (by simp) (fun _ _=>rfl) (by simp)
 ·rw[List.getElem?_set]at hd
  by_cases e:i=j
  ·subst e
   rw[if_pos rfl]at hd
   split at hd
   ·injection hd with hd
    subst hd
    exact⟨xb.kd,g,tm,f,tt,rs,ps,r',p1,p2,p3,p4⟩
   ·cases hd
  ·rw[if_neg e]at hd
   exact(x.beg j d hd).to y (by simp;exact fun h=>e h.symm)
theorem SdOk.setTo{W:Int→List UInt8→Prop}(o:SdOk W N X bg base){i:Nat}{b:BgD}(hb:bg[i]? = some b)(v:Int):SdOk W N X (bg.set i { b with to_:=v }) base:=by
 have get:∀ (j:Nat) (d:BgD),(bg.set i { b with to_:=v })[j]? = some d →∃ d':BgD,bg[j]? = some d'∧d.h=d'.h:=fun j d hd=>by
  rw[List.getElem?_set]at hd
  by_cases e:i=j
  ·subst e
   rw[if_pos rfl]at hd
   split at hd
   ·injection hd with hd;subst hd;exact⟨b,hb,rfl⟩
   ·cases hd
  ·rw[if_neg e]at hd;exact⟨d,hd,rfl⟩
 refine⟨o.sr,by simpa using o.len,by simpa using o.bgN,fun j d hd=>?_,fun a l hw=>?_⟩
 ·obtain⟨d',h1,h2⟩:=get j d hd
  rw[h2];exact o.hs j d' h1
 ·rcases o.link a l hw with ⟨j,d,h1,h2,h3,h4⟩ | h
  ·by_cases e:i=j
   ·subst e
    rw[hb]at h1;cases h1
    exact .inl ⟨i,_,List.getElem?_set_self (List.getElem?_eq_some_iff.1 hb).1,h2,h3,h4⟩
   ·exact .inl ⟨j,d,by rw[List.getElem?_set_ne e];exact h1,h2,h3,h4⟩
  ·exact .inr h
theorem SdOk.tx{W:Int→List UInt8→Prop}(o:SdOk W N X bg base){i:Nat}{b:BgD}(hb:bg[i]? = some b)(h0:b.h≠0):∃ (j:Nat) (t:TxS),b.h=j+1∧X.D.txs[j]? = some t:=by
 have h1:=o.hs i b hb
 have hi:=(List.getElem?_eq_some_iff.1 hb).1
 have hl:=o.len
 by_cases hbse:i<base
 ·rw[if_pos hbse]at h1;exact absurd h1 h0
 ·rw[if_neg hbse]at h1
  exact⟨i-base,X.D.txs[i-base]'(by omega),by omega,List.getElem?_eq_getElem _⟩
theorem SdOk.commit{W:Int→List UInt8→Prop}{D':MgrD}{hd c:Int}(o:SdOk W N X bg base)(m:MgrOk N D')(r:CommitR X.D hd D' c):SdOk W N { X with D:=D' } bg base:=by
 rcases r with ⟨_,rfl,_⟩ | ⟨j,t,ht,h1,_,hr⟩
 ·exact o.mgr (Nat.le_refl _) m rfl fun j t h1 h2=>⟨t,h1,h2,rfl⟩
 ·have keep:∀ t':TxS,∀ (i:Nat) (u:TxS),X.D.txs[i]? = some u→u.state=3 →∃ u',(X.D.txs.set j t')[i]? = some u'∧u'.state=3∧u'.P=u.P:=fun t' i u hu h3=>by
   have hne:j≠i:=fun e=>by subst e;rw[ht]at hu;cases hu;omega
   exact⟨u,by rw[List.getElem?_set_ne hne];exact hu,h3,rfl⟩
  rcases hr with ⟨_,_,rfl⟩ | ⟨_,_,rfl⟩ | ⟨_,_,_,rfl⟩
  ·exact o.mgr (Nat.le_refl _) m (by simp[MgrD.set]) (keep _)
  ·exact o.mgr (Nat.le_refl _) m (by simp[MgrD.set]) (keep _)
  ·exact o.mgr (Nat.le_refl _) m (by simp) (keep _)
end
theorem beg_step(i:Nat):∀ q,q=Kd.beg i→sStep q:=fun q e=>by subst e;trivial
section
variable{G:Gh}{h:Hp}{M N sc:Nat}{X:StD}{cl:List CSl}{bg:List BgD}{na base:Nat}{ev:Int}{db sb:Nat}{all:Sl}{bb:Nat→Nat}
theorem SdIn.begH(x:SdIn G h M N sc X cl bg na ev db sb all bb){i:Nat}{b:BgD}(hb:bg[i]? = some b):hY h ⟨bb i,0,none⟩=some (.int .i64 (b.h:Int)):=by
 obtain⟨g,tm,f,tt,rs,ps,r,_⟩:=(x.beg i b hb).row
 exact r.get0 rfl
theorem commit_tail{W:Int→List UInt8→Prop}{G0:Gh}{h0:Hp}(y:To sStep G0 h0 G h)(x:SdIn G h M N sc X cl bg na ev db sb all bb)(o:SdOk W N X bg base){i:Nat}{b:BgD}(hb:bg[i]? = some b)(hnz:b.h≠0)
 {la lr:Nat} {a0 a1 a2 a3:Int} {a4:Sl} {l5:List Value} (ka:G.k la=.one 30) (ra:Row h la (blkV a0 a1 a2 a3 a4)) (kr:G.k lr=.one 30) (rr:Row h lr l5) (hl:l5.length=5) (hla:h0.size≤la) (hlr:h0.size≤lr) (hne:la≠lr) {KF KT:Int→Int→Int→Int→Sl→Hp→Prop}
 (hF:∀ (h':Hp),To sStep G0 h0 G h'→SdIn G h' M N sc X cl bg na ev db sb all bb→(∀ (j:Nat) (tx:TxS),b.h=j+1→X.D.txs[j]? = some tx→tx.state=2)→KF 0 0 0 0 Sl.nil h')
 (hT:∀ (h':Hp) (b0 b1 b2 b3:Int),To sStep G0 h0 G h'→SdIn G h' M N sc X cl (bg.set i { b with to_:=ev }) na ev db sb all bb→(∀ (j:Nat) (tx:TxS),b.h=j+1→X.D.txs[j]? = some tx→tx.state≠2)→KT b0 b1 b2 b3 a4 h') :
 ∃ a14:Addr,(some (⟨sc,0,none⟩:Addr))=some a14∧
   ∃ c27:Option Addr,hY h (a14.add 1)=some (.pointer c27)∧
   ∃ a15:Addr,(some (⟨bb i,0,none⟩:Addr))=some a15∧
   ∃ c28:Int,hY h a15=some (.int .i64 c28)∧
   HC Tryz.prog 189 #[.pointer c27,.int .i64 c28] h fun r3 vh9=>
   ∃ c29:Int,∃ c30:Int,∃ c31:Int,r3=.tuple #[.int .i64 c29,.int .i64 c30,.int .i64 c31]∧
   Ext h vh9∧
   IfB (c29 ==(2:Int)) (stCells ⟨lr,0,none⟩ 0 [.int .i64 (0:Int),.int .i64 (0:Int),.int .i64 (0:Int),.int .i64 (0:Int),.slice Sl.nil.base Sl.nil.len Sl.nil.cap] vh9 fun vh10=>
    ∃ x10:Int,∃ x11:Int,∃ x12:Int,∃ x13:Int,∃ x14:Sl,hY vh10 ⟨lr,0,none⟩=some (.int .i64 x10)∧hY vh10 ((⟨lr,0,none⟩:Addr).add 1)=some (.int .i64 x11)∧hY vh10 ((⟨lr,0,none⟩:Addr).add 2)=some (.int .i64 x12)∧hY vh10 ((⟨lr,0,none⟩:Addr).add 3)=some (.int .i64 x13)∧hY vh10 ((⟨lr,0,none⟩:Addr).add 4)=some (.slice x14.base x14.len x14.cap)∧
    KF x10 x11 x12 x13 x14 vh10)
   (IfB (c29 ==(3:Int)) (StOk vh9 ((⟨la,0,none⟩:Addr).add 3)∧
    Lt (hset vh9 ((⟨la,0,none⟩:Addr).add 3) (.int .i64 c30)) fun vh11=>
    ∃ a16:Addr,(some (⟨sc,0,none⟩:Addr))=some a16∧
    ∃ c32:Int,hY vh11 (a16.add 35)=some (.int .i64 c32)∧
    ∃ a17:Addr,(some (⟨bb i,0,none⟩:Addr))=some a17∧
    StOk vh11 (a17.add 2)∧
    Lt (hset vh11 (a17.add 2) (.int .i64 c32)) fun vh12=>
    ∃ c33:Int,∃ c34:Int,∃ c35:Int,∃ c36:Int,∃ c37:Sl,hY vh12 ⟨la,0,none⟩=some (.int .i64 c33)∧hY vh12 ((⟨la,0,none⟩:Addr).add 1)=some (.int .i64 c34)∧hY vh12 ((⟨la,0,none⟩:Addr).add 2)=some (.int .i64 c35)∧hY vh12 ((⟨la,0,none⟩:Addr).add 3)=some (.int .i64 c36)∧hY vh12 ((⟨la,0,none⟩:Addr).add 4)=some (.slice c37.base c37.len c37.cap)∧
    stCells ⟨lr,0,none⟩ 0 [.int .i64 c33,.int .i64 c34,.int .i64 c35,.int .i64 c36,.slice c37.base c37.len c37.cap] vh12 fun vh13=>
    ∃ x15:Int,∃ x16:Int,∃ x17:Int,∃ x18:Int,∃ x19:Sl,hY vh13 ⟨lr,0,none⟩=some (.int .i64 x15)∧hY vh13 ((⟨lr,0,none⟩:Addr).add 1)=some (.int .i64 x16)∧hY vh13 ((⟨lr,0,none⟩:Addr).add 2)=some (.int .i64 x17)∧hY vh13 ((⟨lr,0,none⟩:Addr).add 3)=some (.int .i64 x18)∧hY vh13 ((⟨lr,0,none⟩:Addr).add 4)=some (.slice x19.base x19.len x19.cap)∧
    KT x15 x16 x17 x18 x19 vh13)
    (StOk vh9 ((⟨la,0,none⟩:Addr).add 1)∧
     Lt (hset vh9 ((⟨la,0,none⟩:Addr).add 1) (.int .i64 c31)) fun vh14=>
     ∃ a18:Addr,(some (⟨sc,0,none⟩:Addr))=some a18∧
     ∃ c38:Int,hY vh14 (a18.add 35)=some (.int .i64 c38)∧
     ∃ a19:Addr,(some (⟨bb i,0,none⟩:Addr))=some a19∧
     StOk vh14 (a19.add 2)∧
     Lt (hset vh14 (a19.add 2) (.int .i64 c38)) fun vh15=>
     ∃ c39:Int,∃ c40:Int,∃ c41:Int,∃ c42:Int,∃ c43:Sl,hY vh15 ⟨la,0,none⟩=some (.int .i64 c39)∧hY vh15 ((⟨la,0,none⟩:Addr).add 1)=some (.int .i64 c40)∧hY vh15 ((⟨la,0,none⟩:Addr).add 2)=some (.int .i64 c41)∧hY vh15 ((⟨la,0,none⟩:Addr).add 3)=some (.int .i64 c42)∧hY vh15 ((⟨la,0,none⟩:Addr).add 4)=some (.slice c43.base c43.len c43.cap)∧
     stCells ⟨lr,0,none⟩ 0 [.int .i64 c39,.int .i64 c40,.int .i64 c41,.int .i64 c42,.slice c43.base c43.len c43.cap] vh15 fun vh16=>
     ∃ x20:Int,∃ x21:Int,∃ x22:Int,∃ x23:Int,∃ x24:Sl,hY vh16 ⟨lr,0,none⟩=some (.int .i64 x20)∧hY vh16 ((⟨lr,0,none⟩:Addr).add 1)=some (.int .i64 x21)∧hY vh16 ((⟨lr,0,none⟩:Addr).add 2)=some (.int .i64 x22)∧hY vh16 ((⟨lr,0,none⟩:Addr).add 3)=some (.int .i64 x23)∧hY vh16 ((⟨lr,0,none⟩:Addr).add 4)=some (.slice x24.base x24.len x24.cap)∧
     KT x20 x21 x22 x23 x24 vh16)):=by
 obtain⟨j,tx,hbj,htx⟩:=o.tx hb hnz
 refine⟨_,rfl,_,x.row.get rfl,_,rfl,_,x.begH hb,(sResult_spec x.st _).mono ?_⟩
 rintro r3 h9 ⟨hh,hr⟩
 obtain rfl:=hh.symm
 obtain rfl:r3=.tuple #[.int .i64 (tx.state:Int),.int .i64 tx.time,.int .i64 tx.code]:=by
  rcases hr with ⟨_,hn⟩ | ⟨j',t',h1,h2,rfl⟩
  ·exact absurd ⟨j,(List.getElem?_eq_some_iff.1 htx).1,by rw[hbj]⟩ hn
  ·obtain rfl:j'=j:=by rw[hbj]at h2;omega
   rw[htx]at h1;cases h1;rfl
 have uniq:∀ (j':Nat) (t':TxS),b.h=j'+1→X.D.txs[j']? = some t'→t'=tx:=fun j' t' h1 h2=>by
  obtain rfl:j'=j:=by omega
  rw[htx]at h2;cases h2;rfl
 have t9:=y.ht
 have fin:∀ (q:Nat) (v:Int) (p0 p1 p2 p3:Int),q<5→(blkV a0 a1 a2 a3 a4).set q (.int .i64 v)=blkV p0 p1 p2 p3 a4→tx.state≠2→StOk h ((⟨la,0,none⟩:Addr).add q)∧
  ∃ a18:Addr,(some (⟨sc,0,none⟩:Addr))=some a18∧
   ∃ c38:Int,hY (hset h ((⟨la,0,none⟩:Addr).add q) (.int .i64 v)) (a18.add 35)=some (.int .i64 c38)∧
   ∃ a19:Addr,(some (⟨bb i,0,none⟩:Addr))=some a19∧
   StOk (hset h ((⟨la,0,none⟩:Addr).add q) (.int .i64 v)) (a19.add 2)∧
   Lt (hset (hset h ((⟨la,0,none⟩:Addr).add q) (.int .i64 v)) (a19.add 2) (.int .i64 c38)) fun vh15=>
   ∃ c39:Int,∃ c40:Int,∃ c41:Int,∃ c42:Int,∃ c43:Sl,hY vh15 ⟨la,0,none⟩=some (.int .i64 c39)∧hY vh15 ((⟨la,0,none⟩:Addr).add 1)=some (.int .i64 c40)∧hY vh15 ((⟨la,0,none⟩:Addr).add 2)=some (.int .i64 c41)∧hY vh15 ((⟨la,0,none⟩:Addr).add 3)=some (.int .i64 c42)∧hY vh15 ((⟨la,0,none⟩:Addr).add 4)=some (.slice c43.base c43.len c43.cap)∧
   stCells ⟨lr,0,none⟩ 0 [.int .i64 c39,.int .i64 c40,.int .i64 c41,.int .i64 c42,.slice c43.base c43.len c43.cap] vh15 fun vh16=>
   ∃ x20:Int,∃ x21:Int,∃ x22:Int,∃ x23:Int,∃ x24:Sl,hY vh16 ⟨lr,0,none⟩=some (.int .i64 x20)∧hY vh16 ((⟨lr,0,none⟩:Addr).add 1)=some (.int .i64 x21)∧hY vh16 ((⟨lr,0,none⟩:Addr).add 2)=some (.int .i64 x22)∧hY vh16 ((⟨lr,0,none⟩:Addr).add 3)=some (.int .i64 x23)∧hY vh16 ((⟨lr,0,none⟩:Addr).add 4)=some (.slice x24.base x24.len x24.cap)∧
   KT x20 x21 x22 x23 x24 vh16:=by
  intro q v p0 p1 p2 p3 hq hset' hst
  obtain⟨ok1,b1,y1,r1⟩:=locSet t9 ka ra (i:=q) (by simpa [blkV] using hq) (.int .i64 v)
  rw[hset']at r1
  have x1:=x.loc y1
  have yy1:=b1.new y hla
  have rr1:=b1.row rr (Ne.symm hne)
  obtain⟨ok2,y2,x2⟩:=x1.setTo b1.ht hb ev
  have r2:=y2.rowK r1 ka (by simp)
  have rr2:=y2.rowK rr1 kr (by simp)
  refine⟨ok1,_,rfl,_,x1.row.get (scV_all x1.len).2,_,rfl,ok2,?_⟩
  refine retA y2.ht r2 kr rr2 hl fun h3 b3 y3=>?_
  refine hT h3 _ _ _ _ (b3.new (yy1.trans (y2.mono (beg_step i))) hlr) (x2.loc y3) fun j' t' h1 h2=>?_
  obtain rfl:=uniq j' t' h1 h2
  exact hst
 refine⟨_,_,_,rfl,.refl _,IfB.eq (fun h2=>?_) fun h2=>IfB.eq (fun h3=>?_) fun h3=>?_⟩
 ·refine retZ t9 0 0 0 0 Sl.nil kr rr hl fun h10 b10 y10 _=>?_
  refine hF h10 (b10.new y hlr) (x.loc y10) fun j' t' h1 h4=>?_
  obtain rfl:=uniq j' t' h1 h4
  omega
 ·exact fin 3 tx.time a0 a1 a2 tx.time (by omega) rfl (by omega)
 ·exact fin 1 tx.code a0 tx.code a2 a3 (by omega) rfl (by omega)
theorem locTwo(t:HT G h)(x:SdIn G h M N sc X cl bg na ev db sb all bb)(v1 v2:List Value)(ty1 ty2:Nat):∃ G2:Gh,To (fun _=>False) G h G2 (alc (alc h v1 ty1) v2 ty2)∧G2.W=G.W∧G2.k h.size=.one 30∧G2.k (h.size+1)=.one 30∧Row (alc (alc h v1 ty1) v2 ty2) h.size v1∧Row (alc (alc h v1 ty1) v2 ty2) (h.size+1) v2∧SdIn G2 (alc (alc h v1 ty1) v2 ty2) M N sc X cl bg na ev db sb all bb:=by
 obtain⟨G1,y1,w1,k1,r1⟩:=alcLoc t v1 ty1
 obtain⟨G2,y2,w2,k2,r2⟩:=alcLoc y1.ht v2 ty2
 have s1:(alc h v1 ty1).size=h.size+1:=size_alc _ _ _
 rw[s1]at k2 r2
 exact⟨G2,y1.trans y2,w2.trans w1,y2.kd k1 (by simp),k2,y2.rowK r1 k1 id,r2,x.pure (y1.trans y2)⟩
theorem dCommit_spec(t:HT G h)(x:SdIn G h M N sc X cl bg na ev db sb all bb)(o:SdOk G.W N X bg base)(hM:M≤1000000){k:Nat}{c:CSl}(hc:cl[k]? = some c){i:Nat}{b:BgD}(hb:bg[i]? = some b)(hnz:b.h≠0)(a0 a1 a2 a3:Int)(a4:Sl) :
 HC Tryz.prog 140 #[pv sc,.pointer (some (clA sc k)),pv (bb i),.agg #[.int .i64 a0,.int .i64 a1,.int .i64 a2,.int .i64 a3,.slice a4.base a4.len a4.cap]] h fun r h'=>∃ (G':Gh) (X':StD) (bg':List BgD) (okb:Bool) (b0 b1 b2 b3:Int) (s:Sl),
  r=.tuple #[.agg #[.int .i64 b0,.int .i64 b1,.int .i64 b2,.int .i64 b3,.slice s.base s.len s.cap],.bool okb]∧To sStep G h G' h'∧G'.W=G.W∧SdIn G' h' M N sc X' cl bg' na ev db sb all bb∧SdOk G.W N X' bg' base∧X'.dv=X.dv∧bg'.length=bg.length∧(s=a4∨s=Sl.nil)∧
  (∀ (j:Nat) (tx:TxS),b.h=j+1→X.D.txs[j]? = some tx →
   (c.asked=false→tx.state=1→tx.P ≠ []→X.D.read=false→X.D.last=0→X.D.queue = []→X.D.given<1099511627776→okb=false∧bg'=bg∧X' = { X with D:={ X.D with txs:=X.D.txs.set j { tx with state:=2,time:=X.D.given+1 },queue:=X.D.queue ++ [j+1],given:=X.D.given+1 } })∧
   (c.asked=true→tx.state=3→okb=true∧X'=X∧bg'=bg.set i { b with to_:=ev })):=by
 apply wc140
 unfold vc140
 intro h1 h2
 obtain⟨G2,y2,w2,ka,kr,ra,rr,x2⟩:=locTwo t x [.int .i64 a0,.int .i64 a1,.int .i64 a2,.int .i64 a3,.slice a4.base a4.len a4.cap] [.int .i64 (0:Int),.int .i64 (0:Int),.int .i64 (0:Int),.int .i64 (0:Int),.slice Sl.nil.base Sl.nil.len Sl.nil.cap] 62 62
 have e1:nw h=(⟨h.size,0,none⟩:Addr):=rfl
 have e2:nw h1=(⟨h.size+1,0,none⟩:Addr):=by show nw (alc h _ _)=_;unfold nw;rw[size_alc]
 rw[e1,e2]
 change To _ G h G2 h2 at y2
 change Row h2 _ _ at ra
 change Row h2 _ _ at rr
 change SdIn G2 h2 _ _ _ _ _ _ _ _ _ _ _ _ at x2
 clear_value h2
 clear e1 e2
 have ra:Row h2 h.size (blkV a0 a1 a2 a3 a4):=ra
 have y02:To sStep G h G2 h2:=y2.mono fun _ h=>h.elim
 refine⟨_,rfl,_,x2.cell hc (j:=3) (by omega) rfl,IfB.intro (fun hask=>?_) fun hask=>?_⟩
 ·have hask:c.asked=false:=by simpa using hask
  obtain⟨j,tx,hbj,htx⟩:=o.tx hb hnz
  refine⟨_,rfl,_,x2.row.get rfl,_,rfl,_,x2.begH hb,(sResult_spec x2.st _).mono ?_⟩
  rintro r3 h3 ⟨hh,hr⟩
  obtain rfl:=hh.symm
  obtain rfl:r3=.tuple #[.int .i64 (tx.state:Int),.int .i64 tx.time,.int .i64 tx.code]:=by
   rcases hr with ⟨_,hn⟩ | ⟨j',t',h1,h2,rfl⟩
   ·exact absurd ⟨j,(List.getElem?_eq_some_iff.1 htx).1,by rw[hbj]⟩ hn
   ·obtain rfl:j'=j:=by rw[hbj]at h2;omega
    rw[htx]at h1;cases h1;rfl
  have rR:=x2.row.filt (P:=kf G2 sSt) (kf_yes (by rw[x2.kd];simp[sSt]))
  obtain⟨g,tm,f,tt,rs,ps,rbg,_⟩:=(x2.beg i b hb).row
  have bR:=rbg.filt (P:=kf G2 sSt) (kf_yes (by rw[(x2.beg i b hb).kd];exact id))
  refine⟨_,_,_,rfl,.refl _,filt (kf G2 sSt) h2,sub_kf _ _ _,_,rfl,_,rR.get rfl,_,rfl,_,bR.get0 rfl,(sCommit_spec y2.ht x2.st o.sr.off hM o.sr.mg _).mono ?_⟩
  rintro _ h3 ⟨G3,cc,D3,rfl,y3,w3,s3,m3,hcr,hex⟩
  have x3:=x2.str y3 (Nat.le_refl N) s3
  have o3:=o.commit m3 hcr
  have ka3:=y3.kd ka (by simp)
  have kr3:=y3.kd kr (by simp)
  have ra3:=y3.rowK ra ka (by simp[sSt])
  have rr3:=y3.rowK rr kr (by simp[sSt])
  have y03:=y02.trans (y3.mono sSt_step)
  obtain⟨ok4,b4,y4,r4⟩:=locSet y3.ht ka3 ra3 (i:=1) (by simp[blkV]) (.int .i64 cc)
  have r4:Row _ h.size (blkV a0 cc a2 a3 a4):=r4
  have rr4:=b4.row rr3 (by omega)
  have x4:=x3.loc y4
  have y04:=b4.new y03 (Nat.le_refl _)
  have hW3:G3.W=G.W:=w3.trans w2
  refine⟨_,rfl,y3.kf,ok4,_,r4.get rfl,IfB.ne (fun hne=>?_) fun heq=>?_⟩
  ·
   obtain⟨j',tx',hbj',htx'⟩:=o3.tx hb hnz
   refine⟨_,rfl,_,x4.row.get rfl,_,rfl,_,x4.begH hb,(sResult_spec x4.st _).mono ?_⟩
   rintro r5 h5 ⟨hh,hr5⟩
   obtain rfl:=hh.symm
   obtain⟨p1,p2,p3,rfl⟩:∃ p1 p2 p3:Int,r5=.tuple #[.int .i64 p1,.int .i64 p2,.int .i64 p3]:=by
    rcases hr5 with ⟨rfl,_⟩ | ⟨_,_,_,_,rfl⟩
    ·exact⟨_,_,_,rfl⟩
    ·exact⟨_,_,_,rfl⟩
   have exq:∀ {okb:Bool} {bg':List BgD},∀ (j:Nat) (tx:TxS),b.h=j+1→X.D.txs[j]? = some tx →
    (c.asked=false→tx.state=1→tx.P ≠ []→X.D.read=false→X.D.last=0→X.D.queue = []→X.D.given<1099511627776→okb=false∧bg'=bg∧({ X with D:=D3 }:StD) = { X with D:={ X.D with txs:=X.D.txs.set j { tx with state:=2,time:=X.D.given+1 },queue:=X.D.queue ++ [j+1],given:=X.D.given+1 } })∧
    (c.asked=true→tx.state=3→okb=true∧({ X with D:=D3 }:StD)=X∧bg'=bg.set i { b with to_:=ev }):=fun j tx h1 h2=>
    ⟨fun _ h3 h4 h5 h6 h7 h8=>absurd (hex j tx h2 h3 (by rw[h1]) h4 h5 h6 h7 h8) hne,fun h=>by rw[hask]at h;cases h⟩
   refine⟨_,_,_,rfl,.refl _,IfB.ne (fun _=>?_) fun _=>?_⟩
   ·obtain⟨ok6,y6,x6⟩:=x4.setTo b4.ht hb ev
    have r6:=y6.rowK r4 ka3 (by simp)
    have rr6:=y6.rowK rr4 kr3 (by simp)
    refine⟨_,rfl,_,x4.row.get (scV_all x4.len).2,_,rfl,ok6,retA y6.ht r6 kr3 rr6 rfl fun h7 b7 y7=>?_⟩
    exact⟨G3,{ X with D:=D3 },_,true,_,_,_,_,a4,rfl,b7.new (y04.trans (y6.mono (beg_step i))) (by omega),hW3,x6.loc y7,o3.setTo hb ev,rfl,by simp,.inl rfl,exq⟩
   ·refine retA b4.ht r4 kr3 rr4 rfl fun h7 b7 y7=>?_
    exact⟨G3,{ X with D:=D3 },bg,true,_,_,_,_,a4,rfl,b7.new y04 (by omega),hW3,x4.loc y7,o3,rfl,rfl,.inl rfl,exq⟩
  ·
   have hst:∀ (j':Nat) (tx':TxS),b.h=j'+1→X.D.txs[j']? = some tx'→tx'.state=1→tx'.P ≠ []→D3 = { X.D with txs:=X.D.txs.set j' { tx' with state:=2,time:=X.D.given+1 },queue:=X.D.queue ++ [j'+1],given:=X.D.given+1 }:=fun j' tx' h1 h2 h3 h4=>?_
   ·refine commit_tail y04 x4 o3 hb hnz ka3 r4 kr3 rr4 rfl (Nat.le_refl _) (by omega) (by omega) (fun h7 y7 x7 hx7=>?_) fun h7 b0 b1 b2 b3 y7 x7 hx7=>?_
    ·exact⟨G3,{ X with D:=D3 },bg,false,_,_,_,_,Sl.nil,rfl,y7,hW3,x7,o3,rfl,rfl,.inr rfl,fun j' tx' h1 h2=>⟨fun _ h3 h4 _ _ _ _=>⟨rfl,rfl,by rw[hst j' tx' h1 h2 h3 h4]⟩,fun h=>by rw[hask]at h;cases h⟩⟩
    ·refine⟨G3,{ X with D:=D3 },_,true,b0,b1,b2,b3,a4,rfl,y7,hW3,x7,o3.setTo hb ev,rfl,by simp,.inl rfl,fun j' tx' h1 h2=>⟨fun _ h3 h4 _ _ _ _=>?_,fun h=>by rw[hask]at h;cases h⟩⟩
     have e3:=hst j' tx' h1 h2 h3 h4
     refine absurd rfl (hx7 j' { tx' with state:=2,time:=X.D.given+1 } h1 ?_)
     show D3.txs[j']? = _
     rw[e3]
     exact List.getElem?_set_self (List.getElem?_eq_some_iff.1 h2).1
   rcases hcr with ⟨hno,_,_⟩ | ⟨j2,t2,g1,g2,g3,⟨g4,_⟩ | ⟨_,g5,_⟩ | ⟨_,_,_,rfl⟩⟩
   ·exact absurd ⟨j',tx',h2,h3,by rw[h1]⟩ hno
   ·obtain rfl:j2=j':=by rw[h1]at g3;omega
    rw[h2]at g1;cases g1;exact absurd g4 h4
   ·exact absurd heq g5
   ·obtain rfl:j2=j':=by rw[h1]at g3;omega
    rw[h2]at g1;cases g1;rfl
 ·have hask:c.asked=true:=by simpa using hask
  refine commit_tail y02 x2 o hb hnz ka ra kr rr rfl (Nat.le_refl _) (by omega) (by omega) (fun h7 y7 x7 hx7=>?_) fun h7 b0 b1 b2 b3 y7 x7 hx7=>?_
  ·refine⟨G2,X,bg,false,_,_,_,_,Sl.nil,rfl,y7,w2,x7,o,rfl,rfl,.inr rfl,fun j' tx' h1 h2=>⟨fun h=>(by rw[hask]at h;cases h),fun _ h3=>?_⟩⟩
   have:=hx7 j' tx' h1 h2
   omega
  ·exact⟨G2,X,_,true,b0,b1,b2,b3,a4,rfl,y7,w2,x7,o.setTo hb ev,rfl,by simp,.inl rfl,fun j' tx' h1 h2=>⟨fun h=>(by rw[hask]at h;cases h),fun _ h3=>⟨rfl,rfl,rfl⟩⟩⟩
end
end Go.Proofs.YtdpdkpfnfllipaaGreatDoor

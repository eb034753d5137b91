/- A part of the proof, no condition. -/
import Derived.Test.YtdpdkpfnfllipaaGreatDoorN9
import Derived.Test.YtdpdkpfnfllipaaGreatDoorN11
set_option linter.unusedVariables false
set_option linter.unusedSimpArgs false
namespace Go.Proofs.YtdpdkpfnfllipaaGreatDoor
def BDecC(B:Nat→Prop)(h':Hp)(l:List (List UInt8))(num:Int)(t:Sl)(ep n err:Int):Prop:=
 ((∀ i,i<l.length→dataOk l i)∧err=14∧num=0∧t=Sl.nil∧ep=0∧n=0) ∨
 ((¬ ∃ i nm e T,IsB l i nm e T)∧(∃ i,i<l.length∧¬ dataOk l i)∧err=13∧num=0∧t=Sl.nil∧ep=0∧n=0) ∨
 (∃ (i nm e:Nat) (T:List TxD),IsB l i nm e T∧err=0∧num=nm∧ep=e∧n=((i+1:Nat):Int)∧TxsR B h' t T)
def BDecA(h:Hp)(l:List (List UInt8))(r:Value)(h':Hp):Prop:=
 Ext h h'∧∃ (num:Int) (t:Sl) (ep n err:Int),r=.tuple #[.agg #[.int .i64 num,.slice t.base t.len t.cap],.int .i64 ep,.int .i64 n,.int .i64 err]∧BDecC (fun b=>h.size≤b∧b<h'.size) h' l num t ep n err
theorem noB{l:List (List UInt8)}{i:Nat}(hd:∀ k,k<i→dataOk l k)(hn:¬ dataOk l i){i' nm e:Nat}{T:List TxD}(b:IsB l i' nm e T):i'=i:=by
 obtain⟨d1,s1,k1,_⟩:=dec_complete b
 rcases Nat.lt_trichotomy i' i with h | h | h
 ·have:=(hd i' h).2.2.2;omega
 ·exact h
 ·exact absurd (d1 i h) hn
theorem BDecode_spec{h:Hp}{s:Sl}{rows:List (Sl × List UInt8)}(w:RowsR h s rows)(hmax:rows.length≤1000000):HC Tryz.prog 125 #[.slice s.base s.len s.cap] h (BDecA h (rows.map (·.2))):=by
 apply wc125
 unfold vc125
 intro h1
 have e1:Ext h h1:=alc_ext _ _ _
 have s1:h1.size=h.size+1:=size_alc _ _ _
 have r1:Row h1 h.size [.int .i64 (0:Int),.slice Sl.nil.base Sl.nil.len Sl.nil.cap]:=Row.alc _ _ _
 refine(row_spec (w.ext e1) hmax).mono ?_
 have hll:(rows.map (·.2)).length=rows.length:=by simp
 generalize rows.map (·.2)=l at *
 rintro _ h2 ⟨e2,i,t,hil,hd,pr,hcase⟩
 have s2:=e2.size
 have hpl:=pr.len
 have hPl:(putsOf l i).length=i:=by simp[putsOf];omega
 have nothing:∀ {h':Hp} {old:List Value} (err:Int),Ext h h'→Row h' h.size old→old.length=2→(∀ {h'':Hp},BDecC (fun b=>h.size≤b∧b<h''.size) h'' l 0 Sl.nil 0 0 err) →
  stCells (nw h) 0 [.int .i64 (0:Int),.slice Sl.nil.base Sl.nil.len Sl.nil.cap] h' fun vh4=>
  ∃ x:Int,∃ x1:Sl,hY vh4 (nw h)=some (.int .i64 x)∧hY vh4 ((nw h).add 1)=some (.slice x1.base x1.len x1.cap)∧
  BDecA h l (.tuple #[.agg #[.int .i64 x,.slice x1.base x1.len x1.cap],.int .i64 (0:Int),.int .i64 (0:Int),.int .i64 err]) vh4:=fun {h' old} err e' r' ho hc=>
  r'.put (vs:=[.int .i64 (0:Int),.slice Sl.nil.base Sl.nil.len Sl.nil.cap]) (by simp[ho]) (by simp[cellOk]) fun h'' r'' s'' o''=>r''.get2s ⟨⟨by rw[s''];exact e'.size,fun b hb=>by rw[o'' b (by omega),e'.block b hb]⟩,0,Sl.nil,0,0,err,rfl,hc⟩
 rcases hcase with ⟨rfl,k,e,s',lb,u,rfl⟩ | ⟨hlt,hnd,k,e,s',lb,u,rfl,hku⟩
 ·refine⟨t,k,e,s',lb,u,false,rfl,?_⟩
  intro h3
  refine put5 fun h4 e4 _=>.yes rfl (nothing 14 ((e1.trans e2).trans e4) (r1.ext (e2.trans e4)) rfl (.inl ⟨hd,rfl,rfl,rfl,rfl,rfl⟩))
 ·refine⟨t,k,e,s',lb,u,true,rfl,?_⟩
  intro h3
  refine put5 fun h4 e4 r4=>.no rfl (r4.get5 ?_)
  have s4:h2.size<h4.size:=r4.lt
  have ru:k=2→Rd 1 h4 u ((dB (rwL l i)).map bv):=fun hk=>by
   rcases hku with ⟨_,h0⟩ | ⟨_,_,_,_,_,hr⟩
   ·omega
   ·exact hr.ext e4
  have hbl:(dB (rwL l i)).length≤1000:=by
   have:=(dlt (rwL l i)).2.1
   unfold dB;rw[List.length_take];omega
  refine(batch_spec k e s' lb (dB (rwL l i)) ru hbl (pr.ext e4) (fun b hb=>by omega) (by omega)).mono ?_
  rintro _ h5 ⟨e5,num,tt,ok,rfl,hok,htx⟩
  have s5:=e5.size
  refine⟨num,tt,ok,rfl,?_⟩
  have e05:=((e1.trans e2).trans e4).trans e5
  have r5:=r1.ext ((e2.trans e4).trans e5)
  refine r5.put (vs:=[.int .i64 num,.slice tt.base tt.len tt.cap]) rfl (by simp[cellOk]) fun h6 r6 s6 o6=>?_
  have e06:Ext h h6:=⟨by rw[s6];exact e05.size,fun b hb=>by rw[o6 b (by omega),e05.block b hb]⟩
  have hsamek:sameOk l i→(k=2∧lb=(putsOf l i).length∧MadeP s' (dB (rwL l i)) (putsOf l i)↔dK (rwL l i)=2∧dL (rwL l i)=(putsOf l i).length∧MadeP (dS (rwL l i):Int) (dB (rwL l i)) (putsOf l i)):=fun hs=>by
   rcases hku with ⟨hno,_⟩ | ⟨_,rfl,_,rfl,rfl,_⟩
   ·exact absurd hs hno
   ·constructor <;> rintro⟨a,b,c⟩ <;> exact⟨by omega,by omega,c⟩
  refine IfB.not (IfB.intro (fun hokt=>?_) (fun hokf=>?_))
  ·obtain⟨hnum,htx2⟩:=htx hokt
   subst hnum
   have hk:=hok.1 hokt
   have hs:sameOk l i:=by
    rcases hku with ⟨_,h0⟩ | ⟨hs,_⟩
    ·omega
    ·exact hs
   obtain⟨m1,m2,m3⟩:=(hsamek hs).1 hk
   have isb:=dec_sound hlt hd hs m1 m2 m3
   obtain⟨he,hsq⟩:e=(dE (rwL l i):Int)∧num=(dS (rwL l i):Int):=by
    rcases hku with ⟨_,h0⟩ | ⟨_,_,he,hsq,_⟩
    ·omega
    ·exact⟨he,hsq⟩
   refine r6.get2s ⟨e,(r4.ext e5 |>.eq (o6 _ (by omega))).get rfl,?_⟩
   refine r6.same (by simp[cellOk]) ⟨.refl _,r6.get2s ⟨e06,num,tt,e,_,0,rfl,.inr (.inr ⟨i,_,_,_,isb,rfl,hsq,he,?_,?_⟩)⟩⟩
   ·rw[hpl,hPl,iAdd64 (by omega)];push_cast;rfl
   ·refine(htx2.eq fun b hb=>o6 b ?_).mono fun b hb=>?_
    ·rcases hb with h | h <;> omega
    ·rcases hb with h | h <;> exact⟨by omega,by omega⟩
  ·refine nothing 13 e06 r6 rfl (.inr (.inl ⟨?_,⟨i,hlt,hnd⟩,rfl,rfl,rfl,rfl,rfl⟩))
   rintro⟨i',nm,ep,T,b⟩
   obtain rfl:=noB hd hnd b
   obtain⟨_,hs,m1,m2,n1,n2,m3,_⟩:=dec_complete b
   have:=hok.2 ((hsamek hs).2 ⟨m1,m2,by rw[n1];exact m3⟩)
   rw[hokf]at this;cases this
def al(n:Nat)(tb:Nat→Nat):List ME:=(List.range n).map fun j=>(((j+1:Nat):Int),pv (tb j),j)
theorem al_wf(n:Nat)(tb:Nat→Nat):MWf (al n tb) n:=by
 refine⟨?_,?_,fun e he=>?_⟩
 ·unfold kS al
  rw[List.map_map,List.Nodup,List.pairwise_map]
  refine List.Pairwise.imp ?_ (List.nodup_range (n:=n))
  intro a b hab e
  simp at e;omega
 ·unfold al
  rw[List.map_map]
  simpa [Function.comp_def] using (List.nodup_range (n:=n))
 ·obtain⟨j,hj,rfl⟩:=List.mem_map.1 he
  exact List.mem_range.1 hj
theorem al_mem{n:Nat}{tb:Nat→Nat}{j:Nat}(hj:j<n):(((j+1:Nat):Int),pv (tb j),j)∈al n tb:=List.mem_map.2 ⟨j,List.mem_range.2 hj,rfl⟩
theorem al_get{n:Nat}{tb:Nat→Nat}{j:Nat}(hj:j<n):mget (al n tb) ((j+1:Nat):Int)=some (pv (tb j)):=(al_wf n tb).get (al_mem hj)
theorem al_none{n:Nat}{tb:Nat→Nat}{k:Int}(hk:¬ ∃ j:Nat,j<n∧k=((j+1:Nat):Int)):mget (al n tb) k=none:=by
 refine mget_none.2 fun h=>hk ?_
 obtain⟨e,he,rfl⟩:=List.mem_map.1 h
 obtain⟨j,hj,rfl⟩:=List.mem_map.1 he
 exact⟨j,List.mem_range.1 hj,rfl⟩
theorem al_put(n:Nat)(tb:Nat→Nat)(x:Nat):mputL (al n tb) ((n+1:Nat):Int) (pv x) n=al (n+1) (fun j=>if j=n then x else tb j)∧mputC (al n tb) ((n+1:Nat):Int) n=n+1:=by
 have hno:mhas (al n tb) ((n+1:Nat):Int)=false:=by
  unfold mhas
  rw[al_none]
  ·rfl
  ·rintro⟨j,hj,h⟩;omega
 refine⟨?_,by unfold mputC;rw[hno];rfl⟩
 unfold mputL
 rw[hno]
 simp only[Bool.false_eq_true,if_false]
 unfold al
 rw[List.range_succ,List.map_append]
 congr 1
 ·refine List.map_congr_left fun j hj=>?_
  have:=List.mem_range.1 hj
  show _=(((j+1:Nat):Int),pv (if j=n then x else tb j),j)
  rw[if_neg (by omega)]
 ·simp
def TxS.none_:TxS:=⟨0,0,0,0,[]⟩
def MgrD.at_(D:MgrD)(q:Nat):TxS:=D.txs.getD (q-1) TxS.none_
def MgrD.set(D:MgrD)(j:Nat)(t:TxS):MgrD:={ D with txs:=D.txs.set j t }
def waitT(D:MgrD):List TxD:=D.queue.map fun q=>((D.at_ q).time,(D.at_ q).P)
def QOk(D:MgrD):Prop:=∀ q∈D.queue,1≤q∧q≤D.txs.length
def liveK(txs:List TxS)(k:Int):Prop:=∃ (j:Nat) (t:TxS),txs[j]? = some t∧t.live∧k=((j+1:Nat):Int)
theorem MgrD.at_get{D:MgrD}{j:Nat}{t:TxS}(h:D.txs[j]? = some t):D.at_ (j+1)=t:=by simp[MgrD.at_,h]
def sMgr:Kd→Prop
 | .one n=>n=3∨n=4∨n=5∨n=6∨n=7∨n=9∨n=10
 | .tx _ _=>True
 | _=>False
section
variable{G:Gh}{h:Hp}{M mb:Nat}{V:Prop}{D:MgrD}{em bk am:Nat}{q:Sl}{tb:Nat→Nat}
theorem MgrIn.to{S:Kd→Prop}{G':Gh}{h':Hp}{M':Nat}(x:MgrIn G h M mb V D em bk am q tb)(y:To S G h G' h')(hM:M≤M')(hS:∀ k,sMgr k →¬ S k):MgrIn G' h' M' mb V D em bk am q tb:=
 ⟨y.kd x.kd (by simp),y.rowK x.row x.kd (hS (.one 3) (.inl rfl)),x.ext.to y hM id (hS (.one 4) (.inr (.inl rfl))) (hS (.one 5) (.inr (.inr (.inl rfl)))),x.book.to y (hS (.one 6) (by simp[sMgr])) (hS (.one 7) (by simp[sMgr])),y.kd x.kam (by simp),y.blk x.all (by rw[x.kam];exact hS (.one 9) (by simp[sMgr])),x.que.to y (hS (.one 10) (by simp[sMgr])),fun j t ht=>(x.tx j t ht).to y hM fun n=>hS (.tx n j) trivial⟩
theorem MgrIn.pure{G':Gh}{h':Hp}(x:MgrIn G h M mb V D em bk am q tb)(y:To (fun _=>False) G h G' h'):MgrIn G' h' M mb V D em bk am q tb:=x.to y (Nat.le_refl _) fun _ _ h=>h
theorem MgrIn.ext'{h':Hp}(t:HT G h)(x:MgrIn G h M mb V D em bk am q tb)(e:Ext h h'):MgrIn G h' M mb V D em bk am q tb:=x.pure (e.to t)
theorem mGone_spec(x:MgrIn G h M mb V D em bk am q tb):HC Tryz.prog 82 #[pv mb] h fun r h'=>r=.bool false∧h'=h:=by
 apply wc82
 unfold vc82
 exact .ff ⟨_,rfl,_,x.row.get0 rfl,rfl,rfl⟩
theorem mOpen_spec(x:MgrIn G h M mb V D em bk am q tb)(hd:Int):HC Tryz.prog 236 #[pv mb,.int .i64 hd] h fun r h'=>h'=h∧(((¬ ∃ (j:Nat) (t:TxS),D.txs[j]? = some t∧t.state=1∧hd=((j+1:Nat):Int))∧r=.pointer none) ∨∃ (j:Nat) (t:TxS),D.txs[j]? = some t∧t.state=1∧hd=((j+1:Nat):Int)∧r=pv (tb j)):=by
 apply wc236
 unfold vc236
 refine(mGone_spec x).mono ?_
 rintro _ _ ⟨rfl,rfl⟩
 refine⟨_,rfl,.ff ⟨_,rfl,_,x.row.get rfl,al D.txs.length tb,D.txs.length,x.all,?_⟩⟩
 by_cases hk:∃ j:Nat,j<D.txs.length∧hd=((j+1:Nat):Int)
 ·obtain⟨j,hj,rfl⟩:=hk
  have hg:=al_get (tb:=tb) hj
  have ht:D.txs[j]? = some D.txs[j]:=List.getElem?_eq_getElem hj
  obtain⟨bb,vb,rw',_⟩:=(x.tx j _ ht).row
  refine⟨_,by rw[hg];rfl,IfB.no (by unfold mhas;rw[hg];rfl) ⟨_,rfl,_,rw'.get0 rfl,IfB.ne (fun hne=>⟨rfl,.inl ⟨?_,rfl⟩⟩) (fun he=>⟨rfl,.inr ⟨j,_,ht,by omega,rfl,rfl⟩⟩)⟩⟩
  rintro⟨j',t',h1,h2,h3⟩
  obtain rfl:j=j':=by omega
  rw[ht]at h1;cases h1
  apply hne;rw[h2];rfl
 ·have hg:=al_none (tb:=tb) hk
  refine⟨none,by rw[hg];rfl,IfB.yes (by unfold mhas;rw[hg];rfl) ⟨rfl,.inl ⟨?_,rfl⟩⟩⟩
  rintro⟨j',t',h1,h2,h3⟩
  exact hk ⟨j',(List.getElem?_eq_some_iff.1 h1).1,h3⟩
def StabK(lo:Nat)(G:Gh)(h:Hp)(b:Nat):Prop:=Stab G h b∧(lo≤b∨G.k b ≠ .any)
theorem SlB.stabK{G:Gh}{h:Hp}(t:HT G h){s:Sl}{l:List UInt8}(x:SlB G s l)(lo:Nat):∀ a,s.base=some a→s.len≠0→StabK lo G h a.block:=by
 intro a ha hn
 refine⟨x.stab t a ha hn,.inr ?_⟩
 obtain⟨h1,h2,rfl | ⟨b,o,all,h3,h4,h5⟩⟩:=x
 ·exact absurd (by simpa using h1) hn
 ·rw[h3]at ha;cases ha
  show G.k b≠_
  rw[h4];simp
theorem SlP.putsK{G:Gh}{h:Hp}(t:HT G h){s:Sl}{P:List PutD}(x:SlP G s P)(lo:Nat):PutsR (StabK lo G h) h s P:=by
 obtain⟨h1,h2,rfl | ⟨b,L,h3,h4,rfl⟩⟩:=x
 ·exact⟨[],rfl,⟨by simp[h1,c2],h2,RdC.nil _ _⟩,fun a ha hn=>absurd (by simpa using h1) hn,fun x hx=>by simp at hx⟩
 ·obtain⟨⟨c,e,g1,g2⟩,g3⟩:=t.puts b L h4
  rw[List.length_map]at h1
  refine⟨L,rfl,⟨by rw[c2_length,List.length_map,h1],h2,fun i v hv=>⟨_,h3,?_⟩⟩,fun a ha _=>?_,fun x hx=>⟨(g3 x hx).rd t,(g3 x hx).stabK t lo⟩⟩
  ·rw[add_none,hcell_blk g1,Nat.zero_add]
   rw[← g2,List.getElem?_take]at hv
   split at hv
   ·simpa using hv
   ·cases hv
  ·rw[h3]at ha;cases ha
   exact⟨⟨t.dom b (by rw[h4];simp),by show ¬ Mut (G.k b);rw[h4];exact id⟩,.inr (by show G.k b≠_;rw[h4];simp)⟩
theorem TxsR.toK{S:Kd→Prop}{lo:Nat}{A B:Gh}{a b:Hp}(x:To S A a B b){s:Sl}{T:List TxD}(p:TxsR (StabK lo A a) a s T):TxsR (StabK lo B b) b s T:=
 (p.eq fun k hk=>(x.stab hk.1).1).mono fun k hk=>⟨(x.stab hk.1).2,hk.2.imp id fun h=>by rw[x.old k hk.1.1];exact h⟩
theorem TxsR.stab{lo:Nat}{A:Gh}{a:Hp}{s:Sl}{T:List TxD}(p:TxsR (StabK lo A a) a s T):TxsR (Stab A a) a s T:=p.mono fun _ h=>h.1
theorem mWaiting_spec(t:HT G h)(x:MgrIn G h M mb V D em bk am q tb)(hq:QOk D)(hl:D.queue.length≤1000000):HC Tryz.prog 109 #[pv mb] h fun r h'=>
 ∃ (s:Sl) (G':Gh),r=.slice s.base s.len s.cap∧To (fun _=>False) G h G' h'∧G'.W=G.W∧TxsR (StabK h.size G' h') h' s (waitT D)∧s.len=D.queue.length∧s.len≤s.cap:=by
 apply wc109
 unfold vc109
 refine⟨_,rfl,_,x.row.get rfl,?_⟩
 have hql:q.len=D.queue.length:=by have:=x.que.own.len;simpa using this.symm
 refine⟨fun out i m h'=>∃ (j:Nat) (G':Gh) (L:List ((Int × Sl) × List PutD)),i=j∧m+j=D.queue.length∧To (fun _=>False) G h G' h'∧OwnN h.size 2 G' h' out (c2 (L.map (·.1)))∧(∀ z∈L,SlP G' z.1.2 z.2)∧L.map (fun z=>(z.1.1,z.2))=(waitT D).take j∧G'.W=G.W,
  D.queue.length,⟨0,G,[],rfl,rfl,.refl t,OwnN.nil _ _ _ _,fun z hz=>by simp at hz,rfl,rfl⟩,?_⟩
 rintro _ out _ m h1 ⟨j,G1,L,rfl,hm,y1,o1,ok1,hL,hW⟩
 have hwl:(waitT D).length=D.queue.length:=by simp[waitT]
 have hLl:L.length=j:=by have:=congrArg List.length hL;rw[List.length_map,List.length_take]at this;omega
 have hol:=o1.own.len
 rw[c2_length,List.length_map]at hol
 refine IfB.dec (fun hlt=>?_) (fun hge=>?_)
 ·have hj:j<D.queue.length:=by omega
  have e1:=y1.toExt
  have x1:=x.pure y1
  obtain⟨hq1,hq2⟩:=hq _ (List.getElem_mem hj)
  have hqj:D.queue[j] - 1<D.txs.length:=by omega
  have hg:=al_get (tb:=tb) hqj
  rw[show D.queue[j] - 1+1=D.queue[j] by omega]at hg
  have htx:D.txs[D.queue[j] - 1]? = some (D.at_ D.queue[j]):=by unfold MgrD.at_;rw[List.getD_eq_getElem?_getD,List.getElem?_eq_getElem hqj];rfl
  obtain⟨bb,vb,rw',xb,_⟩:=(x1.tx _ _ htx).row
  refine ix1 (x1.que.own.rd) (by simpa using hql.symm) j rfl (by simpa using hj) fun a _ hc=>⟨(D.queue[j]:Int),by simpa using hc,_,rfl,_,x1.row.get rfl,al D.txs.length tb,D.txs.length,x1.all,_,by rw[hg];rfl,_,rfl,_,rw'.get rfl,_,rfl,_,rw'.get rfl,?_⟩
  refine(bPuts_spec y1.ht xb).mono ?_
  rintro _ h2 ⟨u,G2,rfl,y2,p2,W2⟩
  refine⟨u,rfl,y2.toExt,?_⟩
  intro h3
  refine⟨y2.toExt.trans (alc_ext _ _ _),?_⟩
  refine OwnN.push (l:=c2 (L.map (·.1))) (y1.trans y2) rfl (o1.to y2) rfl (by simp[cellOk]) (by omega) (by omega) fun r' h5 y5 o5 l5 _ _=>⟨m-1,by omega,j+1,G2,L ++ [(((D.at_ D.queue[j]).time,u),(D.at_ D.queue[j]).P)],by rw[iAdd64 (by omega)];push_cast;rfl,by omega,y5,?_,?_,?_,W2.trans hW⟩
  ·rw[List.map_append,c2_append];exact o5
  ·intro z hz
   rcases List.mem_append.1 hz with hz | hz
   ·exact(ok1 z hz).mono y2.le
   ·simp only[List.mem_cons,List.not_mem_nil,or_false]at hz;subst hz;exact p2
  ·rw[List.map_append,hL,List.take_succ_eq_append_getElem (by omega)]
   simp[waitT]
 ·obtain rfl:j=D.queue.length:=by omega
  refine⟨out,G1,rfl,y1,hW,⟨L,by rw[hL,← hwl,List.take_length],o1.own.toRd,fun a ha _=>⟨⟨(o1.own.lt ha).2,by rw[o1.any a ha];exact id⟩,.inl (o1.own.lt ha).1⟩,fun z hz=>(ok1 z hz).putsK y1.ht h.size⟩,by omega,o1.own.le⟩
def sEnd(j:Nat):Kd→Prop
 | .one n=>n=6∨n=7
 | .tx n i=>n=1∧i=j
 | _=>False
def sT1(j:Nat):Kd→Prop
 | .tx n i=>n=1∧i=j
 | _=>False
theorem sT1_end{j:Nat}:∀ k,sT1 j k→sEnd j k
 | .tx _ _,h=>h
theorem sBook_end{j:Nat}:∀ k,sBook k→sEnd j k
 | .one _,h=>h
def endT(t:TxS)(st:Nat)(code:Int):TxS:={ t with state:=st,code:=code,time:=if st=4 then 0 else t.time }
theorem liveK_set{txs:List TxS}{j:Nat}{t t':TxS}(ht:txs[j]? = some t)(hn:¬ t'.live)(k:Int):(liveK txs k∧k≠((j+1:Nat):Int))↔liveK (txs.set j t') k:=by
 have hj:=(List.getElem?_eq_some_iff.1 ht).1
 constructor
 ·rintro⟨⟨i,u,h1,h2,rfl⟩,h3⟩
  refine⟨i,u,?_,h2,rfl⟩
  rw[List.getElem?_set_ne (by omega)];exact h1
 ·rintro⟨i,u,h1,h2,rfl⟩
  by_cases e:i=j
  ·subst e
   rw[List.getElem?_set_self hj]at h1
   cases h1
   exact absurd h2 hn
  ·rw[List.getElem?_set_ne (by omega)]at h1
   exact⟨⟨i,u,h1,h2,rfl⟩,by omega⟩
theorem mEnd_spec(t:HT G h)(x:MgrIn G h M mb V D em bk am q tb){j:Nat}{tx:TxS}(htx:D.txs[j]? = some tx)(hl:tx.live){st:Nat}(hst:st=3∨st=4)(code:Int):HC Tryz.prog 115 #[pv mb,.int .i64 ((j+1:Nat):Int),.int .i64 (st:Int),.int .i64 code] h fun r h'=>
 ∃ G':Gh,r=.tuple #[]∧To (sEnd j) G h G' h'∧G'.W=G.W∧MgrIn G' h' M mb V (D.set j (endT tx st code)) em bk am q tb:=by
 apply wc115
 unfold vc115
 have hj:=(List.getElem?_eq_some_iff.1 htx).1
 have hg:=al_get (tb:=tb) hj
 have X:=x.tx j tx htx
 obtain⟨bb,vb,rw',xb,xv⟩:=X.row
 obtain⟨st1,r1,os1,sz1⟩:=rw'.set0 (by simp) (.int .i64 (st:Int))
 refine⟨_,rfl,_,x.row.get rfl,al D.txs.length tb,D.txs.length,x.all,_,by rw[hg];rfl,_,rfl,st1,?_⟩
 have kt:G.k (tb j)=.tx 1 j:=X.kd
 have y1:To (sT1 j) G h G (hset h ⟨tb j,0,none⟩ (.int .i64 (st:Int))):=t.toOther (b:=tb j) (by rw[kt];exact⟨trivial,rfl,rfl⟩) (by rw[kt];exact id) (by rw[sz1];exact Nat.le_refl _) fun k _ hk=>os1 k hk
 generalize hset h ⟨tb j,0,none⟩ (.int .i64 (st:Int))=h1 at *
 simp only[List.set_cons_zero]at r1
 obtain⟨st2,r2,os2,sz2⟩:=r1.set (i:=2) (by simp) (.int .i64 code)
 have y2:To (sT1 j) G h1 G (hset h1 ((⟨tb j,0,none⟩:Addr).add 2) (.int .i64 code)):=y1.ht.toOther (b:=tb j) (by rw[kt];exact⟨trivial,rfl,rfl⟩) (by rw[kt];exact id) (by rw[sz2];exact Nat.le_refl _) fun k _ hk=>os2 k hk
 refine⟨_,rfl,st2,?_⟩
 generalize hset h1 ((⟨tb j,0,none⟩:Addr).add 2) (.int .i64 code)=h2 at *
 simp only[List.set_cons_zero,List.set_cons_succ]at r2
 have fin:∀ (h3:Hp) (tm:Int),To (sT1 j) G h G h3→Row h3 (tb j) [.int .i64 (st:Int),.int .i64 tm,.int .i64 code,.int .i64 tx.at_,pv bb,pv vb]→tm=(if st=4 then 0 else tx.time) →
  ∃ a4:Addr,(some ⟨mb,0,none⟩:Option Addr)=some a4∧∃ c2:Option Addr,hY h3 (a4.add 1)=some (.pointer c2)∧HC Tryz.prog 169 #[.pointer c2,.int .i64 ((j+1:Nat):Int)] h3 fun r vh4=>∃ c3:Int,r=.int .i64 c3∧∃ G':Gh,Value.tuple #[]=.tuple #[]∧To (sEnd j) G h G' vh4∧G'.W=G.W∧MgrIn G' vh4 M mb V (D.set j (endT tx st code)) em bk am q tb:=by
  intro h3 tm y3 r3 htm
  have rm3:=y3.rowK x.row x.kd (by simp[sT1])
  have xk3:=x.book.to y3 (S:=sT1 j) (by simp[sT1]) (by simp[sT1])
  refine⟨_,rfl,_,rm3.get rfl,(kClose_spec y3.ht xk3 ⟨j,tx,htx,hl,rfl⟩).mono ?_⟩
  rintro _ h4 ⟨G4,c,rfl,y4,W4,xk4⟩
  have n6:∀ n i,¬ sBook (.tx n i):=fun n i hh=>hh
  have ebt:BookAt G4 h4 bk (D.set j (endT tx st code)).txs.length (fun k=>∃ (j_1:Nat) (t:TxS),(D.set j (endT tx st code)).txs[j_1]? = some t∧t.live∧k=((j_1+1:Nat):Int)):=by
   have hnl:¬ (endT tx st code).live:=by
    unfold TxS.live endT
    rcases hst with rfl | rfl <;> simp
   have:=xk4.eq (fun k=>liveK_set htx hnl k)
   have hlen:(D.set j (endT tx st code)).txs.length=D.txs.length:=by simp[MgrD.set]
   rw[hlen]
   exact this
  have y34:To (sEnd j) G h G4 h4:=(y3.mono sT1_end).trans (y4.mono sBook_end)
  refine⟨c,rfl,G4,rfl,y34,W4,⟨y34.kd x.kd (by simp),y34.rowK x.row x.kd (by simp[sEnd]),x.ext.to y34 (Nat.le_refl _) id (by simp[sEnd]) (by simp[sEnd]),ebt,y34.kd x.kam (by simp),?_,x.que.to y34 (by simp[sEnd]),fun i u hu=>?_⟩⟩
  ·have:=y34.blk x.all (by rw[x.kam];simp[sEnd])
   simpa [MgrD.set] using this
  ·by_cases e:i=j
   ·subst e
    have hu:(D.txs.set i (endT tx st code))[i]? = some u:=hu
    rw[List.getElem?_set_self hj]at hu
    cases hu
    refine⟨y34.kd kt (by simp),bb,vb,?_,xb.to y34 (by simp[sEnd]) (by simp[sEnd]),xv.to y34 (Nat.le_refl _) (by simp[sEnd]) (by simp[sEnd])⟩
    have:=y4.rowK r3 (kd := .tx 1 i) kt (n6 1 i)
    rw[htm]at this
    exact this
   ·have hu:(D.txs.set j (endT tx st code))[i]? = some u:=hu
    rw[List.getElem?_set_ne (Ne.symm e)]at hu
    exact(x.tx i u hu).to y34 (Nat.le_refl _) fun n hh=>e hh.2
 rcases hst with rfl | rfl
 ·exact IfB.no rfl (fin h2 _ (y1.trans y2) r2 rfl)
 ·obtain⟨st3,r3,os3,sz3⟩:=r2.set (i:=1) (by simp) (.int .i64 0)
  have y3:To (sT1 j) G h2 G (hset h2 ((⟨tb j,0,none⟩:Addr).add 1) (.int .i64 0)):=y2.ht.toOther (b:=tb j) (by rw[kt];exact⟨trivial,rfl,rfl⟩) (by rw[kt];exact id) (by rw[sz3];exact Nat.le_refl _) fun k _ hk=>os3 k hk
  exact IfB.yes rfl ⟨_,rfl,st3,fin _ 0 ((y1.trans y2).trans y3) r3 rfl⟩
end
theorem OwnK.push{k:Kd}(hm:Mut k)(hk:¬ Told k){e ty sz by_:Nat}{zc:Array Value}{G:Gh}{h:Hp}{s:Sl}{l news:List Value}{K:Sl→Hp→Prop}(t:HT G h)(hz:zc.size=sz)(o:OwnK k sz G h s l)(hn:news.length=sz)(hok:∀ v∈news,cellOk v=true)
 (hb:(s.len+1)*by_≤140737488355328) (hl:s.len+1<9223372036854775807)
 (hK:∀ r h' G',To (fun q=>q=k) G h G' h'→OwnK k sz G' h' r (l++news)→r.len=s.len+1→G'.W=G.W→K r h'):AppC e sz by_ zc s (Sl.mk (some (nw h)) 1 1) (alc h news ty) K:=by
 have e1:=alc_ext h news ty
 have s1:(alc h news ty).size=h.size+1:=size_alc _ _ _
 have hne:k ≠ .any:=fun e=>by subst e;exact hm
 refine AppC_own5 (news:=news) hz (o.own.ext e1) (Nat.zero_le _) (by simp[hn]) (RdC.alc h news ty) hok hb hl fun r h' o' l' k' x' b'=>?_
 have hsz:=k'.size
 have fr:∀ b,b<h.size→(∀ a,s.base=some a→b≠a.block)→h'[b]? = h[b]?:=fun b hb hne=>by rw[x' b (by omega) hne,alc_old _ _ _ hb]
 have y:To (fun q=>q=k) G h G h':=by
  refine⟨.refl G,fun _ _=>rfl,by omega,fun b hb hn=>fr b hb fun a ha e=>hn ?_,t.keep (by omega) fun b hb=>fr b (t.dom b (by intro e;rw[e]at hb;exact hb)) fun a ha e=>?_⟩
  ·rw[e,o.kd a ha];exact⟨hm,rfl⟩
  ·rw[e,o.kd a ha]at hb;exact hk hb
 by_cases hrb:∃ a,r.base=some a∧h.size≤a.block
 ·obtain⟨a,ha,hge⟩:=hrb
  have hany:G.k a.block=.any:=t.fresh hge
  have hlt:=(o'.lt ha).2
  have t':=y.ht.setOne hany hlt hk
  refine hK r h' (G.set a.block k (G.n a.block)) (y.give (Gh.set_le hany (Nat.le_refl _)) t' (s:=r) (fun a' ha'=>by rw[ha]at ha';cases ha';exact hge) fun b hb=>Gh.set_ne (hb a ha)) ⟨o',fun a' ha'=>?_⟩ l' rfl
  rw[ha]at ha';cases ha';exact Gh.set_k
 ·refine hK r h' G y ⟨o',fun a ha=>?_⟩ l' rfl
  rcases b' a ha with h1 | h1
  ·exact o.kd a h1
  ·exact absurd ⟨a,ha,by omega⟩ hrb
section
variable{G:Gh}{h:Hp}{M mb:Nat}{V:Prop}{D:MgrD}{em bk am:Nat}{q:Sl}{tb:Nat→Nat}
theorem mMay_spec(t:HT G h)(x:MgrIn G h M mb V D em bk am q tb)(hM:M≤1000000)(hq:QOk D)(hl:D.queue.length≤1000000)(hp:∀ (j:Nat) (t:TxS),D.txs[j]? = some t→t.P.length≤1000000){j:Nat}{tx:TxS}(htx:D.txs[j]? = some tx) :
 HC Tryz.prog 291 #[pv mb,pv (tb j)] h fun r h'=>∃ (G':Gh) (c:Int),r=.int .i64 c∧To (fun _=>False) G h G' h'∧G'.W=G.W∧(c=0→D.given<1099511627776)∧(D.read=false∧NoVers h em∧D.queue = []∧D.given<1099511627776→c=0):=by
 apply wc291
 unfold vc291
 obtain⟨bb,vb,rw',xb,xv⟩:=(x.tx j tx htx).row
 have e0:Ext h h := .refl h
 refine⟨_,rfl,_,x.row.get rfl,IfB.intro (fun hr=>⟨G,10,rfl,.refl t,rfl,fun h=>(by cases h),fun hh=>by rw[hh.1]at hr;cases hr⟩) fun _=>⟨_,rfl,_,x.row.get0 rfl,_,rfl,_,rw'.get rfl,_,rfl,_,rw'.get rfl,_,rfl,_,rw'.get rfl,?_⟩⟩
 refine(mWaiting_spec t x hq hl).mono ?_
 rintro _ h1 ⟨s,G1,rfl,y1,W1,T1,l1,c1⟩
 refine⟨s,rfl,y1.toExt,(vSet_spec y1.ht (xv.to y1 (Nat.le_refl _) id id)).mono ?_⟩
 rintro _ h2 ⟨b2,G2,rfl,y2,s2,W2⟩
 have y12:=y1.trans y2
 refine⟨_,rfl,y12.toExt,(bSet_spec y2.ht (xb.to y12 id id)).mono ?_⟩
 rintro _ h3 ⟨b3,G3,rfl,y3,s3,W3⟩
 have y13:=y12.trans y3
 have hb:=xb.len
 have x3:=x.pure y13
 refine⟨_,rfl,y13.toExt,(check_spec y3.ht x3.ext hM (s2.to y3 (by simp) id) s3 (by omega) (by omega) tx.at_ ((T1.stab.to y2).to y3) (by simp[waitT];omega) fun i=>?_).mono ?_⟩
 ·by_cases hi:i<(waitT D).length
  ·have hiq:i<D.queue.length:=by simpa [waitT] using hi
   rw[← pt_get hi]
   simp only[waitT,List.getElem_map]
   unfold MgrD.at_
   rw[List.getD_eq_getElem?_getD]
   cases hg:D.txs[D.queue[i] - 1]? with
   | none=>simp[TxS.none_]
   | some u=>exact hp _ u hg
  ·simp[pt,List.getElem?_eq_none (show(waitT D).length≤i by omega)]
 ·rintro _ h4 ⟨e4,c,rfl,hc,hno⟩
  have y14:To (fun _=>False) G h G3 h4:=y13.ext e4
  have W':G3.W=G.W:=W3.trans (W2.trans W1)
  refine⟨c,rfl,y13.toExt.trans e4,IfB.ne (fun hne=>⟨G3,c,rfl,y14,W',fun h=>absurd h hne,fun hh=>hno ⟨hh.2.1.ext x.ext y13.toExt,by simp[waitT,hh.2.2.1]⟩⟩) fun he=>⟨_,rfl,_,(x.row.ext y14.toExt).get rfl,IfB.dec (fun hge=>⟨G3,11,rfl,y14,W',fun h=>(by cases h),fun hh=>by omega⟩) fun hlt=>⟨G3,0,rfl,y14,W',fun _=>by omega,fun _=>rfl⟩⟩⟩
def CommitR(D:MgrD)(hd:Int)(D':MgrD)(c:Int):Prop:=
 ((¬ ∃ (j:Nat) (t:TxS),D.txs[j]? = some t∧t.state=1∧hd=((j+1:Nat):Int))∧D'=D∧c=5) ∨
 ∃ (j:Nat) (t:TxS),D.txs[j]? = some t∧t.state=1∧hd=((j+1:Nat):Int)∧
   ((t.P = []∧c=0∧D'=D.set j { t with state:=3,time:=t.at_,code:=0 }) ∨
    (t.P ≠ []∧c≠0∧D'=D.set j { t with state:=4,time:=0,code:=c }) ∨
    (t.P ≠ []∧c=0∧D.given<1099511627776∧D' = { D with txs:=D.txs.set j { t with state:=2,time:=D.given+1 },queue:=D.queue ++ [j+1],given:=D.given+1 }))
def sCommit(j:Nat):Kd→Prop
 | .one n=>n=3∨n=6∨n=7∨n=10
 | .tx n i=>n=1∧i=j
 | _=>False
theorem sEnd_commit{j:Nat}:∀ k,sEnd j k→sCommit j k
 | .one _,h=>by rcases h with h | h <;> simp[sCommit,h]
 | .tx _ _,h=>h
theorem sT1_commit{j:Nat}:∀ k,sT1 j k→sCommit j k
 | .tx _ _,h=>h
theorem liveK_same{txs:List TxS}{j:Nat}{t t':TxS}(ht:txs[j]? = some t)(hl:t.live)(hl':t'.live)(k:Int):liveK txs k↔liveK (txs.set j t') k:=by
 have hj:=(List.getElem?_eq_some_iff.1 ht).1
 constructor
 ·rintro⟨i,u,h1,h2,rfl⟩
  by_cases e:i=j
  ·subst e;exact⟨i,t',List.getElem?_set_self hj,hl',rfl⟩
  ·exact⟨i,u,by rw[List.getElem?_set_ne (by omega)];exact h1,h2,rfl⟩
 ·rintro⟨i,u,h1,h2,rfl⟩
  by_cases e:i=j
  ·subst e;exact⟨i,t,ht,hl,rfl⟩
  ·rw[List.getElem?_set_ne (by omega)]at h1
   exact⟨i,u,h1,h2,rfl⟩
theorem MgrD.set_set(D:MgrD)(j:Nat)(t t':TxS):(D.set j t).set j t'=D.set j t':=by simp[MgrD.set]
theorem MgrD.set_get{D:MgrD}{j:Nat}{t:TxS}(h:D.txs[j]? = some t)(t':TxS):(D.set j t').txs[j]? = some t':=List.getElem?_set_self (List.getElem?_eq_some_iff.1 h).1
theorem MgrIn.txRow{G':Gh}{h':Hp}(x:MgrIn G h M mb V D em bk am q tb){j:Nat}{tx t':TxS}(htx:D.txs[j]? = some tx)(hl:tx.live)(hl':t'.live)(hP:t'.P=tx.P)(ha:t'.at_=tx.at_)(y:To (sT1 j) G h G' h')
 (hr:∀ bb vb,Row h (tb j) [.int .i64 (tx.state:Int),.int .i64 tx.time,.int .i64 tx.code,.int .i64 tx.at_,pv bb,pv vb]→Row h' (tb j) [.int .i64 (t'.state:Int),.int .i64 t'.time,.int .i64 t'.code,.int .i64 t'.at_,pv bb,pv vb]):MgrIn G' h' M mb V (D.set j t') em bk am q tb:=by
 have hj:=(List.getElem?_eq_some_iff.1 htx).1
 refine⟨y.kd x.kd (by simp),y.rowK x.row x.kd (by simp[sT1]),x.ext.to y (Nat.le_refl _) id (by simp[sT1]) (by simp[sT1]),?_,y.kd x.kam (by simp),?_,x.que.to y (by simp[sT1]),fun i u hu=>?_⟩
 ·have:=(x.book.to y (S:=sT1 j) (by simp[sT1]) (by simp[sT1])).eq (fun k=>liveK_same htx hl hl' k)
  have hlen:(D.set j t').txs.length=D.txs.length:=by simp[MgrD.set]
  rw[hlen]
  exact this
 ·have:=y.blk x.all (by rw[x.kam];simp[sT1])
  simpa [MgrD.set] using this
 ·by_cases e:i=j
  ·subst e
   have hu:(D.txs.set i t')[i]? = some u:=hu
   rw[List.getElem?_set_self hj]at hu
   cases hu
   obtain⟨bb,vb,rw',xb,xv⟩:=(x.tx i tx htx).row
   exact⟨y.kd (x.tx i tx htx).kd (by simp),bb,vb,hr bb vb rw',by rw[hP];exact xb.to y (by simp[sT1]) (by simp[sT1]),by rw[ha];exact xv.to y (Nat.le_refl _) (by simp[sT1]) (by simp[sT1])⟩
  ·have hu:(D.txs.set j t')[i]? = some u:=hu
   rw[List.getElem?_set_ne (Ne.symm e)]at hu
   exact(x.tx i u hu).to y (Nat.le_refl _) fun n hh=>e hh.2
theorem mCommit_spec(t:HT G h)(x:MgrIn G h M mb V D em bk am q tb)(hM:M≤1000000)(hq:QOk D)(hl:D.queue.length≤1000000)(hp:∀ (j:Nat) (t:TxS),D.txs[j]? = some t→t.P.length≤1000000)(hg:0≤D.given)(hd:Int) :
 HC Tryz.prog 240 #[pv mb,.int .i64 hd] h fun r h'=>∃ (G':Gh) (c:Int) (D':MgrD) (q':Sl) (j:Nat),r=.int .i64 c∧To (sCommit j) G h G' h'∧G'.W=G.W∧MgrIn G' h' M mb V D' em bk am q' tb∧CommitR D hd D' c∧
  (∀ (j:Nat) (t:TxS),D.txs[j]? = some t→t.state=1→hd=((j+1:Nat):Int)→t.P ≠ []→D.read=false→NoVers h em→D.queue = []→D.given<1099511627776→c=0):=by
 apply wc240
 unfold vc240
 refine(mOpen_spec x hd).mono ?_
 rintro _ _ ⟨rfl,⟨hno,rfl⟩ | ⟨j,tx,htx,hs,rfl,rfl⟩⟩
 ·refine⟨_,rfl,IfB.yes rfl ⟨G,5,D,q,0,rfl,.refl t,rfl,x,.inl ⟨hno,rfl,rfl⟩,fun j t h1 h2 h3=>absurd ⟨j,t,h1,h2,h3⟩ hno⟩⟩
 rename_i h
 have live1:tx.live := .inl hs
 obtain⟨bb,vb,rw',xb,xv⟩:=(x.tx j tx htx).row
 have kt:G.k (tb j)=.tx 1 j:=(x.tx j tx htx).kd
 refine⟨_,rfl,.ff ⟨_,rfl,_,rw'.get rfl,(bLen_spec t xb).mono ?_⟩⟩
 rintro _ h2 ⟨rfl,e2⟩
 have t2:=t.ext e2
 have x2:=x.ext' t e2
 have rw2:=rw'.ext e2
 have u1:∀ (j':Nat) (t':TxS),D.txs[j']? = some t'→((j+1:Nat):Int)=((j'+1:Nat):Int)→t'=tx:=fun j' t' h1 h2=>by
  obtain rfl:j=j':=by omega
  rw[htx]at h1;exact(Option.some.inj h1).symm
 refine⟨_,rfl,IfB.eq (fun h0=>?_) fun hne=>?_⟩
 ·have hP:tx.P = []:=List.eq_nil_of_length_eq_zero (by omega)
  obtain⟨st,r3,os,sz⟩:=rw2.set (i:=1) (by simp) (.int .i64 tx.at_)
  refine⟨_,rfl,_,rw2.get rfl,_,rfl,st,?_⟩
  have y3:To (sT1 j) G h2 G (hset h2 ((⟨tb j,0,none⟩:Addr).add 1) (.int .i64 tx.at_)):=t2.toOther (b:=tb j) (by rw[kt];exact⟨trivial,rfl,rfl⟩) (by rw[kt];exact id) (by rw[sz];exact Nat.le_refl _) fun k _ hk=>os k hk
  generalize hset h2 ((⟨tb j,0,none⟩:Addr).add 1) (.int .i64 tx.at_)=h3 at *
  have x3:MgrIn G h3 M mb V (D.set j { tx with time:=tx.at_ }) em bk am q tb:=by
   refine x2.txRow htx live1 (t':={ tx with time:=tx.at_ }) live1 rfl rfl y3 fun bb' vb' r=>?_
   have h1:=r.get (i:=4) rfl;have h2':=rw2.get (i:=4) rfl;rw[h1]at h2'
   have h3':=r.get (i:=5) rfl;have h4:=rw2.get (i:=5) rfl;rw[h3']at h4
   have e1:pv bb'=pv bb:=Option.some.inj h2'
   have e2':pv vb'=pv vb:=Option.some.inj h4
   rw[e1,e2']
   exact r3
  have key:=mEnd_spec y3.ht x3 (MgrD.set_get htx _) (tx:={ tx with time:=tx.at_ }) live1 (.inl rfl:(3:Nat)=3∨3=4) 0
  refine key.mono ?_
  rintro _ h4 ⟨G4,rfl,y4,W4,x4⟩
  rw[MgrD.set_set]at x4
  refine⟨rfl,G4,0,_,q,j,rfl,((e2.to t).trans (y3.mono sT1_commit)).trans (y4.mono sEnd_commit),W4,x4,.inr ⟨j,tx,htx,hs,rfl,.inl ⟨hP,rfl,rfl⟩⟩,fun j' t' h1 _ h3 hne=>absurd (by rw[u1 j' t' h1 h3];exact hP) hne⟩
 ·have hP:tx.P ≠ []:=fun e=>hne (by rw[e];rfl)
  refine(mMay_spec t2 x2 hM hq hl hp htx).mono ?_
  rintro _ h5 ⟨G5,c,rfl,y5,W5,hc0,hcx⟩
  have x5:=x2.pure y5
  have ex:∀ (j_1:Nat) (t:TxS),D.txs[j_1]? = some t→t.state=1→((j+1:Nat):Int)=((j_1+1:Nat):Int)→t.P ≠ []→D.read=false→NoVers h em→D.queue = []→D.given<1099511627776→c=0:=fun _ _ _ _ _ _ h1 h2 h3 h4=>hcx ⟨h1,h2.ext x.ext e2,h3,h4⟩
  refine⟨c,rfl,IfB.ne (fun hcne=>?_) fun hc=>?_⟩
  ·have key:=mEnd_spec y5.ht x5 htx live1 (.inr rfl:(4:Nat)=3∨4=4) c
   refine key.mono ?_
   rintro _ h6 ⟨G6,rfl,y6,W6,x6⟩
   exact⟨rfl,G6,c,_,q,j,rfl,((e2.to t).trans y5.sub).trans (y6.mono sEnd_commit),W6.trans W5,x6,.inr ⟨j,tx,htx,hs,rfl,.inr (.inl ⟨hP,hcne,rfl⟩)⟩,ex⟩
  ·subst hc
   have hgiv:=hc0 rfl
   have t5:=y5.ht
   have kt5:=y5.kd kt (by simp)
   have rw5:=y5.row rw2 id
   have rm5:=x5.row
   have kmb:=x5.kd
   have eg:iAdd .i64 D.given 1=D.given+1:=iAdd64 (by omega)
   obtain⟨s7,r7,o7,z7⟩:=rm5.set (i:=8) (by simp) (.int .i64 (iAdd .i64 D.given 1))
   refine⟨_,rfl,_,rm5.get rfl,_,rfl,s7,?_⟩
   have y7:To (fun k=>k=.one 3) G5 h5 G5 (hset h5 ((⟨mb,0,none⟩:Addr).add 8) (.int .i64 (iAdd .i64 D.given 1))):=t5.toOther (b:=mb) (by rw[kmb];exact⟨trivial,rfl⟩) (by rw[kmb];exact id) (by rw[z7];exact Nat.le_refl _) fun k _ hk=>o7 k hk
   generalize hset h5 ((⟨mb,0,none⟩:Addr).add 8) (.int .i64 (iAdd .i64 D.given 1))=h7 at *
   rw[eg]at r7
   simp only[List.set_cons_zero,List.set_cons_succ]at r7
   have rw7:=y7.rowK rw5 kt5 (by simp)
   refine⟨_,rfl,_,r7.get rfl,_,rfl,?_⟩
   obtain⟨s8,r8,o8,z8⟩:=rw7.set0 (by simp) (.int .i64 (2:Int))
   refine⟨s8,?_⟩
   have y8:To (sT1 j) G5 h7 G5 (hset h7 ⟨tb j,0,none⟩ (.int .i64 (2:Int))):=y7.ht.toOther (b:=tb j) (by rw[kt5];exact⟨trivial,rfl,rfl⟩) (by rw[kt5];exact id) (by rw[z8];exact Nat.le_refl _) fun k _ hk=>o8 k hk
   generalize hset h7 ⟨tb j,0,none⟩ (.int .i64 (2:Int))=h8 at *
   simp only[List.set_cons_zero,List.set_cons_succ]at r8
   obtain⟨s9,r9,o9,z9⟩:=r8.set (i:=1) (by simp) (.int .i64 (D.given+1))
   refine⟨_,rfl,s9,?_⟩
   have y9:To (sT1 j) G5 h8 G5 (hset h8 ((⟨tb j,0,none⟩:Addr).add 1) (.int .i64 (D.given+1))):=y8.ht.toOther (b:=tb j) (by rw[kt5];exact⟨trivial,rfl,rfl⟩) (by rw[kt5];exact id) (by rw[z9];exact Nat.le_refl _) fun k _ hk=>o9 k hk
   generalize hset h8 ((⟨tb j,0,none⟩:Addr).add 1) (.int .i64 (D.given+1))=h9 at *
   simp only[List.set_cons_zero,List.set_cons_succ]at r9
   have y89:=y8.trans y9
   have r7':=y89.rowK r7 kmb (by simp[sT1])
   have q9:=(x5.que.to y7 (by simp)).to y89 (by simp[sT1])
   have hql:q.len=D.queue.length:=by have:=x.que.own.len;simpa using this.symm
   refine⟨_,rfl,q,r7'.get rfl,?_⟩
   refine OwnK.push (k := .one 10) trivial id y89.ht rfl q9 rfl (by simp[cellOk]) (by omega) (by omega) fun r' h11 G11 y11 q11 l11 W11=>?_
   have r11:=y11.rowK r7' kmb (by simp)
   have k11:=y11.kd kmb (by simp)
   obtain⟨s12,r12,o12,z12⟩:=r11.set (i:=3) (by simp) (.slice r'.base r'.len r'.cap)
   refine⟨_,rfl,s12,?_⟩
   have y12:To (fun k=>k=.one 3) G11 h11 G11 (hset h11 ((⟨mb,0,none⟩:Addr).add 3) (.slice r'.base r'.len r'.cap)):=y11.ht.toOther (b:=mb) (by rw[k11];exact⟨trivial,rfl⟩) (by rw[k11];exact id) (by rw[z12];exact Nat.le_refl _) fun k _ hk=>o12 k hk
   generalize hset h11 ((⟨mb,0,none⟩:Addr).add 3) (.slice r'.base r'.len r'.cap)=h12 at *
   simp only[List.set_cons_zero,List.set_cons_succ]at r12
   have m3:∀ k,k=Kd.one 3→sCommit j k:=fun k e=>by subst e;exact .inl rfl
   have m10:∀ k,k=Kd.one 10→sCommit j k:=fun k e=>by subst e;simp[sCommit]
   have yA:To (sCommit j) G5 h5 G11 h12:=(((y7.mono m3).trans (y89.mono sT1_commit)).trans (y11.mono m10)).trans (y12.mono m3)
   have s3:∀ k,k=Kd.one 3∨k=Kd.one 10∨sT1 j k→sCommit j k:=fun k hk=>by
    rcases hk with h | h | h
    ·exact m3 k h
    ·exact m10 k h
    ·exact sT1_commit k h
   have yB:To (fun k=>k=Kd.one 3∨k=Kd.one 10∨sT1 j k) G5 h5 G11 h12:=(((y7.mono fun _=>.inl).trans (y89.mono fun _ h=>.inr (.inr h))).trans (y11.mono fun _ h=>.inr (.inl h))).trans (y12.mono fun _=>.inl)
   have hj:=(List.getElem?_eq_some_iff.1 htx).1
   refine⟨G11,0,{ D with txs:=D.txs.set j { tx with state:=2,time:=D.given+1 },queue:=D.queue ++ [j+1],given:=D.given+1 },r',j,rfl,((e2.to t).trans y5.sub).trans yA,W11.trans W5,?_,.inr ⟨j,tx,htx,hs,rfl,.inr (.inr ⟨hP,rfl,hgiv,rfl⟩)⟩,fun _ _ _ _ _ _ _ _ _ _=>rfl⟩
   refine⟨yB.kd kmb (by simp),r12,x5.ext.to yB (Nat.le_refl _) id (by simp[sT1]) (by simp[sT1]),?_,yB.kd x5.kam (by simp),?_,?_,fun i u hu=>?_⟩
   ·have:=(x5.book.to yB (by simp[sT1]) (by simp[sT1])).eq (fun k=>liveK_same htx live1 (t':={ tx with state:=2,time:=D.given+1 }) (.inr rfl) k)
    simp only[List.length_set]
    exact this
   ·have:=yB.blk x5.all (by rw[x5.kam];simp[sT1])
    simpa using this
   ·have:=q11.to y12 (by simp)
    simpa using this
   ·by_cases e:i=j
    ·subst e
     have hu:(D.txs.set i { tx with state:=2,time:=D.given+1 })[i]? = some u:=hu
     rw[List.getElem?_set_self hj]at hu
     cases hu
     have yD:To (fun k=>k=Kd.one 3∨k=Kd.one 10) G5 h9 G11 h12:=(y11.mono fun _=>.inr).trans (y12.mono fun _=>.inl)
     have xb5:=(xb.to (e2.to t (S:=fun _=>False)) id id).to y5 id id
     have xv5:=(xv.to (e2.to t (S:=fun _=>False)) (Nat.le_refl _) id id).to y5 (Nat.le_refl _) id id
     exact⟨yB.kd kt5 (by simp),bb,vb,yD.rowK r9 kt5 (by simp),xb5.to yB (by simp[sT1]) (by simp[sT1]),xv5.to yB (Nat.le_refl _) (by simp[sT1]) (by simp[sT1])⟩
    ·have hu:(D.txs.set j { tx with state:=2,time:=D.given+1 })[i]? = some u:=hu
     rw[List.getElem?_set_ne (Ne.symm e)]at hu
     exact(x5.tx i u hu).to yB (Nat.le_refl _) fun n hh=>by
      rcases hh with h | h | h
      ·cases h
      ·cases h
      ·exact e h.2
end
theorem bNewT_spec{G:Gh}{h:Hp}(t:HT G h)(i:Nat):HC Tryz.prog 234 #[.int .i64 258,.int .i64 16] h fun r h'=>∃ (b:Nat) (G':Gh),r=.tuple #[pv b,.int .i64 0]∧To (fun _=>False) G h G' h'∧BufAt G' h' i b []∧G'.W=G.W:=by
 refine(bNew_spec h).mono ?_
 rintro _ h1 ⟨e1,b,rfl,hb,r,m⟩
 obtain⟨y1,k1,W1⟩:=t.kindNew e1 (b:=h.size) (Nat.le_refl _) (blk_lt m) (k := .tx 3 i) id
 have kb:(G.set h.size (.tx 3 i) 0).k b=.any:=by rw[Gh.set_ne (by omega)];exact t.fresh (by omega)
 have t3:=y1.ht.setOne kb r.lt (k := .tx 2 i) id
 exact⟨b,(G.set h.size (.tx 3 i) 0).set b (.tx 2 i) ((G.set h.size (.tx 3 i) 0).n b),rfl,y1.give (Gh.set_le kb (Nat.le_refl _)) t3 (s:=⟨some ⟨b,0,none⟩,0,0⟩) (fun a ha=>by cases ha;show h.size≤b;omega) fun c hc=>Gh.set_ne (hc _ rfl),⟨Gh.set_k,PutsOk.nil,by simp,h.size,[],0,r,by rw[Gh.set_ne (by omega)];exact k1,m,MWf.nil 0,DM.nil _⟩,rfl⟩
section
variable{G:Gh}{h:Hp}{M mb:Nat}{V:Prop}{D:MgrD}{em bk am:Nat}{q:Sl}{tb:Nat→Nat}
theorem MgrIn.updTx{S:Kd→Prop}{G':Gh}{h':Hp}{M':Nat}(x:MgrIn G h M mb V D em bk am q tb){j:Nat}{tx t':TxS}(htx:D.txs[j]? = some tx)(hs:t'.state=tx.state)(y:To S G h G' h')(hS:∀ k,sMgr k→S k →∃ n,k=.tx n j)(hM:M≤M')(hT:TxAt G' h' M' em j (tb j) t'):MgrIn G' h' M' mb V (D.set j t') em bk am q tb:=by
 have hj:=(List.getElem?_eq_some_iff.1 htx).1
 have no:∀ n,sMgr (.one n) →¬ S (.one n):=fun n hn hh=>by obtain⟨m,e⟩:=hS _ hn hh;cases e
 refine⟨y.kd x.kd (by simp),y.rowK x.row x.kd (no _ (by simp[sMgr])),x.ext.to y hM id (no _ (by simp[sMgr])) (no _ (by simp[sMgr])),?_,y.kd x.kam (by simp),?_,x.que.to y (no _ (by simp[sMgr])),fun i u hu=>?_⟩
 ·have hk:∀ k,liveK D.txs k↔liveK (D.txs.set j t') k:=by
   intro k
   constructor
   ·rintro⟨i,u,h1,h2,rfl⟩
    by_cases e:i=j
    ·subst e;rw[htx]at h1;cases h1
     exact⟨i,t',List.getElem?_set_self hj,by unfold TxS.live at *;rw[hs];exact h2,rfl⟩
    ·exact⟨i,u,by rw[List.getElem?_set_ne (by omega)];exact h1,h2,rfl⟩
   ·rintro⟨i,u,h1,h2,rfl⟩
    by_cases e:i=j
    ·subst e;rw[List.getElem?_set_self hj]at h1;cases h1
     exact⟨i,tx,htx,by unfold TxS.live at *;rw[← hs];exact h2,rfl⟩
    ·rw[List.getElem?_set_ne (by omega)]at h1
     exact⟨i,u,h1,h2,rfl⟩
  have:=(x.book.to y (no _ (by simp[sMgr])) (no _ (by simp[sMgr]))).eq hk
  have hlen:(D.set j t').txs.length=D.txs.length:=by simp[MgrD.set]
  rw[hlen]
  exact this
 ·have:=y.blk x.all (by rw[x.kam];exact no _ (by simp[sMgr]))
  simpa [MgrD.set] using this
 ·by_cases e:i=j
  ·subst e
   have hu:(D.txs.set i t')[i]? = some u:=hu
   rw[List.getElem?_set_self hj]at hu
   cases hu
   exact hT
  ·have hu:(D.txs.set j t')[i]? = some u:=hu
   rw[List.getElem?_set_ne (Ne.symm e)]at hu
   exact(x.tx i u hu).to y hM fun n hh=>by obtain⟨m,e'⟩:=hS (.tx n i) trivial hh;injection e' with _ e2;exact e e2
theorem MgrD.set_same{D:MgrD}{j:Nat}{t:TxS}(h:D.txs[j]? = some t):D.set j t=D:=by
 unfold MgrD.set
 have:D.txs.set j t=D.txs:=by
  obtain⟨hj,rfl⟩:=List.getElem?_eq_some_iff.1 h
  simp
 rw[this]
def MgrD.add(D:MgrD):MgrD:={ D with txs:=D.txs ++ [⟨1,0,0,D.last,[]⟩] }
def sBegin:Kd→Prop
 | .one n=>n=6∨n=7∨n=9
 | _=>False
theorem sBook_begin:∀ k,sBook k→sBegin k
 | .one _,h=>by rcases h with h | h <;> simp[sBegin,h]
theorem mBegin_spec(t:HT G h)(x:MgrIn G h M mb V D em bk am q tb)(hn:D.txs.length≤1000000)(hla:0≤D.last∧D.last≤1099511627776):HC Tryz.prog 185 #[pv mb] h fun r h'=>∃ (G':Gh) (tb':Nat→Nat),To sBegin G h G' h'∧G'.W=G.W∧
 ((r=.tuple #[.int .i64 0,.int .i64 6]∧MgrIn G' h' M mb V D em bk am q tb∧∀ l:List Int,l.Nodup→(∀ k,k∈l↔liveK D.txs k)→16≤l.length) ∨
  (r=.tuple #[.int .i64 ((D.txs.length+1:Nat):Int),.int .i64 0]∧MgrIn G' h' M mb V D.add em bk am q tb')):=by
 apply wc185
 unfold vc185
 refine(mGone_spec x).mono ?_
 rintro _ _ ⟨rfl,rfl⟩
 rename_i h
 have rR:=x.row.filt (P:=kf G sBook) (kf_yes (by rw[x.kd];simp[sBook]))
 refine⟨_,rfl,.ff ⟨filt (kf G sBook) h,sub_kf _ _ _,_,rfl,_,rR.get rfl,_,rfl,_,rR.get rfl,?_⟩⟩
 refine(kOpen_spec t x.book hn hla).mono ?_
 rintro _ h1 ⟨G1,y1,W1,⟨rfl,b1,hfull⟩ | ⟨rfl,b1⟩⟩
 ·refine⟨_,_,rfl,y1.kf,IfB.yes rfl ⟨G1,tb,y1.mono sBook_begin,W1,.inl ⟨rfl,?_,hfull⟩⟩⟩
  exact⟨y1.kd x.kd (by simp),y1.rowK x.row x.kd (by simp[sBook]),x.ext.to y1 (Nat.le_refl _) id (by simp[sBook]) (by simp[sBook]),b1,y1.kd x.kam (by simp),y1.blk x.all (by rw[x.kam];simp[sBook]),x.que.to y1 (by simp[sBook]),fun j u hu=>(x.tx j u hu).to y1 (Nat.le_refl _) fun n hh=>hh⟩
 have r1:=y1.rowK x.row x.kd (by simp[sBook])
 have xe1:=x.ext.to y1 (Nat.le_refl M) (id:V→V) (by simp[sBook]) (by simp[sBook])
 refine⟨_,_,rfl,y1.kf,IfB.no rfl ⟨_,rfl,_,r1.get0 rfl,(eBlocks_spec xe1).mono ?_⟩⟩
 rintro _ _ ⟨rfl,rfl⟩
 rename_i h1
 refine⟨_,rfl,(bNewT_spec y1.ht D.txs.length).mono ?_⟩
 rintro _ h3 ⟨bb,G3,rfl,y3,xb3,W3⟩
 have r3:=y3.row r1 id
 refine⟨_,_,rfl,_,rfl,_,r3.get rfl,_,rfl,_,r3.get rfl,_,rfl,_,r3.get0 rfl,_,rfl,_,r3.get rfl,(vNew_spec y3.ht M D.txs.length em bb D.last).mono ?_⟩
 rintro _ h4 ⟨vb,G4,rfl,y4,xv4,W4⟩
 refine⟨_,rfl,y4.toExt,?_⟩
 intro h5
 have e5:Ext h4 h5:=alc_ext _ _ _
 have r5:Row h5 h4.size [.int .i64 1,.int .i64 0,.int .i64 0,.int .i64 D.last,pv bb,pv vb]:=Row.alc _ _ _
 obtain⟨y5,k5,W5⟩:=y4.ht.kindNew e5 (Nat.le_refl _) r5.lt (k := .tx 1 D.txs.length) id
 have y35:To (fun _=>False) G1 h1 _ h5:=(y3.trans y4).trans y5
 have y05:To sBook G h _ h5:=y1.trans y35.sub
 have all5:=y05.blk x.all (by rw[x.kam];simp[sBook])
 refine⟨y4.toExt.trans e5,am,_,_,rfl,all5,?_⟩
 obtain⟨ap,ac⟩:=al_put D.txs.length tb h4.size
 have kam5:=y05.kd x.kam (by simp)
 have y6:To (fun k=>k=.one 9) (G4.set h4.size (.tx 1 D.txs.length) 0) h5 (G4.set h4.size (.tx 1 D.txs.length) 0) (h5.setIfInBounds am (mput (al D.txs.length tb) ((D.txs.length+1:Nat):Int) (pv h4.size) D.txs.length)):=
  y5.ht.toOther (b:=am) (by rw[kam5];exact⟨trivial,rfl⟩) (by rw[kam5];exact id) (by simp) fun b _ hb=>Array.getElem?_setIfInBounds_ne (Ne.symm hb)
 have y06:To sBegin G h _ _:=(y05.mono sBook_begin).trans (y6.mono fun k e=>by subst e;simp[sBegin])
 refine⟨_,fun j=>if j=D.txs.length then h4.size else tb j,y06,W5.trans (W4.trans (W3.trans W1)),.inr ⟨rfl,?_⟩⟩
 have y36:=(y35.sub (S:=fun k=>k=.one 9)).trans y6
 refine⟨y06.kd x.kd (by simp),y06.rowK x.row x.kd (by simp[sBegin]),xe1.to y36 (Nat.le_refl _) id (by simp) (by simp),?_,y06.kd x.kam (by simp),?_,x.que.to y06 (by simp[sBegin]),fun j u hu=>?_⟩
 ·have hk:∀ k,(liveK D.txs k∨k=((D.txs.length+1:Nat):Int))↔liveK (D.txs ++ [⟨1,0,0,D.last,[]⟩]) k:=by
   intro k
   constructor
   ·rintro(⟨i,u,h1,h2,rfl⟩ | rfl)
    ·exact⟨i,u,by rw[List.getElem?_append_left (List.getElem?_eq_some_iff.1 h1).1];exact h1,h2,rfl⟩
    ·exact⟨D.txs.length,⟨1,0,0,D.last,[]⟩,by simp,.inl rfl,rfl⟩
   ·rintro⟨i,u,h1,h2,rfl⟩
    rcases Nat.lt_or_ge i D.txs.length with hi | hi
    ·rw[List.getElem?_append_left hi]at h1
     exact .inl ⟨i,u,h1,h2,rfl⟩
    ·have:=(List.getElem?_eq_some_iff.1 h1).1
     simp at this
     obtain rfl:i=D.txs.length:=by omega
     exact .inr rfl
  have:=(b1.to y36 (by simp) (by simp)).eq hk
  have hlen:D.add.txs.length=D.txs.length+1:=by simp[MgrD.add]
  rw[hlen]
  exact this
 ·have hlen:D.add.txs.length=D.txs.length+1:=by simp[MgrD.add]
  rw[hlen]
  show(h5.setIfInBounds am _)[am]? = some (mapO (al (D.txs.length+1) fun j=>if j=D.txs.length then h4.size else tb j) (D.txs.length+1))
  rw[Array.getElem?_setIfInBounds_self_of_lt (blk_lt all5),mput_eq]
  show some (mapO (mputL (al D.txs.length tb) ((D.txs.length+1:Nat):Int) (pv h4.size) D.txs.length) (mputC (al D.txs.length tb) ((D.txs.length+1:Nat):Int) D.txs.length))=_
  rw[ap,ac]
 ·have hu:(D.txs ++ [⟨1,0,0,D.last,[]⟩])[j]? = some u:=hu
  rcases Nat.lt_or_ge j D.txs.length with hi | hi
  ·rw[List.getElem?_append_left hi]at hu
   simp only[if_neg (show ¬ j=D.txs.length by omega)]
   exact(x.tx j u hu).to y06 (Nat.le_refl _) fun n hh=>hh
  ·have:=(List.getElem?_eq_some_iff.1 hu).1
   simp at this
   obtain rfl:j=D.txs.length:=by omega
   simp at hu
   subst hu
   simp only[if_pos]
   have y46:=(y5.sub (S:=fun k=>k=.one 9)).trans y6
   exact⟨y6.kd k5 (by simp),bb,vb,y6.rowK r5 k5 (by simp),(xb3.to y4 id id).to y46 (by simp) (by simp),xv4.to y46 (Nat.le_refl _) (by simp) (by simp)⟩
theorem mRead_spec(t:HT G h)(x:MgrIn G h M mb V D em bk am q tb)(hM:M≤1000000)(hd a b:Int):HC Tryz.prog 186 #[pv mb,.int .i64 hd,.agg #[.int .i64 a,.int .i64 b]] h fun r h'=>∃ (G':Gh) (c:Int) (s:Sl) (l:List UInt8) (j:Nat),r=.tuple #[.slice s.base s.len s.cap,.int .i64 c]∧To (sView j) G h G' h'∧G'.W=G.W∧SlB G' s l∧l.length≤1000∧MgrIn G' h' (M+16) mb V D em bk am q tb:=by
 apply wc186
 unfold vc186
 intro h1
 have e1:Ext h h1:=alc_ext _ _ _
 have r1:Row h1 h.size [.int .i64 a,.int .i64 b]:=Row.alc _ _ _
 have x1:=x.ext' t e1
 have t1:=t.ext e1
 refine(mOpen_spec x1 hd).mono ?_
 rintro _ _ ⟨rfl,⟨_,rfl⟩ | ⟨j,tx,htx,hs,rfl,rfl⟩⟩
 ·exact⟨_,rfl,IfB.yes rfl ⟨G,5,Sl.nil,[],0,rfl,e1.to t,rfl,SlB.nil G,by simp,x.to (e1.to t (S:=fun _=>False)) (by omega) fun _ _ h=>h⟩⟩
 obtain⟨bb,vb,rw',xb,xv⟩:=(x1.tx j tx htx).row
 have kt:G.k (tb j)=.tx 1 j:=(x1.tx j tx htx).kd
 have kh:G.k h.size=.any:=t.fresh (Nat.le_refl _)
 have rR:=rw'.filt (P:=kf G (sView j)) (kf_yes (by rw[kt];simp[sView]))
 have r1R:=r1.filt (P:=kf G (sView j)) (kf_yes (by rw[kh];exact id))
 refine⟨_,rfl,.ff ⟨filt (kf G (sView j)) h1,sub_kf _ _ _,_,rfl,_,rR.get rfl,_,_,r1R.get0 rfl,r1R.get rfl,(vRead_spec t1 x1.ext xb xv hM a b).mono ?_⟩⟩
 rintro _ h2 ⟨G2,c,s,l,rfl,y2,xv2,W2,sb,hl⟩
 refine⟨s,c,rfl,y2.kf,G2,c,s,l,j,rfl,(e1.to t).trans y2,W2,sb,hl,?_⟩
 have:=x1.updTx htx (t':=tx) rfl y2 (fun k hm hk=>by
  cases k <;> first | exact hm.elim | exact hk.elim | (obtain⟨_,rfl⟩:=hk;exact⟨_,rfl⟩)) (by omega) (M':=M+16) ⟨y2.kd kt (by simp),bb,vb,y2.rowK rw' kt (by simp[sView]),xb.to y2 (by simp[sView]) (by simp[sView]),xv2⟩
 rwa[MgrD.set_same htx]at this
theorem mWrite_spec(t:HT G h)(x:MgrIn G h M mb V D em bk am q tb)(hd:Int){s:Sl}{Q:List PutD}(p:PutsR (Stab G h) h s Q)(hQ:PutsB Q):HC Tryz.prog 187 #[pv mb,.int .i64 hd,.slice s.base s.len s.cap] h fun r h'=>∃ (G':Gh) (c:Int) (D':MgrD) (j:Nat),r=.int .i64 c∧To (sBuf j) G h G' h'∧G'.W=G.W∧MgrIn G' h' M mb V D' em bk am q tb∧
 ((c≠0∧D'=D) ∨∃ (j:Nat) (t:TxS) (P':List PutD),D.txs[j]? = some t∧t.state=1∧hd=((j+1:Nat):Int)∧PutsOk P'∧P'.length≤16∧D'=D.set j { t with P:=P' })∧
 (∀ (j:Nat) (t:TxS) a l,D.txs[j]? = some t→t.state=1→hd=((j+1:Nat):Int)→Q = [(a,l)]→0≤a∧a<258→l.length=40→t.P = []→c=0∧D'=D.set j { t with P:=[(a,l)] }):=by
 apply wc187
 unfold vc187
 refine(mOpen_spec x hd).mono ?_
 rintro _ _ ⟨rfl,⟨hno,rfl⟩ | ⟨j,tx,htx,hs,rfl,rfl⟩⟩
 ·exact⟨_,rfl,IfB.yes rfl ⟨G,5,D,0,rfl,.refl t,rfl,x,.inl ⟨by decide,rfl⟩,fun j t a l h1 h2 h3=>absurd ⟨j,t,h1,h2,h3⟩ hno⟩⟩
 rename_i h
 obtain⟨bb,vb,rw',xb,xv⟩:=(x.tx j tx htx).row
 have kt:G.k (tb j)=.tx 1 j:=(x.tx j tx htx).kd
 refine⟨_,rfl,.ff ⟨_,rfl,_,rw'.get rfl,(bWrite_spec t xb p hQ).mono ?_⟩⟩
 rintro _ h2 ⟨G2,c,P',rfl,y2,xb2,W2,hc,hx⟩
 have x2:MgrIn G2 h2 M mb V (D.set j { tx with P:=P' }) em bk am q tb:=x.updTx htx (t':={ tx with P:=P' }) rfl y2 (fun k _ hk=>by
  cases k <;> first | exact hk.elim | skip
  obtain⟨_,rfl⟩:=hk;exact⟨_,rfl⟩) (Nat.le_refl _) ⟨y2.kd kt (by simp),bb,vb,y2.rowK rw' kt (by simp[sBuf]),xb2,xv.to y2 (Nat.le_refl _) (by simp[sBuf]) (by simp[sBuf])⟩
 refine⟨c,rfl,G2,c,D.set j { tx with P:=P' },j,rfl,y2,W2,x2,?_,fun j' t' a l h1 _ h3 h4 h5 h6 h7=>?_⟩
 ·by_cases e:c=0
  ·exact .inr ⟨j,tx,P',htx,hs,rfl,xb2.ok,xb2.len,rfl⟩
  ·refine .inl ⟨e,?_⟩
   rw[hc e];exact MgrD.set_same htx
 ·obtain rfl:j=j':=by omega
  rw[htx]at h1;cases h1
  obtain⟨q1,q2⟩:=hx a l h4 h5 h6 h7
  exact⟨q1,by rw[q2]⟩
theorem mAbort_spec(t:HT G h)(x:MgrIn G h M mb V D em bk am q tb)(hd:Int):HC Tryz.prog 188 #[pv mb,.int .i64 hd] h fun r h'=>∃ (G':Gh) (c:Int) (D':MgrD) (j:Nat),r=.int .i64 c∧To (sEnd j) G h G' h'∧G'.W=G.W∧MgrIn G' h' M mb V D' em bk am q tb∧
 ((c=5∧D'=D) ∨∃ (j:Nat) (t:TxS),D.txs[j]? = some t∧t.state=1∧hd=((j+1:Nat):Int)∧c=0∧D'=D.set j (endT t 4 0)):=by
 apply wc188
 unfold vc188
 refine(mOpen_spec x hd).mono ?_
 rintro _ _ ⟨rfl,⟨hno,rfl⟩ | ⟨j,tx,htx,hs,rfl,rfl⟩⟩
 ·exact⟨_,rfl,IfB.yes rfl ⟨G,5,D,0,rfl,.refl t,rfl,x,.inl ⟨rfl,rfl⟩⟩⟩
 ·refine⟨_,rfl,.ff ((mEnd_spec t x htx (.inl hs) (.inr rfl:(4:Nat)=3∨4=4) 0).mono ?_)⟩
  rintro _ h2 ⟨G2,rfl,y2,W2,x2⟩
  exact⟨rfl,G2,0,_,j,rfl,y2,W2,x2,.inr ⟨j,tx,htx,hs,rfl,rfl,rfl⟩⟩
theorem mResult_spec(x:MgrIn G h M mb V D em bk am q tb)(hd:Int):HC Tryz.prog 239 #[pv mb,.int .i64 hd] h fun r h'=>h'=h∧((r=.tuple #[.int .i64 0,.int .i64 0,.int .i64 0]∧¬ ∃ j:Nat,j<D.txs.length∧hd=((j+1:Nat):Int)) ∨∃ (j:Nat) (t:TxS),D.txs[j]? = some t∧hd=((j+1:Nat):Int)∧r=.tuple #[.int .i64 (t.state:Int),.int .i64 t.time,.int .i64 t.code]):=by
 apply wc239
 unfold vc239
 refine(mGone_spec x).mono ?_
 rintro _ _ ⟨rfl,rfl⟩
 refine⟨_,rfl,.ff ⟨_,rfl,_,x.row.get rfl,al D.txs.length tb,D.txs.length,x.all,?_⟩⟩
 by_cases hk:∃ j:Nat,j<D.txs.length∧hd=((j+1:Nat):Int)
 ·obtain⟨j,hj,rfl⟩:=hk
  have hg:=al_get (tb:=tb) hj
  have ht:D.txs[j]? = some D.txs[j]:=List.getElem?_eq_getElem hj
  obtain⟨bb,vb,rw',_⟩:=(x.tx j _ ht).row
  exact⟨_,by rw[hg];rfl,IfB.no (by unfold mhas;rw[hg];rfl) ⟨_,rfl,_,rw'.get0 rfl,_,rfl,_,rw'.get rfl,_,rfl,_,rw'.get rfl,rfl,.inr ⟨j,_,ht,rfl,rfl⟩⟩⟩
 ·have hg:=al_none (tb:=tb) hk
  exact⟨none,by rw[hg];rfl,IfB.yes (by unfold mhas;rw[hg];rfl) ⟨rfl,.inl ⟨rfl,hk⟩⟩⟩
theorem mLast_spec(x:MgrIn G h M mb V D em bk am q tb):HC Tryz.prog 161 #[pv mb] h fun r h'=>r=.int .i64 D.last∧h'=h:=by
 apply wc161
 unfold vc161
 refine(mGone_spec x).mono ?_
 rintro _ _ ⟨rfl,rfl⟩
 exact⟨_,rfl,.ff ⟨_,rfl,_,x.row.get rfl,rfl,rfl⟩⟩
theorem mQueue_spec(x:MgrIn G h M mb V D em bk am q tb):HC Tryz.prog 41 #[pv mb] h fun r h'=>r=.int .i64 (D.queue.length:Int)∧h'=h:=by
 apply wc41
 unfold vc41
 refine(mGone_spec x).mono ?_
 rintro _ _ ⟨rfl,rfl⟩
 have hql:q.len=D.queue.length:=by have:=x.que.own.len;simpa using this.symm
 exact⟨_,rfl,.ff ⟨_,rfl,_,x.row.get rfl,by rw[hql],rfl⟩⟩
theorem mOpenN_spec(t:HT G h)(x:MgrIn G h M mb V D em bk am q tb)(hn:D.txs.length≤1000000):HC Tryz.prog 42 #[pv mb] h fun r h'=>∃ c:Nat,r=.int .i64 (c:Int)∧Ext h h'∧∀ l:List Int,l.Nodup→(∀ k,k∈l↔liveK D.txs k)→c=l.length:=by
 apply wc42
 unfold vc42
 refine(mGone_spec x).mono ?_
 rintro _ _ ⟨rfl,rfl⟩
 refine⟨_,rfl,.ff ⟨_,rfl,_,x.row.get rfl,(kList_spec t x.book hn).mono ?_⟩⟩
 rintro _ h1 ⟨c,rfl,e,_,hc⟩
 exact⟨_,rfl,c,rfl,e,hc⟩
theorem mReadOnly_spec(t:HT G h)(x:MgrIn G h M mb V D em bk am q tb)(yes:Bool):HC Tryz.prog 108 #[pv mb,.bool yes] h fun r h'=>r=.tuple #[]∧To (fun k=>k=.one 3) G h G h'∧MgrIn G h' M mb V { D with read:=yes } em bk am q tb:=by
 apply wc108
 unfold vc108
 refine(mGone_spec x).mono ?_
 rintro _ _ ⟨rfl,rfl⟩
 obtain⟨s1,r1,o1,z1⟩:=x.row.set (i:=9) (by simp) (.bool yes)
 refine⟨_,rfl,.tt ⟨_,rfl,s1,rfl,?_⟩⟩
 have y1:=t.toOther (S:=fun k=>k=.one 3) (b:=mb) (by rw[x.kd];exact⟨trivial,rfl⟩) (by rw[x.kd];exact id) (by rw[z1];exact Nat.le_refl _) fun k _ hk=>o1 k hk
 exact⟨y1,x.kd,r1,x.ext.to y1 (Nat.le_refl _) id (by simp) (by simp),x.book.to y1 (by simp) (by simp),x.kam,y1.blk x.all (by rw[x.kam];simp),x.que.to y1 (by simp),fun j u hu=>(x.tx j u hu).to y1 (Nat.le_refl _) fun n hh=>by cases hh⟩
theorem mPrune_spec(t:HT G h)(x:MgrIn G h M mb V D em bk am q tb)(hM:M≤1000000):HC Tryz.prog 107 #[pv mb] h fun r h'=>∃ (G':Gh) (n:Int),r=.int .i64 n∧To sExt G h G' h'∧G'.W=G.W∧MgrIn G' h' M mb V D em bk am q tb:=by
 apply wc107
 unfold vc107
 refine(mGone_spec x).mono ?_
 rintro _ _ ⟨rfl,rfl⟩
 have rR:=x.row.filt (P:=kf G sExt) (kf_yes (by rw[x.kd];simp[sExt]))
 refine⟨_,rfl,.ff ⟨filt (kf G sExt) _,sub_kf _ _ _,_,rfl,_,rR.get0 rfl,_,rfl,_,rR.get rfl,_,rfl,_,rR.get rfl,(kLow_spec t x.book D.last).mono ?_⟩⟩
 rintro _ h1 ⟨e1,c,rfl⟩
 have x1:=x.ext' t e1
 refine⟨c,rfl,(e1.to t (S:=sExt)).kf,(ePrune_spec (t.ext e1) x1.ext hM c).mono ?_⟩
 rintro _ h2 ⟨G2,n,rfl,y2,xe2,W2⟩
 have y02:=(e1.to t (S:=sExt)).trans y2
 refine⟨n,rfl,y02.kf,G2,n,rfl,y02,W2,?_⟩
 exact⟨y02.kd x.kd (by simp),y02.rowK x.row x.kd (by simp[sExt]),xe2,x.book.to y02 (by simp[sExt]) (by simp[sExt]),y02.kd x.kam (by simp),y02.blk x.all (by rw[x.kam];simp[sExt]),x.que.to y02 (by simp[sExt]),fun j u hu=>(x.tx j u hu).to y02 (Nat.le_refl _) fun n hh=>hh⟩
theorem mDump_spec(t:HT G h)(x:MgrIn G h M mb V D em bk am q tb)(hM:M≤1000000):HC Tryz.prog 40 #[pv mb] h fun r h'=>
 ∃ (s:Sl) (P:List PutD) (G':Gh),r=.slice s.base s.len s.cap∧To (fun _=>False) G h G' h'∧SlP G' s P∧G'.W=G.W∧PutsOk P∧(∀ p∈P,G.W p.1 p.2)∧P.length≤258∧(P ≠ []→V):=by
 apply wc40
 unfold vc40
 refine(mGone_spec x).mono ?_
 rintro _ _ ⟨rfl,rfl⟩
 refine⟨_,rfl,.ff ⟨_,rfl,_,x.row.get0 rfl,(eDump_spec t x.ext hM).mono ?_⟩⟩
 rintro _ h1 ⟨s,P,G1,rfl,y1,p1,W1,ok,hw,hl,hv,_⟩
 exact⟨s,rfl,s,P,G1,rfl,y1,p1,W1,ok,hw,hl,hv⟩
theorem out7{h:Hp}{b:Nat}{old:List Value}(x:Row h b old)(ho:old.length=7)(a0 a1 a2 a3 a4:Int)(s t:Sl){K:Int→Int→Int→Int→Int→Sl→Sl→Hp→Prop}(hK:∀ h',Only b h h'→h'.size=h.size→Row h' b [.int .i64 a0,.int .i64 a1,.int .i64 a2,.int .i64 a3,.int .i64 a4,.slice s.base s.len s.cap,.slice t.base t.len t.cap]→K a0 a1 a2 a3 a4 s t h') :
 stCells ⟨b,0,none⟩ 0 [.int .i64 a0,.int .i64 a1,.int .i64 a2,.int .i64 a3,.int .i64 a4,.slice s.base s.len s.cap,.slice t.base t.len t.cap] h fun vh3=>
 ∃ x:Int,∃ x1:Int,∃ x2:Int,∃ x3:Int,∃ x4:Int,∃ x5:Sl,∃ x6:Sl,hY vh3 (⟨b,0,none⟩:Addr)=some (.int .i64 x)∧hY vh3 ((⟨b,0,none⟩:Addr).add 1)=some (.int .i64 x1)∧hY vh3 ((⟨b,0,none⟩:Addr).add 2)=some (.int .i64 x2)∧hY vh3 ((⟨b,0,none⟩:Addr).add 3)=some (.int .i64 x3)∧hY vh3 ((⟨b,0,none⟩:Addr).add 4)=some (.int .i64 x4)∧hY vh3 ((⟨b,0,none⟩:Addr).add 5)=some (.slice x5.base x5.len x5.cap)∧hY vh3 ((⟨b,0,none⟩:Addr).add 6)=some (.slice x6.base x6.len x6.cap)∧K x x1 x2 x3 x4 x5 x6 vh3:=
 x.put (vs:=[.int .i64 a0,.int .i64 a1,.int .i64 a2,.int .i64 a3,.int .i64 a4,.slice s.base s.len s.cap,.slice t.base t.len t.cap]) (by simp[ho]) (by simp[cellOk]) fun h' r' s' o'=>
  ⟨_,_,_,_,_,s,t,r'.get0 rfl,r'.get rfl,r'.get rfl,r'.get rfl,r'.get rfl,r'.get rfl,r'.get rfl,hK h' ⟨by omega,fun b hb hne=>o' b hne⟩ s' r'⟩
def histV(st bg tm fr to_:Int)(rs ps:Sl):Value := .agg #[.int .i64 st,.int .i64 bg,.int .i64 tm,.int .i64 fr,.int .i64 to_,.slice rs.base rs.len rs.cap,.slice ps.base ps.len ps.cap]
theorem mHistory_spec(t:HT G h)(x:MgrIn G h M mb V D em bk am q tb)(hM:M≤1000000)(hd:Int):HC Tryz.prog 81 #[pv mb,.int .i64 hd] h fun r h'=>∃ (G':Gh) (rs ps:Sl) (st bg tm:Int) (P:List PutD),r=histV st bg tm 0 0 rs ps∧To (fun _=>False) G h G' h'∧G'.W=G.W∧SlA G' (.reads 0) rs∧rs.len≤M∧SlP G' ps P∧P.length≤16∧
 ∀ (j:Nat) (t:TxS),D.txs[j]? = some t→hd=((j+1:Nat):Int)→st=t.state∧P=t.P:=by
 apply wc81
 unfold vc81
 intro h1
 have e1:Ext h h1:=alc_ext _ _ _
 have r1:Row h1 h.size [.int .i64 0,.int .i64 0,.int .i64 0,.int .i64 0,.int .i64 0,.slice Sl.nil.base Sl.nil.len Sl.nil.cap,.slice Sl.nil.base Sl.nil.len Sl.nil.cap]:=Row.alc _ _ _
 have x1:=x.ext' t e1
 have t1:=t.ext e1
 refine(mGone_spec x1).mono ?_
 rintro _ _ ⟨rfl,rfl⟩
 refine⟨_,rfl,.ff ⟨_,rfl,_,x1.row.get rfl,al D.txs.length tb,D.txs.length,x1.all,?_⟩⟩
 by_cases hk:∃ j:Nat,j<D.txs.length∧hd=((j+1:Nat):Int)
 ·obtain⟨j,hj,rfl⟩:=hk
  have hg:=al_get (tb:=tb) hj
  have ht:D.txs[j]? = some D.txs[j]:=List.getElem?_eq_getElem hj
  obtain⟨bb,vb,rw',xb,xv⟩:=(x1.tx j _ ht).row
  refine⟨_,by rw[hg];rfl,IfB.no (by unfold mhas;rw[hg];rfl) ⟨_,rfl,_,rw'.get0 rfl,_,rfl,_,rw'.get rfl,_,rfl,_,rw'.get rfl,_,rfl,_,rw'.get rfl,_,rfl,_,rw'.get rfl,(vReads_spec t1 xv hM).mono ?_⟩⟩
  rintro _ h2 ⟨rs,G2,rfl,y2,sa2,l2,W2⟩
  refine⟨rs,rfl,y2.toExt,(bPuts_spec y2.ht (xb.to y2 id id)).mono ?_⟩
  rintro _ h3 ⟨ps,G3,rfl,y3,p3,W3⟩
  have y13:=y2.trans y3
  have y03:To (fun _=>False) G h G3 h3:=(e1.to t).trans y13
  refine⟨ps,rfl,y13.toExt,?_⟩
  refine out7 (y13.row r1 id) rfl _ _ _ _ _ _ _ (K:=fun a0 a1 a2 a3 a4 s t h'=>∃ (G':Gh) (rs ps:Sl) (st bg tm:Int) (P:List PutD),histV a0 a1 a2 a3 a4 s t=histV st bg tm 0 0 rs ps∧To (fun _=>False) G h G' h'∧G'.W=G.W∧SlA G' (.reads 0) rs∧rs.len≤M∧SlP G' ps P∧P.length≤16∧∀ (j_1:Nat) (t:TxS),D.txs[j_1]? = some t→((j+1:Nat):Int)=((j_1+1:Nat):Int)→st=t.state∧P=t.P) fun h4 o4 z4 _=>?_
  have kh:G3.k h.size=.any:=by rw[y13.old _ r1.lt];exact t.fresh (Nat.le_refl _)
  refine⟨G3,rs,ps,_,_,_,_,rfl,y03.own1 (Nat.le_refl _) kh (by omega) fun k hk hne=>o4.block k hk hne,W3.trans W2,sa2.mono y3.le,l2,p3,xb.len,fun j' t' h1 h2=>?_⟩
  obtain rfl:j=j':=by omega
  rw[ht]at h1;cases h1
  exact⟨rfl,rfl⟩
 ·have hg:=al_none (tb:=tb) hk
  refine⟨none,by rw[hg];rfl,IfB.yes (by unfold mhas;rw[hg];rfl) ?_⟩
  refine out7 r1 rfl 0 0 0 0 0 Sl.nil Sl.nil (K:=fun a0 a1 a2 a3 a4 s t h'=>∃ (G':Gh) (rs ps:Sl) (st bg tm:Int) (P:List PutD),histV a0 a1 a2 a3 a4 s t=histV st bg tm 0 0 rs ps∧To (fun _=>False) G h G' h'∧G'.W=G.W∧SlA G' (.reads 0) rs∧rs.len≤M∧SlP G' ps P∧P.length≤16∧∀ (j_1:Nat) (t:TxS),D.txs[j_1]? = some t→hd=((j_1+1:Nat):Int)→st=t.state∧P=t.P) fun h4 o4 z4 _=>?_
  exact⟨G,Sl.nil,Sl.nil,0,0,0,[],rfl,(e1.to t).own1 (Nat.le_refl _) (t.fresh (Nat.le_refl _)) (by omega) fun k hk hne=>o4.block k hk hne,rfl,SlA.nil _ _,Nat.zero_le _,SlP.nil _,by simp,fun j' t' h1 h2=>absurd ⟨j',(List.getElem?_eq_some_iff.1 h1).1,h2⟩ hk⟩
end
end Go.Proofs.YtdpdkpfnfllipaaGreatDoor

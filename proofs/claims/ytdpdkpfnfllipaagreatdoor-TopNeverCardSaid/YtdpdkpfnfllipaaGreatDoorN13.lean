/- A part of the proof, no condition. -/
import Derived.Test.YtdpdkpfnfllipaaGreatDoorN4
import Derived.Test.YtdpdkpfnfllipaaGreatDoorN5
import Derived.Test.YtdpdkpfnfllipaaGreatDoorN7
import Derived.Test.YtdpdkpfnfllipaaGreatDoorN12
set_option linter.unusedVariables false
set_option linter.unusedSimpArgs false
namespace Go.Proofs.YtdpdkpfnfllipaaGreatDoor
theorem formN_spec{B:Nat→Prop}{h:Hp}{s:Sl}{T:List TxD}(t:TxsR B h s T)(hP:∀ j,(pt T j).length≤1000000)(hT:T.length≤1000000) :
 HC Tryz.prog 110 #[.slice s.base s.len s.cap] h fun r h'=>Ext h h'∧∃ n:Nat,r=.int .i64 n∧n≤T.length∧n≤8∧(T ≠ []→1≤n):=by
 apply wc110
 unfold vc110
 have hl:=t.len
 refine⟨fun n puts k m h'=>∃ j:Nat,n=j∧k=j∧m+j=T.length∧Ext h h'∧j≤8,T.length,⟨0,rfl,rfl,rfl,.refl _,by omega⟩,?_⟩
 rintro _ _ puts _ m h1 ⟨j,rfl,rfl,hm,e1,h8⟩
 refine IfB.dec (fun hlt=>?_) (fun hge=>⟨e1,j,rfl,by omega,h8,fun hne=>by have:=List.length_pos_iff.2 hne;omega⟩)
 have hj:j<T.length:=by omega
 refine(t.ext e1).ix j rfl hj fun a d c0 c1 pr=>⟨_,_,c0,c1,?_⟩
 have ei:iAdd .i64 (j:Int) (1:Int)=((j+1:Nat):Int):=by rw[iAdd64 (by omega)];push_cast;rfl
 intro h2
 refine loc2 rfl rfl fun h3 e3 r3=>IfB.dec (fun hge=>⟨e1.trans e3,j,rfl,by omega,h8,fun _=>by omega⟩) (fun hlt8=>?_)
 refine IfB.dec (fun hpos=>⟨d,r3.get rfl,IfB.dec (fun hgt=>⟨e1.trans e3,j,rfl,by omega,h8,fun _=>by omega⟩) fun hle=>⟨d,r3.get rfl,m-1,by omega,j+1,ei,ei,by omega,e1.trans e3,by omega⟩⟩) (fun hz=>⟨d,r3.get rfl,m-1,by omega,j+1,ei,ei,by omega,e1.trans e3,by omega⟩)
theorem TxsR.cut0{B:Nat→Prop}{h:Hp}{s:Sl}{T:List TxD}(t:TxsR B h s T){n m:Nat}(h1:n≤s.len)(h2:n≤m):TxsR B h (cutSl s (0:Int) (n:Int) (m:Int) 2) (T.take n):=by
 obtain⟨L,rfl,r,hb,he⟩:=t
 have rc:=r.cut (lo:=0) (hi:=n) (m:=m) (by omega) h1 h2
 refine⟨L.take n,by rw[List.map_take],?_,fun a ha hn=>?_,fun x hx=>he x (List.mem_of_mem_take hx)⟩
 ·have:(((c2 (L.map (·.1))).drop (0*2)).take ((n-0)*2))=c2 ((L.take n).map (·.1)):=by
   rw[Nat.zero_mul,List.drop_zero,Nat.sub_zero,c2_take,List.map_take]
  rw[this]at rc
  exact rc
 ·have hl:(cutSl s (0:Int) (n:Int) (m:Int) 2).len=n:=by have:=cut_len (s:=s) (lo:=0) (hi:=n) (m:=m) (sz:=2);simpa using this
  have hsl:s.len≠0:=by omega
  simp only[cutSl]at ha
  split at ha
  ·exact hb a ha hsl
  ·cases hbase:s.base with
   | none=>rw[hbase]at ha;simp at ha
   | some a0=>
     rw[hbase]at ha
     simp at ha
     have:=hb a0 hbase hsl
     rw[← ha]
     exact this
theorem iClone_spec{h:Hp}{s:Sl}{l:List Int}(r:Rd 1 h s (l.map (.int .i64)))(hmax:l.length≤1000000):HC Tryz.prog 114 #[.slice s.base s.len s.cap] h fun r h'=>∃ t:Sl,r=.slice t.base t.len t.cap∧Own h.size 1 h' t (l.map (.int .i64))∧t.len=l.length∧Ext h h':=by
 apply wc114
 unfold vc114
 have ll:l.length=s.len:=by have:=r.len;simpa using this
 refine IfB.nilp (fun hn=>?_) (fun a ha=>?_)
 ·have:l = []:=by
   rcases l with _ | ⟨x,l⟩
   ·rfl
   ·obtain⟨a,ha,_⟩:=r.rd 0 (.int .i64 x) rfl;rw[hn]at ha;cases ha
  subst this
  exact⟨Sl.nil,rfl,Own.nil _ _ _,rfl,.refl h⟩
 ·have o0:Own h.size 1 (alc h [] 3) ⟨some (nw h),0,0⟩ []:=Own.alc h [] 3 0 1 rfl
  refine AppC_own (news:=l.map (.int .i64)) rfl o0 (by rw[size_alc];omega) (by simpa using ll) (r.ext (alc_ext _ _ _)).rd (fun v hv=>by obtain⟨x,_,rfl⟩:=List.mem_map.1 hv;rfl) (by simp;omega) (by simp;omega) fun t h1 o1 l1 k1 _=>?_
  exact⟨t,rfl,by simpa using o1,by rw[l1];simp;omega,(((alc_ext h [] 3).toKeep).trans k1).ext⟩
def Gh.addW(G:Gh)(W:Int→List UInt8→Prop):Gh:=⟨G.k,G.n,fun a l=>G.W a l∨W a l⟩
theorem Gh.addW_le(G:Gh)(W:Int→List UInt8→Prop):G.Le (G.addW W):=⟨fun _ _=>rfl,fun _=>Nat.le_refl _,fun _ _ h=>.inl h⟩
theorem HT.addW{G:Gh}{h:Hp}(t:HT G h)(W:Int→List UInt8→Prop):To (fun _=>False) G h (G.addW W) h:=
 ⟨G.addW_le W,fun _ _=>rfl,Nat.le_refl _,fun _ _ _=>rfl,t.dom,t.n0,t.bytes,fun b L hb=>⟨(t.puts b L hb).1,fun x hx=>((t.puts b L hb).2 x hx).mono (G.addW_le W)⟩,
  fun b a N hb=>by
   obtain⟨g,c,e,h1,h2,h3⟩:=t.arr b a N hb
   exact⟨g,c,e,h1,h2,fun i hi=>okE_mono (G.addW_le W) (h3 i hi)⟩⟩
def doneT(code:Int)(D:MgrD)(q:Nat):MgrD:=if code≠0 then D.set (q-1) (endT (D.at_ q) 4 code) else { D.set (q-1) (endT (D.at_ q) 3 0) with last:=(D.at_ q).time }
def doneF(code:Int)(D:MgrD)(n:Nat):MgrD:=(D.queue.take n).foldl (doneT code) D
def doneD(code:Int)(D:MgrD)(n:Nat):MgrD:={ doneF code D n with queue:=D.queue.drop n,out:=0,num:=if code=0 then iAdd .i64 D.num 1 else D.num }
theorem doneT_queue(code:Int)(D:MgrD)(q:Nat):(doneT code D q).queue=D.queue∧(doneT code D q).out=D.out∧(doneT code D q).num=D.num∧(doneT code D q).txs.length=D.txs.length∧(doneT code D q).base=D.base∧(doneT code D q).given=D.given∧(doneT code D q).read=D.read:=by
 unfold doneT
 split <;> simp[MgrD.set]
theorem doneFold(code:Int):∀ (l:List Nat) (D:MgrD),(l.foldl (doneT code) D).queue=D.queue∧(l.foldl (doneT code) D).out=D.out∧(l.foldl (doneT code) D).num=D.num∧(l.foldl (doneT code) D).txs.length=D.txs.length∧(l.foldl (doneT code) D).base=D.base∧(l.foldl (doneT code) D).given=D.given∧(l.foldl (doneT code) D).read=D.read
 | [],D=>⟨rfl,rfl,rfl,rfl,rfl,rfl,rfl⟩
 | q::r,D=>by
   obtain⟨a,b,c,d,e,f,g⟩:=doneFold code r (doneT code D q)
   obtain⟨a',b',c',d',e',f',g'⟩:=doneT_queue code D q
   exact⟨a.trans a',b.trans b',c.trans c',d.trans d',e.trans e',f.trans f',g.trans g'⟩
theorem doneT_at{code:Int}{D:MgrD}{q p:Nat}(hq:1≤q)(hp:1≤p)(hne:p≠q):(doneT code D q).at_ p=D.at_ p:=by
 have:∀ t,(D.set (q-1) t).at_ p=D.at_ p:=fun t=>by
  unfold MgrD.at_ MgrD.set
  simp only[List.getD_eq_getElem?_getD]
  rw[List.getElem?_set_ne (by omega)]
 unfold doneT
 split
 ·exact this _
 ·exact this _
theorem doneFold_at{code:Int}:∀ (l:List Nat) (D:MgrD) {p:Nat},(∀ q∈l,1≤q)→1≤p→p ∉ l→(l.foldl (doneT code) D).at_ p=D.at_ p
 | [],D,p,_,_,_=>rfl
 | q::r,D,p,h,hp,hn=>by
   rw[List.foldl_cons,doneFold_at r _ (fun x hx=>h x (by simp[hx])) hp (fun hx=>hn (by simp[hx])),doneT_at (h q (by simp)) hp (fun e=>hn (by simp[e]))]
theorem doneF_succ{code:Int}{D:MgrD}{j:Nat}(hj:j<D.queue.length):doneF code D (j+1)=doneT code (doneF code D j) D.queue[j]:=by
 unfold doneF
 rw[List.take_succ_eq_append_getElem hj,List.foldl_append];rfl
def sDone:Kd→Prop
 | .one n=>n=3∨n=4∨n=5∨n=6∨n=7∨n=10
 | .tx n _=>n=1
 | .arr (.vers _) _=>True
 | _=>False
theorem sExt_done:∀ k,sExt k→sDone k
 | .one _,h=>by rcases h with h | h <;> simp[sDone,h]
 | .arr (.vers _) _,_=>trivial
theorem sEnd_done{j:Nat}:∀ k,sEnd j k→sDone k
 | .one _,h=>by rcases h with h | h <;> simp[sDone,h]
 | .tx _ _,h=>h.1
theorem s3_done:∀ k,k=Kd.one 3→sDone k:=fun k e=>by subst e;simp[sDone]
section
variable{G:Gh}{h:Hp}{M mb:Nat}{V:Prop}{D:MgrD}{em bk am:Nat}{q:Sl}{tb:Nat→Nat}
theorem MgrIn.own{D':MgrD}(t:HT G h)(x:MgrIn G h M mb V D em bk am q tb){h':Hp}(ht:D'.txs=D.txs)(hq:D'.queue=D.queue)(hs:h'.size=h.size)(ho:∀ k,k≠mb→h'[k]? = h[k]?)
 (hr:Row h' mb [pv em,pv bk,.map (some am),.slice q.base q.len q.cap,.int .i64 D'.out,.int .i64 D'.num,.int .i64 D'.base,.int .i64 D'.last,.int .i64 D'.given,.bool D'.read]):To (fun k=>k=.one 3) G h G h'∧MgrIn G h' M mb V D' em bk am q tb:=by
 have y:=t.toOther (S:=fun k=>k=.one 3) (b:=mb) (by rw[x.kd];exact⟨trivial,rfl⟩) (by rw[x.kd];exact id) (by omega) fun k _ hk=>ho k hk
 refine⟨y,x.kd,hr,x.ext.to y (Nat.le_refl _) id (by simp) (by simp),by rw[ht];exact x.book.to y (by simp) (by simp),x.kam,by rw[ht];exact y.blk x.all (by rw[x.kam];simp),by rw[hq];exact x.que.to y (by simp),fun j u hu=>?_⟩
 rw[ht]at hu
 exact(x.tx j u hu).to y (Nat.le_refl _) fun n hh=>by cases hh
theorem mBatch_spec(t:HT G h)(x:MgrIn G h M mb V D em bk am q tb)(hq:QOk D)(hl:D.queue.length≤1000000)(hp:∀ (j:Nat) (t:TxS),D.txs[j]? = some t→t.P.length≤1000000):HC Tryz.prog 58 #[pv mb] h fun r h'=>
 ∃ (G':Gh) (c:Int) (s:Sl) (n:Int) (D':MgrD),r=.tuple #[.agg #[.int .i64 n,.slice s.base s.len s.cap],.int .i64 c]∧To (fun k=>k=.one 3) G h G' h'∧G'.W=G.W∧MgrIn G' h' M mb V D' em bk am q tb∧
   ((c≠0∧D'=D∧(D.out=0→D.queue = []))∨(c=0∧D.queue ≠ []∧∃ k:Nat,1≤k∧k≤D.queue.length∧k≤8∧D' = { D with out:=k }∧TxsR (Stab G' h') h' s ((waitT D).take k)∧n=iAdd .i64 D.num 1)):=by
 apply wc58
 unfold vc58
 intro h1
 have e1:Ext h h1:=alc_ext _ _ _
 have r1:Row h1 h.size [.int .i64 0,.slice Sl.nil.base Sl.nil.len Sl.nil.cap]:=Row.alc _ _ _
 have x1:=x.ext' t e1
 have t1:=t.ext e1
 have kh:G.k h.size=.any:=t.fresh (Nat.le_refl _)
 have y1:To (fun k=>k=Kd.one 3) G h G h1:=e1.to t
 have hql:q.len=D.queue.length:=by have:=x.que.own.len;simpa using this.symm
 have kp:∀ {Gx:Gh} {hx hy:Hp},Gx.k h.size=.any→HT Gx hx→(∀ b,b≠h.size→hy[b]? = hx[b]?)→hy.size=hx.size →∀ {D':MgrD},MgrIn Gx hx M mb V D' em bk am q tb→MgrIn Gx hy M mb V D' em bk am q tb:=fun {Gx hx hy} k tx o z {D'} X=>by
  have f:∀ b,Gx.k b ≠ .any→hy[b]? = hx[b]?:=fun b hb=>o b fun e=>hb (by rw[e];exact k)
  refine⟨X.kd,X.row.eq (f _ (by rw[X.kd];simp)),?_,?_,X.kam,(f _ (by rw[X.kam];simp)).trans X.all,⟨X.que.own.eq fun a ha=>f _ (by rw[X.que.kd a ha];simp),X.que.kd⟩,fun j u hu=>?_⟩
  ·obtain⟨vm,vl,vc,la,r,k2,m,w⟩:=X.ext.map
   exact⟨X.ext.kd,vm,vl,vc,la,r.eq (f _ (by rw[X.ext.kd];simp)),k2,(f _ (by rw[k2];simp)).trans m,w⟩
  ·obtain⟨tm,tl,tc,r,k2,m,w⟩:=X.book.map
   exact⟨X.book.kd,tm,tl,tc,r.eq (f _ (by rw[X.book.kd];simp)),k2,(f _ (by rw[k2];simp)).trans m,w⟩
  ·obtain⟨bb,vb,r,xb,xv⟩:=(X.tx j u hu).row
   obtain⟨sb,rs,rr,a,l,s⟩:=xv.row
   exact⟨(X.tx j u hu).kd,bb,vb,r.eq (f _ (by rw[(X.tx j u hu).kd];simp)),xb.kp f,⟨xv.kd,sb,rs,rr.eq (f _ (by rw[xv.kd];simp)),a,l,s.kp (by simp) f⟩⟩
 have give:∀ {Gx:Gh} {hx:Hp} {old:List Value} {n c:Int} {s:Sl} {D':MgrD},To (fun k=>k=Kd.one 3) G h Gx hx→Gx.W=G.W→Gx.k h.size=.any→Row hx h.size old→old.length=2→MgrIn Gx hx M mb V D' em bk am q tb →
  (∀ hy,(∀ b,b≠h.size→hy[b]? = hx[b]?)→hy.size=hx.size→((c≠0∧D'=D∧(D.out=0→D.queue = []))∨(c=0∧D.queue ≠ []∧∃ k:Nat,1≤k∧k≤D.queue.length∧k≤8∧D' = { D with out:=k }∧TxsR (Stab Gx hy) hy s ((waitT D).take k)∧n=iAdd .i64 D.num 1))) →
  stCells (nw h) 0 [.int .i64 n,.slice s.base s.len s.cap] hx fun vh4=>∃ x4:Int,∃ x5:Sl,hY vh4 ((nw h))=some (.int .i64 x4)∧hY vh4 ((nw h).add 1)=some (.slice x5.base x5.len x5.cap)∧
   ∃ (G':Gh) (c':Int) (s:Sl) (n:Int) (D':MgrD),Value.tuple #[.agg #[.int .i64 x4,.slice x5.base x5.len x5.cap],.int .i64 c]=.tuple #[.agg #[.int .i64 n,.slice s.base s.len s.cap],.int .i64 c']∧To (fun k=>k=Kd.one 3) G h G' vh4∧G'.W=G.W∧MgrIn G' vh4 M mb V D' em bk am q tb∧
     ((c'≠0∧D'=D∧(D.out=0→D.queue = []))∨(c'=0∧D.queue ≠ []∧∃ k:Nat,1≤k∧k≤D.queue.length∧k≤8∧D' = { D with out:=k }∧TxsR (Stab G' vh4) vh4 s ((waitT D).take k)∧n=iAdd .i64 D.num 1)):=by
  intro Gx hx old n c s D' yx Wx kx rx lx X hc
  refine rx.put (vs:=[.int .i64 n,.slice s.base s.len s.cap]) (by simp[lx]) (by simp[cellOk]) fun hy ry zy oy=>⟨n,s,ry.get0 rfl,ry.get rfl,Gx,c,s,n,D',rfl,yx.own1 (Nat.le_refl _) kx (by omega) fun k _ hk=>oy k hk,Wx,kp kx yx.ht oy zy X,hc hy oy zy⟩
 refine(mGone_spec x1).mono ?_
 rintro _ _ ⟨rfl,rfl⟩
 refine⟨_,rfl,.ff ⟨_,rfl,_,x1.row.get rfl,IfB.dec (fun hpos=>?_) fun hnp=>⟨_,rfl,q,x1.row.get rfl,IfB.eq (fun h0=>?_) fun hne=>?_⟩⟩⟩
 ·exact give y1 rfl kh r1 rfl x1 fun hy _ _=>.inl ⟨by decide,rfl,fun e=>by omega⟩
 ·exact give y1 rfl kh r1 rfl x1 fun hy _ _=>.inl ⟨by decide,rfl,fun _=>List.eq_nil_of_length_eq_zero (by omega)⟩
 ·refine(mWaiting_spec t1 x1 hq hl).mono ?_
  rintro _ h2 ⟨s,G2,rfl,y2,W2,T2,l2,c2'⟩
  refine⟨s,rfl,(formN_spec T2 (fun i=>?_) (by simp[waitT];omega)).mono ?_⟩
  ·by_cases hi:i<(waitT D).length
   ·have hiq:i<D.queue.length:=by simpa [waitT] using hi
    rw[← pt_get hi]
    simp only[waitT,List.getElem_map]
    unfold MgrD.at_
    rw[List.getD_eq_getElem?_getD]
    cases hg:D.txs[D.queue[i] - 1]? with
    | none=>simp[TxS.none_]
    | some u=>exact hp _ u hg
   ·simp[pt,List.getElem?_eq_none (show(waitT D).length≤i by omega)]
  ·rintro _ h3 ⟨e3,n,rfl,hn1,hn8,hn⟩
   have hwl:(waitT D).length=D.queue.length:=by simp[waitT]
   have hne':D.queue ≠ []:=fun e=>hne (by rw[hql,e];rfl)
   have hn1':=hn (fun e=>hne' (List.eq_nil_of_length_eq_zero (by rw[← hwl,e];rfl)))
   have x2:=x1.pure y2
   have x3:=x2.ext' y2.ht e3
   have t3:=y2.ht.ext e3
   have y13:To (fun k=>k=Kd.one 3) G h G2 h3:=(y1.trans y2.sub).ext e3
   obtain⟨s4,r4,o4,z4⟩:=x3.row.set (i:=4) (by simp) (.int .i64 (n:Int))
   refine⟨_,rfl,_,rfl,s4,?_⟩
   obtain⟨y4,x4⟩:=x3.own t3 (D':={ D with out:=(n:Int) }) rfl rfl z4 o4 r4
   generalize hset h3 ((⟨mb,0,none⟩:Addr).add 4) (.int .i64 (n:Int))=h4 at *
   refine⟨_,rfl,_,x4.row.get rfl,_,rfl,_,x4.row.get rfl,by omega,(by show(0:Int)≤(n:Int);omega),(by show(n:Int)≤(s.cap:Int);omega),by omega,?_⟩
   have k2:G2.k h.size=.any:=by rw[y2.old _ r1.lt];exact kh
   have r4':=y4.row ((y2.row r1 id).ext e3) (by rw[k2];simp)
   have T3:=(T2.ext e3).mono (B':=StabK h1.size G2 h3) fun b hb=>⟨⟨Nat.lt_of_lt_of_le hb.1.1 e3.size,hb.1.2⟩,hb.2⟩
   have T4:=TxsR.toK y4 T3
   refine give (y13.trans y4) W2 k2 r4' rfl x4 fun hy oy zy=>.inr ⟨rfl,hne',n,hn1',by omega,hn8,rfl,?_,rfl⟩
   have s1:h1.size=h.size+1:=size_alc _ _ _
   have T5:TxsR (Stab G2 hy) hy s (waitT D):=(T4.eq fun b hb=>oy b fun e=>by
    subst e
    rcases hb.2 with h1 | h1
    ·omega
    ·exact h1 k2).mono fun b hb=>⟨by rw[zy];exact hb.1.1,hb.1.2⟩
   exact T5.cut0 (by omega) (by omega)
end
theorem TxsR.filt{G:Gh}{h:Hp}{S:Kd→Prop}{s:Sl}{T:List TxD}(p:TxsR (Stab G h) h s T):TxsR (Stab G h) (filt (kf G S) h) s T:=p.eq fun b hb=>filt_at (kf_stab hb.2)
theorem doneT_last(code:Int)(D:MgrD)(q:Nat):(doneT code D q).last=if code=0 then (D.at_ q).time else D.last:=by
 unfold doneT
 by_cases h:code=0 <;> simp[h,MgrD.set]
section
variable{G:Gh}{h:Hp}{M mb:Nat}{V:Prop}{D:MgrD}{em bk am:Nat}{q:Sl}{tb:Nat→Nat}
theorem mDone_spec(t:HT G h)(x:MgrIn G h M mb V D em bk am q tb)(hq:QOk D)(hnd:D.queue.Nodup)(hst:∀ p∈D.queue,(D.at_ p).state=2)(hl:D.queue.length≤1000){n:Nat}(hout:D.out=n)(hn1:1≤n)(hn:n≤D.queue.length)(hM:M+16*n≤1000000)(code:Int) :
 HC Tryz.prog 60 #[pv mb,.int .i64 code] h fun r h'=>∃ (G':Gh) (c:Int) (q':Sl),r=.int .i64 c∧To sDone G h G' h'∧(∀ a l,G'.W a l↔(G.W a l∨(code=0∧∃ p∈D.queue.take n,(a,l)∈(D.at_ p).P)))∧MgrIn G' h' (M+16*n) mb (V∨code=0) (doneD code D n) em bk am q' tb:=by
 apply wc60
 unfold vc60
 have y0:=t.addW (fun a l=>code=0∧∃ p∈D.queue.take n,(a,l)∈(D.at_ p).P)
 generalize hG0:G.addW (fun a l=>code=0∧∃ p∈D.queue.take n,(a,l)∈(D.at_ p).P)=G0 at y0
 have hW0:∀ a l,G0.W a l↔(G.W a l∨(code=0∧∃ p∈D.queue.take n,(a,l)∈(D.at_ p).P)):=fun a l=>by rw[← hG0];exact Iff.rfl
 have x0:=x.pure y0
 refine(mGone_spec x0).mono ?_
 rintro _ _ ⟨rfl,rfl⟩
 rename_i h
 refine⟨_,rfl,.ff ⟨_,rfl,_,x0.row.get rfl,IfB.no (by rw[hout];simp;omega) ⟨_,rfl,_,x0.row.get rfl,(mWaiting_spec y0.ht x0 hq (by omega)).mono ?_⟩⟩⟩
 rintro _ h1 ⟨s,G1,rfl,y1,W1,T1,l1,c1⟩
 have hql:q.len=D.queue.length:=by have:=x.que.own.len;simpa using this.symm
 have hqc:=x.que.own.le
 have x1:=x0.pure y1
 have hwl:(waitT D).length=D.queue.length:=by simp[waitT]
 rw[hout]
 refine⟨s,rfl,y1.toExt,by omega,by omega,by omega,by omega,_,rfl,q,x1.row.get rfl,_,rfl,_,x1.row.get rfl,by omega,by rw[hout];omega,by rw[hout];omega,by omega,?_⟩
 rw[hout]
 have rq:Rd 1 h1 (cutSl q (0:Int) (n:Int) (q.cap:Int) 1) (((D.queue.take n).map fun(p:Nat)=>(p:Int)).map (.int .i64)):=by
  have:=x1.que.own.toRd.cut (lo:=0) (hi:=n) (m:=q.cap) (by omega) (by omega) (by omega)
  have e:(((D.queue.map fun(p:Nat)=>Value.int .i64 (p:Int)).drop (0*1)).take ((n-0)*1))=((D.queue.take n).map fun(p:Nat)=>(p:Int)).map (.int .i64):=by
   simp[List.map_take,Function.comp_def]
  rw[e]at this
  exact this
 refine(iClone_spec rq (by simp;omega)).mono ?_
 rintro _ h2 ⟨qc,rfl,oc,lc,e2⟩
 have lc':qc.len=n:=by rw[lc];simp;omega
 have t1:=y1.ht
 have t2:=t1.ext e2
 have y02:To sDone G h G1 h2:=((y0.trans y1).ext e2).sub
 have x2:=x1.ext' t1 e2
 have T2:TxsR (Stab G1 h2) h2 s (waitT D):=(T1.stab.ext e2).mono fun b hb=>⟨Nat.lt_of_lt_of_le hb.1 e2.size,hb.2⟩
 have N2:OwnN 0 1 G1 h2 qc (((D.queue.take n).map fun(p:Nat)=>(p:Int)).map (.int .i64)):=oc.toN t1 (Nat.zero_le _)
 refine⟨qc,rfl,e2,fun i m h'=>∃ (j:Nat) (G':Gh),i=j∧m+j=n∧To sDone G h G' h'∧G'.W=G0.W∧MgrIn G' h' (M+16*j) mb (V∨code=0) (doneF code D j) em bk am q tb∧TxsR (Stab G' h') h' s (waitT D)∧OwnN 0 1 G' h' qc (((D.queue.take n).map fun(p:Nat)=>(p:Int)).map (.int .i64)),
  n,⟨0,G1,rfl,rfl,y02,W1,?_,T2,N2⟩,?_⟩
 ·have:MgrIn G1 h2 M mb (V∨code=0) D em bk am q tb:=⟨x2.kd,x2.row,x2.ext.to (.refl t2 (S:=fun _=>False)) (Nat.le_refl _) .inl id id,x2.book,x2.kam,x2.all,x2.que,x2.tx⟩
  simpa [doneF] using this
 rintro _ _ m h3 ⟨j,G3,rfl,hm,y3,W3,x3,T3,N3⟩
 have fo:=doneFold code (D.queue.take j) D
 refine IfB.dec (fun hlt=>?_) (fun hge=>?_)
 ·have hj:j<n:=by omega
  have hjq:j<D.queue.length:=by omega
  obtain⟨hp1,hp2⟩:=hq _ (List.getElem_mem hjq)
  have hnin:D.queue[j] ∉ D.queue.take j:=by
   intro hin
   obtain⟨i,hi,e⟩:=List.mem_iff_getElem.1 hin
   rw[List.length_take]at hi
   rw[List.getElem_take]at e
   have:=(List.getElem_inj hnd).1 e
   omega
  have hat:(doneF code D j).at_ D.queue[j]=D.at_ D.queue[j]:=doneFold_at _ _ (fun p hp=>(hq p (List.mem_of_mem_take hp)).1) hp1 hnin
  have hpj:D.queue[j] - 1<(doneF code D j).txs.length:=by
   show _<((D.queue.take j).foldl (doneT code) D).txs.length
   rw[fo.2.2.2.1];omega
  have htx:(doneF code D j).txs[D.queue[j] - 1]? = some (D.at_ D.queue[j]):=by
   rw[← hat]
   unfold MgrD.at_
   rw[List.getD_eq_getElem?_getD,List.getElem?_eq_getElem hpj];rfl
  have hlive:(D.at_ D.queue[j]).live := .inr (hst _ (List.getElem_mem hjq))
  have hpe:(D.queue[j]:Int)=((D.queue[j] - 1+1:Nat):Int):=by omega
  have hmul:M+16*(j+1)≤M+16*n:=by omega
  refine ix1 N3.own.rd (by simp;omega) j rfl (by simp;omega) fun a _ hc=>⟨((D.queue[j] - 1+1:Nat):Int),?_,?_⟩
  ·rw[hc];simp;omega
  refine IfB.ne (fun hne=>?_) (fun he=>?_)
  ·refine(mEnd_spec y3.ht x3 htx hlive (.inr rfl:(4:Nat)=3∨4=4) code).mono ?_
   rintro _ h4 ⟨G4,rfl,y4,W4,x4⟩
   refine⟨rfl,m-1,by omega,j+1,G4,by rw[iAdd64 (by omega)];push_cast;rfl,by omega,y3.trans (y4.mono sEnd_done),W4.trans W3,?_,T3.to y4,N3.to y4⟩
   rw[doneF_succ hjq]
   have e:doneT code (doneF code D j) D.queue[j]=(doneF code D j).set (D.queue[j] - 1) (endT (D.at_ D.queue[j]) 4 code):=by
    unfold doneT;rw[if_pos hne,hat]
   rw[e]
   exact x4.to (.refl y4.ht (S:=fun _=>False)) (by omega) fun _ _ h=>h
  ·subst he
   have rR:=x3.row.filt (P:=kf G3 sExt) (kf_yes (by rw[x3.kd];simp[sExt]))
   have Tc:=T3.cut0 (n:=n) (m:=s.cap) (by omega) (by omega)
   have TR:=TxsR.filt (S:=sExt) Tc
   have hwj:j<((waitT D).take n).length:=by rw[List.length_take];omega
   have hwe:((waitT D).take n)[j]=((D.at_ D.queue[j]).time,(D.at_ D.queue[j]).P):=by simp[waitT]
   obtain⟨bb,vb,_,xb,_⟩:=(x3.tx _ _ htx).row
   have hb16:=xb.len
   refine⟨filt (kf G3 sExt) h3,sub_kf _ _ _,_,rfl,_,rR.get0 rfl,?_⟩
   refine TR.ix j rfl hwj fun a6 d6 c0 c1' pR=>?_
   rw[hwe]at c0 pR
   simp only at c0 pR
   refine⟨_,d6,c0,c1',?_⟩
   have p6:PutsR (Stab G3 h3) h3 d6 (D.at_ D.queue[j]).P:=pR.eq fun b hb=>(filt_at (kf_stab hb.2)).symm
   obtain⟨vm,vl,vc,la,rem,_⟩:=x3.ext.map
   refine(eApply_spec y3.ht x3.ext (D.at_ D.queue[j]).time la (rem.get rfl) p6 xb.ok (by omega) (by omega) fun z hz=>?_).mono ?_
   ·rw[W3,hW0]
    refine .inr ⟨rfl,D.queue[j],?_,hz⟩
    rw[List.mem_take_iff_getElem]
    exact⟨j,by omega,rfl⟩
   rintro _ h5 ⟨G5,cc,rfl,y5,xe5,W5,_⟩
   have T5:=T3.to y5
   have Tc5:=T5.cut0 (n:=n) (m:=s.cap) (by omega) (by omega)
   refine⟨cc,rfl,y5.kf,?_⟩
   refine Tc5.ix j rfl hwj fun a7 d7 f0 f1 _=>?_
   rw[hwe]at f0
   simp only at f0
   refine⟨_,f0,_,rfl,?_⟩
   have x5:MgrIn G5 h5 (M+16*(j+1)) mb (V∨(0:Int)=0) (doneF 0 D j) em bk am q tb:=
    ⟨y5.kd x3.kd (by simp),y5.rowK x3.row x3.kd (by simp[sExt]),xe5.to (.refl y5.ht (S:=fun _=>False)) (by omega) (fun _=>.inr rfl) id id,x3.book.to y5 (by simp[sExt]) (by simp[sExt]),y5.kd x3.kam (by simp),y5.blk x3.all (by rw[x3.kam];simp[sExt]),x3.que.to y5 (by simp[sExt]),fun i u hu=>(x3.tx i u hu).to y5 (by omega) fun n hh=>hh⟩
   obtain⟨s6,r6,o6,z6⟩:=x5.row.set (i:=7) (by simp) (.int .i64 (D.at_ D.queue[j]).time)
   refine⟨s6,?_⟩
   obtain⟨y6,x6⟩:=x5.own y5.ht (D':={ doneF 0 D j with last:=(D.at_ D.queue[j]).time }) rfl rfl z6 o6 r6
   generalize hset h5 ((⟨mb,0,none⟩:Addr).add 7) (.int .i64 (D.at_ D.queue[j]).time)=h6 at *
   refine(mEnd_spec y6.ht x6 htx hlive (.inl rfl:(3:Nat)=3∨3=4) 0).mono ?_
   rintro _ h7 ⟨G7,rfl,y7,W7,x7⟩
   refine⟨rfl,m-1,by omega,j+1,G7,by rw[iAdd64 (by omega)];push_cast;rfl,by omega,((y3.trans (y5.mono sExt_done)).trans (y6.mono s3_done)).trans (y7.mono sEnd_done),W7.trans (W5.trans W3),?_,(T5.to y6).to y7,((N3.to y5).to y6).to y7⟩
   rw[doneF_succ hjq]
   have e:doneT 0 (doneF 0 D j) D.queue[j]=({ doneF 0 D j with last:=(D.at_ D.queue[j]).time }:MgrD).set (D.queue[j] - 1) (endT (D.at_ D.queue[j]) 3 0):=by
    unfold doneT;rw[if_neg (by simp),hat];rfl
   rw[e]
   exact x7
 ·obtain rfl:j=n:=by omega
  have hqj:(doneF code D j).queue=D.queue:=fo.1
  have hoj:(doneF code D j).out=j:=fo.2.1.trans hout
  have hnj:(doneF code D j).num=D.num:=fo.2.2.1
  have fin:∀ {Gx:Gh} {hx:Hp} (D2:MgrD),To sDone G h Gx hx→Gx.W=G0.W→MgrIn Gx hx (M+16*j) mb (V∨code=0) D2 em bk am q tb→D2.queue=D.queue→D2.out=j →{ D2 with queue:=D.queue.drop j,out:=0 }=doneD code D j →
   ∃ a12:Addr,(some ⟨mb,0,none⟩:Option Addr)=some a12∧∃ c14:Sl,hY hx (a12.add 3)=some (.slice c14.base c14.len c14.cap)∧∃ a12:Addr,(some ⟨mb,0,none⟩:Option Addr)=some a12∧∃ c15:Int,hY hx (a12.add 4)=some (.int .i64 c15)∧0≤c15∧c15≤(c14.len:Int)∧(c14.len:Int)≤(c14.cap:Int)∧(c14.cap:Int)≤(c14.cap:Int)∧
     HC Tryz.prog 114 #[.slice (cutSl c14 c15 (c14.len:Int) (c14.cap:Int) 1).base (cutSl c14 c15 (c14.len:Int) (c14.cap:Int) 1).len (cutSl c14 c15 (c14.len:Int) (c14.cap:Int) 1).cap] hx fun r6 vh9=>
     ∃ c16:Sl,r6=.slice c16.base c16.len c16.cap∧Ext hx vh9∧∃ a13:Addr,(some ⟨mb,0,none⟩:Option Addr)=some a13∧StOk vh9 (a13.add 3)∧Lt (hset vh9 (a13.add 3) (.slice c16.base c16.len c16.cap)) fun vh10=>
     ∃ a14:Addr,(some ⟨mb,0,none⟩:Option Addr)=some a14∧StOk vh10 (a14.add 4)∧Lt (hset vh10 (a14.add 4) (.int .i64 (0:Int))) fun vh11=>
     ∃ (G':Gh) (c:Int) (q':Sl),Value.int .i64 (0:Int)=.int .i64 c∧To sDone G h G' vh11∧(∀ a l,G'.W a l↔(G.W a l∨(code=0∧∃ p∈D.queue.take j,(a,l)∈(D.at_ p).P)))∧MgrIn G' vh11 (M+16*j) mb (V∨code=0) (doneD code D j) em bk am q' tb:=by
   intro Gx hx D2 yx Wx X q2 o2 hD
   have rX:=X.row
   have rq:Rd 1 hx (cutSl q (j:Int) (q.len:Int) (q.cap:Int) 1) (((D.queue.drop j).map fun(p:Nat)=>(p:Int)).map (.int .i64)):=by
    have:=X.que.own.toRd.cut (lo:=j) (hi:=q.len) (m:=q.cap) (by omega) (Nat.le_refl _) hqc
    rw[q2]at this
    have e:(((D.queue.map fun(p:Nat)=>Value.int .i64 (p:Int)).drop (j*1)).take ((q.len-j)*1))=((D.queue.drop j).map fun(p:Nat)=>(p:Int)).map (.int .i64):=by
     rw[Nat.mul_one,Nat.mul_one,List.take_of_length_le (by simp;omega)]
     simp[List.map_drop,Function.comp_def]
    rw[e]at this
    exact this
   refine⟨_,rfl,q,rX.get rfl,_,rfl,D2.out,rX.get rfl,?_⟩
   rw[o2]
   refine⟨by omega,by omega,by omega,by omega,(iClone_spec rq (by simp;omega)).mono ?_⟩
   rintro _ h9 ⟨u,rfl,o9,l9,e9⟩
   have t9:=yx.ht.ext e9
   have X9:=X.ext' yx.ht e9
   have n9:OwnN hx.size 1 Gx h9 u (((D.queue.drop j).map fun(p:Nat)=>(p:Int)).map (.int .i64)):=o9.toN yx.ht (Nat.le_refl _)
   obtain⟨G9,y9,k9,W9⟩:=OwnN.kind (k := .one 10) id (by simp) (e9.to yx.ht (S:=fun _=>False)) n9
   have X9':=X.pure y9
   obtain⟨s10,r10,o10,z10⟩:=X9'.row.set (i:=3) (by simp) (.slice u.base u.len u.cap)
   refine⟨u,rfl,e9,_,rfl,s10,?_⟩
   have y10:To (fun k=>k=Kd.one 3) G9 h9 G9 (hset h9 ((⟨mb,0,none⟩:Addr).add 3) (.slice u.base u.len u.cap)):=y9.ht.toOther (b:=mb) (by rw[X9'.kd];exact⟨trivial,rfl⟩) (by rw[X9'.kd];exact id) (by rw[z10];exact Nat.le_refl _) fun k _ hk=>o10 k hk
   generalize hset h9 ((⟨mb,0,none⟩:Addr).add 3) (.slice u.base u.len u.cap)=h10 at *
   simp only[List.set_cons_zero,List.set_cons_succ]at r10
   obtain⟨s11,r11,o11,z11⟩:=r10.set (i:=4) (by simp) (.int .i64 (0:Int))
   refine⟨_,rfl,s11,?_⟩
   have y11:To (fun k=>k=Kd.one 3) G9 h10 G9 (hset h10 ((⟨mb,0,none⟩:Addr).add 4) (.int .i64 (0:Int))):=y10.ht.toOther (b:=mb) (by rw[X9'.kd];exact⟨trivial,rfl⟩) (by rw[X9'.kd];exact id) (by rw[z11];exact Nat.le_refl _) fun k _ hk=>o11 k hk
   generalize hset h10 ((⟨mb,0,none⟩:Addr).add 4) (.int .i64 (0:Int))=h11 at *
   simp only[List.set_cons_zero,List.set_cons_succ]at r11
   have yy:=y10.trans y11
   refine⟨G9,0,u,rfl,(yx.trans y9.sub).trans (yy.mono s3_done),fun a l=>by rw[W9,Wx];exact hW0 a l,?_⟩
   rw[← hD]
   exact⟨X9'.kd,r11,X9'.ext.to yy (Nat.le_refl _) id (by simp) (by simp),X9'.book.to yy (by simp) (by simp),X9'.kam,yy.blk X9'.all (by rw[X9'.kam];simp),by
    have:=k9.to yy (by simp)
    rw[List.map_map]at this
    exact this,fun i v hv=>(X9'.tx i v hv).to yy (Nat.le_refl _) fun n hh=>by cases hh⟩
  refine IfB.eq (fun he=>?_) (fun hne=>?_)
  ·obtain⟨s8,r8,o8,z8⟩:=x3.row.set (i:=5) (by simp) (.int .i64 (iAdd .i64 (doneF code D j).num (1:Int)))
   refine⟨_,rfl,_,x3.row.get rfl,_,rfl,s8,?_⟩
   obtain⟨y8,x8⟩:=x3.own y3.ht (D':={ doneF code D j with num:=iAdd .i64 (doneF code D j).num (1:Int) }) rfl rfl z8 o8 r8
   generalize hset h3 ((⟨mb,0,none⟩:Addr).add 5) (.int .i64 (iAdd .i64 (doneF code D j).num (1:Int)))=h8 at *
   exact fin _ (y3.trans (y8.mono s3_done)) W3 x8 hqj hoj (by unfold doneD;rw[if_pos he,hnj])
  ·exact fin _ y3 W3 x3 hqj hoj (by unfold doneD;rw[if_neg hne,← hnj])
end
theorem mNew_spec{G:Gh}{h:Hp}(t:HT G h)(M:Nat)(V:Prop){last:Int}(hla:0≤last∧last≤1099511627776):HC Tryz.prog 74 #[.int .i64 258,.int .i64 last] h fun r h'=>∃ (mb:Nat) (G':Gh) (em bk am:Nat),r=.tuple #[pv mb,.int .i64 0]∧To (fun _=>False) G h G' h'∧G'.W=G.W∧MgrIn G' h' M mb V ⟨[],[],0,0,last,last,last,false⟩ em bk am Sl.nil id∧hY h' ((⟨em,0,none⟩:Addr).add 2)=some (.int .i64 0)∧NoVers h' em∧h.size≤mb:=by
 apply wc74
 unfold vc74
 refine(eNew_spec t M V).mono ?_
 rintro _ h1 ⟨em,G1,rfl,y1,xe1,W1,_,la1,nv1⟩
 refine⟨_,_,rfl,IfB.no rfl (IfB.dec (fun hh=>by omega) fun _=>IfB.dec (fun hh=>by omega) fun _=>(kNew_spec y1.ht).mono ?_)⟩
 rintro _ h2 ⟨bk,G2,rfl,y2,xk2,W2,_⟩
 refine⟨_,rfl,?_⟩
 have y12:=y1.trans y2
 have e3:Ext h2 (h2.push (mapO [] 0)):=Ext.push _ _
 have s3:(h2.push (mapO [] 0)).size=h2.size+1:=by simp
 have r4:Row (alc (h2.push (mapO [] 0)) [pv em,pv bk,.map (some h2.size),.slice Sl.nil.base Sl.nil.len Sl.nil.cap,.int .i64 0,.int .i64 0,.int .i64 last,.int .i64 last,.int .i64 last,.bool false] 159) (h2.size+1) [pv em,pv bk,.map (some h2.size),.slice Sl.nil.base Sl.nil.len Sl.nil.cap,.int .i64 0,.int .i64 0,.int .i64 last,.int .i64 last,.int .i64 last,.bool false]:=by rw[← s3];exact Row.alc _ _ _
 have m4:(alc (h2.push (mapO [] 0)) [pv em,pv bk,.map (some h2.size),.slice Sl.nil.base Sl.nil.len Sl.nil.cap,.int .i64 0,.int .i64 0,.int .i64 last,.int .i64 last,.int .i64 last,.bool false] 159)[h2.size]? = some (mapO [] 0):=by rw[alc_old _ _ _ (by simp)];simp
 have e4:=e3.trans (alc_ext (h2.push (mapO [] 0)) [pv em,pv bk,.map (some h2.size),.slice Sl.nil.base Sl.nil.len Sl.nil.cap,.int .i64 0,.int .i64 0,.int .i64 last,.int .i64 last,.int .i64 last,.bool false] 159)
 obtain⟨y3,k3,W3⟩:=y2.ht.kindNew e4 (b:=h2.size) (Nat.le_refl _) (blk_lt m4) (k := .one 9) id
 have kb:(G2.set h2.size (.one 9) 0).k (h2.size+1)=.any:=by rw[Gh.set_ne (by omega)];exact y2.ht.fresh (by omega)
 have t4:=y3.ht.setOne kb r4.lt (k := .one 3) id
 have y24:=y3.give (G':=(G2.set h2.size (.one 9) 0).set (h2.size+1) (.one 3) ((G2.set h2.size (.one 9) 0).n (h2.size+1))) (Gh.set_le kb (Nat.le_refl _)) t4 (s:=⟨some ⟨h2.size+1,0,none⟩,0,0⟩) (fun a ha=>by cases ha;show h2.size≤h2.size+1;omega) fun b hb=>Gh.set_ne (hb _ rfl)
 have y04:=y12.trans y24
 have y14:=y2.trans y24
 obtain⟨vm,vl,vc,la',rem,_⟩:=xe1.map
 refine⟨h2.size+1,_,em,bk,h2.size,?_,y04,W2.trans W1,⟨Gh.set_k,r4,xe1.to y14 (Nat.le_refl _) id id id,?_,by rw[Gh.set_ne (by omega)];exact k3,m4,OwnK.nil _ _ _ _,fun j u hu=>by simp at hu⟩,?_,?_,by have:=y12.size;omega⟩
 ·show Value.tuple #[.pointer (some (nw (h2.push (mapO [] 0)))),.int .i64 0]=_
  unfold nw pv;rw[s3]
 ·refine(xk2.to y24 id id).eq fun k=>⟨fun h=>h.elim,?_⟩
  rintro⟨j,u,hu,_⟩
  simp at hu
 ·have h0:=rem.get (i:=2) rfl
  rw[la1]at h0
  have:=(y14.toExt.cell la1)
  exact this
 ·exact NoVers.ext (G:=G1) xe1 nv1 y14.toExt
theorem mLoad_spec{G:Gh}{h:Hp}{M mb:Nat}{V:Prop}{last:Int}{em bk am:Nat}(t:HT G h)(x:MgrIn G h M mb V ⟨[],[],0,0,last,last,last,false⟩ em bk am Sl.nil id)(hla:hY h ((⟨em,0,none⟩:Addr).add 2)=some (.int .i64 0)){s:Sl}{P:List PutD}(p:PutsR (Stab G h) h s P)(ok:PutsOk P)(hP:P.length≤258)(hM:M+258≤1000000)(hW:∀ q∈P,G.W q.1 q.2)(hl:0≤last∧last≤1099511627776)(hne:P ≠ []→1≤last) :
 HC Tryz.prog 76 #[pv mb,.slice s.base s.len s.cap] h fun r h'=>∃ G':Gh,r=.int .i64 0∧To sExt G h G' h'∧G'.W=G.W∧MgrIn G' h' (M+258) mb (V∨1≤last) ⟨[],[],0,0,last,last,last,false⟩ em bk am Sl.nil id∧(P = []→NoVers h em→NoVers h' em):=by
 apply wc76
 unfold vc76
 refine(mGone_spec x).mono ?_
 rintro _ _ ⟨rfl,rfl⟩
 rename_i h
 have hlen:=p.len
 have up:∀ {M':Nat},M≤M'→MgrIn G h M' mb (V∨1≤last) ⟨[],[],0,0,last,last,last,false⟩ em bk am Sl.nil id:=fun {M'} hM'=>⟨x.kd,x.row,x.ext.to (.refl t (S:=fun _=>False)) hM' .inl id id,x.book,x.kam,x.all,x.que,fun j u hu=>by simp at hu⟩
 refine⟨_,rfl,.ff ⟨_,rfl,_,x.row.get rfl,[],0,x.all,IfB.dec (fun hh=>absurd hh (by decide)) fun _=>⟨_,rfl,_,x.row.get rfl,IfB.eq (fun h0=>IfB.dec (fun hpos=>?_) fun hnp=>IfB.eq (fun _=>?_) fun hn0=>?_) fun hn0=>IfB.eq (fun hz=>?_) fun hz=>?_⟩⟩⟩
 ·have:P ≠ []:=fun e=>by rw[e]at hlen;simp at hlen;omega
  have:=hne this
  have h0:last=0:=h0
  omega
 ·exact⟨G,rfl,.refl t,rfl,up (by omega),fun _ h=>h⟩
 ·exfalso;omega
 ·exact⟨G,rfl,.refl t,rfl,up (by omega),fun _ h=>h⟩
 ·have hPne:P ≠ []:=fun e=>by rw[e]at hlen;simp at hlen;omega
  have rR:=x.row.filt (P:=kf G sExt) (kf_yes (by rw[x.kd];simp[sExt]))
  refine⟨filt (kf G sExt) h,sub_kf _ _ _,_,rfl,_,rR.get0 rfl,_,rfl,_,rR.get rfl,(eApply_spec t x.ext last 0 hla p ok (by omega) (by omega) hW).mono ?_⟩
  rintro _ h2 ⟨G2,c,rfl,y2,xe2,W2,hc⟩
  have:=hc ⟨hPne,by have:=hne hPne;omega,hl.2⟩
  subst this
  refine⟨0,rfl,y2.kf,G2,rfl,y2,W2,?_,fun e=>absurd e hPne⟩
  exact⟨y2.kd x.kd (by simp),y2.rowK x.row x.kd (by simp[sExt]),xe2.to (.refl y2.ht (S:=fun _=>False)) (by omega) (fun _=>.inr (hne hPne)) id id,x.book.to y2 (by simp[sExt]) (by simp[sExt]),y2.kd x.kam (by simp),y2.blk x.all (by rw[x.kam];simp[sExt]),x.que.to y2 (by simp[sExt]),fun j u hu=>by simp at hu⟩
theorem ZoneIn.ownRows{F:Nat→Nat}{h:Hp}{k b:Nat}{z:Zn}{bs:Sl}{rows:List (Sl × List UInt8)}(x:ZoneIn F h k b z bs rows)(hd:∀ c,F c≠0→c<h.size):OwnRows 0 h bs rows:=
 ⟨x.own,x.each,fun p hp a ha=>⟨Nat.zero_le _,hd _ (by rw[x.base p hp a ha];omega),fun a' ha' e=>by
  have h1:=x.base p hp a ha
  have h2:=x.arr a' ha'
  rw[e]at h1;omega⟩⟩
open Classical in
noncomputable def Dv.append (d:Dv) (i:Int) (p:List UInt8):(Int × Int) × Dv:=
 if ¬ (0≤i∧i<d.n) then ((0,1),d) else
 if p.length≠64 then ((0,3),d) else
 if d.dead=true then ((0,12),d.tick) else
 if d.size≤(d.z i.toNat).rows.length then ((0,9),d.tick) else
 (((d.z i.toNat).rows.length,0),d.tick.setZ i.toNat ⟨(d.z i.toNat).rows ++ [p],(d.z i.toNat).good⟩)
theorem begun{lo:Nat}{F:Nat→Nat}{h h':Hp}{db:Nat}{d d':Dv}{zs:Sl}{zb:List Nat}(x:DevIn lo F h db d zs zb)(w:d'.Wf)(x':DevIn lo F h' db d' zs zb)(hs:h'.size=h.size)(hh:∀ c,c≠db→h'[c]? = h[c]?):DevTo lo F h h' db d':=
 .of ⟨w,zs,zb,x'⟩ ⟨by omega,fun b _ hF=>hh b fun e=>by rw[e,x.role]at hF;omega⟩
theorem Append_spec{lo:Nat}{F:Nat→Nat}{h:Hp}{db:Nat}{d:Dv}(x:DevAt lo F h db d)(hlo:lo≤h.size)(i:Int){p:Sl}{l:List UInt8}(rp:Rd 1 h p (l.map bv))(hp:∀ a,p.base=some a→F a.block=0) :
 HC Tryz.prog 112 #[dp db,.int .i64 i,.slice p.base p.len p.cap] h fun r h'=>
  r=.tuple #[.int .i64 (d.append i l).1.1,.int .i64 (d.append i l).1.2]∧DevTo lo F h h' db (d.append i l).2:=by
 obtain⟨w,zs,zb,x⟩:=x
 apply wc112
 unfold vc112 Dv.append
 have lp:=rp.lenB
 have same:DevTo lo F h h db d := .of ⟨w,zs,zb,x⟩ (.refl _ _)
 refine(at_spec w x i).mono ?_
 rintro _ h ⟨rfl,⟨hn,rfl⟩ | ⟨k,hk,rfl,hkn,rfl⟩⟩
 ·rw[if_pos hn];exact⟨_,rfl,.yes rfl ⟨rfl,same⟩⟩
 rw[if_neg (by omega)]
 refine⟨_,rfl,.no rfl (IfB.ne (fun h64=>?_) (fun h64=>?_))⟩
 ·rw[if_pos (by omega)];exact⟨rfl,same⟩
 have hl64:l.length=64:=by omega
 rw[if_neg (by omega)]
 refine(begin_spec w x).mono ?_
 rintro _ h1 ⟨rfl,x1,s1,o1⟩
 refine⟨_,rfl,IfB.intro (fun hd=>?_) (fun hd=>?_)⟩
 ·rw[if_pos (by simpa using hd)];exact⟨rfl,begun x w.tick x1 s1 o1⟩
 rw[if_neg (by simpa using hd)]
 obtain⟨bs,rows,y⟩:=x1.zone k hk
 have hyl:=y.slen
 have hz:(d.tick.z k)=d.z k:=rfl
 rw[hz]at y hyl
 have hwz:=w.zone k
 refine⟨_,rfl,bs,y.row.get0 rfl,_,rfl,_,x1.row.get rfl,IfB.dec (fun hfull=>?_) (fun hfull=>?_)⟩
 ·rw[Int.toNat_natCast,if_pos (by have:(d.tick.size:Int)=d.size:=rfl;omega)];exact⟨rfl,begun x w.tick x1 s1 o1⟩
 rw[Int.toNat_natCast]
 have hroom:(d.z k).rows.length<d.size:=by have:(d.tick.size:Int)=d.size:=rfl;omega
 rw[if_neg (by omega)]
 have hsz:=w.size
 obtain⟨ob,hob,rob⟩:=y.row.only
 have hrole:=y.role
 have rp1:Rd 1 h1 p (l.map bv):=rp.eq fun a ha=>o1 _ fun e=>by have:=hp a ha;rw[e,x.role]at this;omega
 refine⟨onlyB zb[k] ob,sub_only hob,_,rfl,bs,rob.get0 rfl,?_⟩
 refine(slClone_spec rp1 (by omega)).mono ?_
 rintro _ h2 ⟨u,rfl,ou,lu,e2⟩
 have hzlt:zb[k]<h1.size:=y.row.lt
 refine⟨_,rfl,sub_only (by rw[e2.block _ hzlt,hob]),?_⟩
 intro h3
 have e3:Ext h2 h3:=alc_ext _ _ _
 refine⟨sub_only (by rw[e3.block _ (Nat.lt_of_lt_of_le hzlt e2.size),e2.block _ hzlt,hob]),?_⟩
 have hd1:∀ c,F c≠0→c<h1.size:=fun c hc=>(x1.dom c hc).2
 refine OwnRows.push (lo:=0) rfl (y.ownRows hd1) (Nat.zero_le _) e2 ou (by omega) (fun r h4 or lr k4 x4 b4=>?_) (by omega)
 have hnb:∀ a,bs.base=some a→zb[k]≠a.block:=fun a ha e=>by have:=y.arr a ha;rw[← e,hrole]at this;omega
 have z4:h4[zb[k]]? = h1[zb[k]]?:=x4 _ hzlt hnb
 refine⟨sub_only (by rw[z4,hob]),_,rfl,?_⟩
 obtain⟨ok5,r5,x5,s5⟩:=(y.row.eq z4).set0 (by simp[znV]) (.slice r.base r.len r.cap)
 refine⟨ok5,?_⟩
 generalize hset h4 ⟨zb[k],0,none⟩ (.slice r.base r.len r.cap)=h5 at *
 have r5:Row h5 zb[k] (znV r (d.z k).good):=r5
 refine⟨_,rfl,r,r5.get0 rfl,?_⟩
 have e1r:iSub .i64 (r.len:Int) 1=((d.z k).rows.length:Int):=by rw[iSub64 (by omega)];omega
 refine⟨by rw[e1r],?_⟩
 obtain⟨F1,f1,f2,f3,f4⟩:=addF (n:=h1.size) hd1 u.base 3 (by omega) (fun a ha=>.inl (ou.lt ha).1)
 have hd2:∀ c,F1 c≠0→c<h2.size:=fun c hc=>by
  rcases f3 c hc with h | ⟨a,ha,rfl⟩
  ·have:=hd1 c h;have:=e2.size;omega
  ·exact(ou.lt ha).2
 obtain⟨F2,g1,g2,g3,g4⟩:=addF (n:=h2.size) hd2 r.base (5+2*k) (by omega) (fun a ha=>by
  rcases b4 a ha with h | h
  ·exact .inr (by rw[f1 _ (hd1 _ (by rw[y.arr a h];omega)),y.arr a h])
  ·exact .inl h)
 have hF:∀ c,F c≠0→F2 c=F c:=fun c hc=>by rw[g4 c (by rw[f4 c hc];exact hc),f4 c hc]
 have hFl:∀ c,c<h1.size→F2 c=F c:=fun c hc=>by rw[g1 c (by have:=e2.size;omega),f1 c hc]
 have s45:h1.size≤h4.size:=k4.size
 have hrb:∀ a,r.base=some a→a.block<h4.size:=fun a ha=>(or.own.lt ha).2
 refine⟨F2,⟨w.tick.setZ k ⟨?_,?_,?_⟩,zs,zb,x1.zput hk hF ?_ ⟨r,rows ++ [(u,l)],?_,r5,?_,g2,?_,?_,?_⟩ ?_⟩,fun b hb=>hFl b (by omega),⟨by omega,fun b hb hFb=>?_⟩⟩
 ·show((d.z k).rows ++ [l]).length≤d.size;simp;omega
 ·show(d.z k).good≤((d.z k).rows ++ [l]).length;simp;have:=hwz.good;omega
 ·intro q hq
  rcases List.mem_append.1 hq with hq | hq
  ·exact hwz.each q hq
  ·simp only[List.mem_cons,List.not_mem_nil,or_false]at hq;subst hq;exact hl64
 ·intro b hb
  rcases g3 b hb with h | ⟨a,ha,rfl⟩
  ·rcases f3 b h with h | ⟨a,ha,rfl⟩
   ·have:=x1.dom b h;exact⟨this.1,by omega⟩
   ·have h1:=ou.lt ha
    have h2:=or.base (u,l) (by simp) a ha
    exact⟨by omega,by omega⟩
  ·have:=hrb a ha
   rcases b4 a ha with h | h
   ·have:=x1.dom _ (by rw[y.arr a h];omega);exact⟨this.1,by omega⟩
   ·have:=e2.size;exact⟨by omega,by omega⟩
 ·rw[hF _ (by rw[hrole];omega),hrole]
 ·refine or.own.eq fun a ha=>x5 _ fun e=>?_
  have h1:=g2 a ha
  rw[e,hF _ (by rw[hrole];omega),hrole]at h1;omega
 ·rw[List.map_append,← y.eq];rfl
 ·intro q hq
  refine(or.each q hq).eq fun a ha=>x5 _ fun e=>?_
  rcases List.mem_append.1 hq with hq | hq
  ·have:=y.base q hq a ha;rw[e,hrole]at this;omega
  ·simp only[List.mem_cons,List.not_mem_nil,or_false]at hq;subst hq
   have:=(ou.lt ha).1;omega
 ·intro q hq a ha
  rcases List.mem_append.1 hq with hq | hq
  ·rw[hF _ (by rw[y.base q hq a ha];omega),y.base q hq a ha]
  ·simp only[List.mem_cons,List.not_mem_nil,or_false]at hq;subst hq
   rw[g4 _ (by rw[f2 a ha];omega),f2 a ha]
 ·intro c hc h1 h2
  rw[x5 c fun e=>h1 (by rw[e,hrole]),x4 c (hd1 c hc) fun a ha e=>h2 (by rw[e,y.arr a ha])]
 ·have hb1:b<h1.size:=by omega
  rw[x5 b fun e=>by rw[e,hrole]at hFb;omega,x4 b hb1 fun a ha e=>by rw[e,y.arr a ha]at hFb;omega,o1 b fun e=>by rw[e,x.role]at hFb;omega]
theorem DevIn.zset{lo:Nat}{F:Nat→Nat}{h:Hp}{db:Nat}{d:Dv}{zs:Sl}{zb:List Nat}(x:DevIn lo F h db d zs zb){k:Nat}(hk:k<zb.length){z:Zn}{h':Hp}{bs:Sl}{rows:List (Sl × List UInt8)}
 (hr:Row h' zb[k] (znV bs z.good)) (hs:h'.size=h.size) (hh:∀ c,c≠zb[k]→h'[c]? = h[c]?) (hb:Own 0 1 h bs (rows.map fun p=>slV p.1)) (harr:∀ a,bs.base=some a→F a.block=5+2*k) (heq:z.rows=rows.map (·.2))
 (each:∀ p∈rows,Rd 1 h p.1 (p.2.map bv)) (base:∀ p∈rows,∀ a,p.1.base=some a→F a.block=3):DevIn lo F h' db (d.setZ k z) zs zb:=by
 obtain⟨_,_,y⟩:=x.zone k hk
 have hrole:=y.role
 have ne:∀ c,F c≠4+2*k→c≠zb[k]:=fun c hc e=>hc (by rw[e,hrole])
 exact x.zput hk (fun _ _=>rfl) (fun b hb=>by rw[hs];exact x.dom b hb) ⟨bs,rows,hrole,hr,hb.eq fun a ha=>hh _ (ne _ (by rw[harr a ha];omega)),harr,heq,fun p hp=>(each p hp).eq fun a ha=>hh _ (ne _ (by rw[base p hp a ha];omega)),base⟩ fun c _ h1 _=>hh c (ne c h1)
open Classical in
noncomputable def Dv.reset (d:Dv) (i:Int):Int × Dv:=
 if ¬ (0≤i∧i<d.n) then (1,d) else if d.dead=true then (12,d.tick) else (0,d.tick.setZ i.toNat ⟨[],0⟩)
theorem Reset_spec{lo:Nat}{F:Nat→Nat}{h:Hp}{db:Nat}{d:Dv}(x:DevAt lo F h db d)(i:Int) :
 HC Tryz.prog 106 #[dp db,.int .i64 i] h fun r h'=>r=.int .i64 (d.reset i).1∧DevTo lo F h h' db (d.reset i).2:=by
 obtain⟨w,zs,zb,x⟩:=x
 apply wc106
 unfold vc106 Dv.reset
 have same:DevTo lo F h h db d := .of ⟨w,zs,zb,x⟩ (.refl _ _)
 refine(at_spec w x i).mono ?_
 rintro _ h ⟨rfl,⟨hn,rfl⟩ | ⟨k,hk,rfl,hkn,rfl⟩⟩
 ·rw[if_pos hn];exact⟨_,rfl,.yes rfl ⟨rfl,same⟩⟩
 rw[if_neg (by omega)]
 refine⟨_,rfl,.no rfl ?_⟩
 refine(begin_spec w x).mono ?_
 rintro _ h1 ⟨rfl,x1,s1,o1⟩
 refine⟨_,rfl,IfB.intro (fun hd=>?_) (fun hd=>?_)⟩
 ·rw[if_pos (by simpa using hd)];exact⟨rfl,begun x w.tick x1 s1 o1⟩
 rw[if_neg (by simpa using hd),Int.toNat_natCast]
 obtain⟨bs,rows,y⟩:=x1.zone k hk
 have hrole:=y.role
 refine⟨_,rfl,y.row.put (vs:=znV Sl.nil 0) rfl (by simp[znV,cellOk]) fun h2 r2 s2 o2=>⟨rfl,?_⟩⟩
 refine .of ⟨w.tick.setZ k ⟨Nat.zero_le _,Nat.zero_le _,fun p hp=>by simp at hp⟩,zs,zb,x1.zset hk r2 s2 o2 (rows:=[]) (Own.nil _ _ _) (fun a ha=>by cases ha) rfl (fun p hp=>by simp at hp) (fun p hp=>by simp at hp)⟩ ⟨by omega,fun b hb hF=>?_⟩
 rw[o2 b fun e=>by rw[e,hrole]at hF;omega,o1 b fun e=>by rw[e,x.role]at hF;omega]
def Dv.flushed(d:Dv):Dv:={ d with zs:=d.zs.map fun z=>⟨z.rows,z.rows.length⟩ }
open Classical in
noncomputable def Dv.flush (d:Dv):Int × Dv:=if d.dead=true then (12,d.tick) else (0,d.tick.flushed)
theorem Dv.Wf.flushed{d:Dv}(w:d.Wf):d.flushed.Wf:=
 ⟨by simp[Dv.flushed,w.n],w.zones,w.size,w.left,fun z hz=>by
  obtain⟨y,hy,rfl⟩:=List.mem_map.1 hz
  have:=w.each y hy
  exact⟨this.rows,Nat.le_refl _,this.each⟩⟩
def Dv.flushN(d:Dv)(j:Nat):Dv:={ d with zs:=(d.zs.take j).map (fun z=>⟨z.rows,z.rows.length⟩)++d.zs.drop j }
theorem Dv.flushN_succ(d:Dv){j:Nat}(hj:j<d.zs.length):d.flushN (j+1)=(d.flushN j).setZ j ⟨(d.z j).rows,(d.z j).rows.length⟩∧(d.flushN j).z j=d.z j:=by
 have hl:((d.zs.take j).map (fun z:Zn=>(⟨z.rows,z.rows.length⟩:Zn))).length=j:=by simp;omega
 have hz:=d.z_get hj
 constructor
 ·unfold Dv.flushN Dv.setZ
  simp only
  rw[List.set_append_right _ _ (by omega),hl,Nat.sub_self,List.drop_eq_getElem_cons hj,List.set_cons_zero,List.take_succ_eq_append_getElem hj,List.map_append,List.append_assoc,hz]
  rfl
 ·unfold Dv.z Dv.flushN
  simp only[List.getD_eq_getElem?_getD]
  rw[List.getElem?_append_right (by omega),hl,Nat.sub_self,List.getElem?_drop,Nat.add_zero]
theorem Flush_spec{lo:Nat}{F:Nat→Nat}{h:Hp}{db:Nat}{d:Dv}(x:DevAt lo F h db d) :
 HC Tryz.prog 113 #[dp db] h fun r h'=>r=.int .i64 d.flush.1∧DevTo lo F h h' db d.flush.2:=by
 obtain⟨w,zs,zb,x⟩:=x
 apply wc113
 unfold vc113 Dv.flush
 refine(goneA_spec w x).mono ?_
 rintro _ h ⟨rfl,rfl⟩
 refine⟨_,rfl,.ff ?_⟩
 refine(begin_spec w x).mono ?_
 rintro _ h1 ⟨rfl,x1,s1,o1⟩
 refine⟨_,rfl,IfB.intro (fun hd=>?_) (fun hd=>?_)⟩
 ·rw[if_pos (by simpa using hd)];exact⟨rfl,begun x w.tick x1 s1 o1⟩
 rw[if_neg (by simpa using hd)]
 have hzl:zs.len=d.zs.length:=by have:=x.own.len;have:=x.len;simp at *;omega
 have hzn:=x.len
 have hn:=w.n
 have hz64:=w.zones
 refine⟨_,rfl,zs,x1.row.get rfl,?_⟩
 refine⟨fun i m h'=>∃ j:Nat,i=j∧m+j=d.zs.length∧DevIn lo F h' db (d.tick.flushN j) zs zb∧h'.size=h.size∧∀ b,F b=0→h'[b]? = h[b]?,d.zs.length,⟨0,rfl,rfl,?_,s1,fun b hF=>o1 b fun e=>by rw[e,x.role]at hF;omega⟩,?_⟩
 ·have:d.tick.flushN 0=d.tick:=by simp[Dv.flushN]
  rw[this];exact x1
 rintro _ _ m h2 ⟨j,rfl,hm,x2,s2,o2⟩
 refine IfB.dec (fun hlt=>?_) (fun hge=>?_)
 ·have hj:j<d.zs.length:=by omega
  have hk:j<zb.length:=by omega
  refine ix1 x2.own.rd (by simp;omega) j rfl (by simpa using hk) fun a _ hc=>⟨some ⟨zb[j],0,none⟩,by simpa [pv] using hc,?_⟩
  obtain⟨bs,rows,y⟩:=x2.zone j hk
  obtain⟨e1,e2⟩:=d.tick.flushN_succ hj
  have hzj:(d.tick.flushN j).z j=d.z j:=e2
  rw[hzj]at y
  have hrole:=y.role
  obtain⟨ok,r3,o3,s3⟩:=y.row.set (i:=1) (by simp[znV]) (.int .i64 (bs.len:Int))
  refine⟨_,rfl,bs,y.row.get0 rfl,_,rfl,ok,m-1,by omega,j+1,by rw[iAdd64 (by omega)];push_cast;rfl,by omega,?_,by rw[s3,s2],fun b hF=>by rw[o3 b fun e=>by rw[e,hrole]at hF;omega,o2 b hF]⟩
  rw[e1]
  refine x2.zset hk (z:=⟨(d.z j).rows,(d.z j).rows.length⟩) (bs:=bs) (rows:=rows) ?_ s3 o3 y.own y.arr y.eq y.each y.base
  have:znV bs (d.z j).rows.length=(znV bs (d.z j).good).set 1 (.int .i64 (bs.len:Int)):=by simp[znV,y.slen.1]
  rw[this];exact r3
 ·have hj:j=d.zs.length:=by omega
  subst hj
  have:d.tick.flushN d.zs.length=d.tick.flushed:=by
   unfold Dv.flushN Dv.flushed
   have h1:(d.tick.zs.take d.zs.length)=d.tick.zs:=List.take_of_length_le (Nat.le_refl _)
   have h2:(d.tick.zs.drop d.zs.length) = []:=List.drop_eq_nil_of_le (Nat.le_refl _)
   rw[h1,h2,List.append_nil]
  rw[this]at x2
  exact⟨rfl,.of ⟨w.tick.flushed,zs,zb,x2⟩ ⟨by omega,fun b _ hF=>o2 b hF⟩⟩
def Dv.read1(d:Dv):Dv:={ d with reads:=iAdd .i64 d.reads 1 }
open Classical in
noncomputable def Dv.read (d:Dv) (i a:Int):(List UInt8 × Int) × Dv:=
 if ¬ (0≤i∧i<d.n) then (([],1),d) else if ¬ (0≤a∧a<(d.z i.toNat).rows.length) then (([],14),d) else (((d.z i.toNat).rows.getD a.toNat [],0),d.read1)
theorem Read_spec{lo:Nat}{F:Nat→Nat}{h:Hp}{db:Nat}{d:Dv}(x:DevAt lo F h db d)(i a:Int) :
 HC Tryz.prog 123 #[dp db,.int .i64 i,.int .i64 a] h fun r h'=>∃ s:Sl,r=.tuple #[.slice s.base s.len s.cap,.int .i64 (d.read i a).1.2]∧Own h.size 1 h' s ((d.read i a).1.1.map bv)∧s.len=(d.read i a).1.1.length∧
  DevAt lo F h' db (d.read i a).2∧Chg F h h':=by
 obtain⟨w,zs,zb,x⟩:=x
 apply wc123
 unfold vc123 Dv.read
 have hr0:∀ {c:Int} {h:Hp},DevIn lo F h db d zs zb →∃ s:Sl,Value.tuple #[.slice Sl.nil.base Sl.nil.len Sl.nil.cap,.int .i64 c]=.tuple #[.slice s.base s.len s.cap,.int .i64 c]∧Own h.size 1 h s (([]:List UInt8).map bv)∧s.len=([]:List UInt8).length∧DevAt lo F h db d∧Chg F h h:=fun x=>⟨Sl.nil,rfl,Own.nil _ _ _,rfl,⟨w,zs,zb,x⟩,.refl _ _⟩
 refine(at_spec w x i).mono ?_
 rintro _ h ⟨rfl,⟨hn,rfl⟩ | ⟨k,hk,rfl,hkn,rfl⟩⟩
 ·rw[if_pos hn];exact⟨_,rfl,.yes rfl (hr0 x)⟩
 rw[if_neg (by omega),Int.toNat_natCast]
 obtain⟨bs,rows,y⟩:=x.zone k hk
 have hyl:=y.slen
 refine⟨_,rfl,.no rfl (IfB.dec (fun hneg=>?_) (fun hneg=>⟨_,rfl,bs,y.row.get0 rfl,IfB.dec (fun hbig=>?_) (fun hbig=>?_)⟩))⟩
 ·rw[if_pos (by omega)];exact hr0 x
 ·rw[if_pos (by omega)];exact hr0 x
 rw[if_neg (by omega)]
 obtain⟨q,rfl⟩:∃ q:Nat,a=q:=⟨a.toNat,by omega⟩
 rw[Int.toNat_natCast]
 obtain⟨ok,r1,o1,s1⟩:=x.row.set (i:=4) (by simp[dvV]) (.int .i64 (iAdd .i64 d.reads 1))
 refine⟨_,rfl,_,x.row.get rfl,_,rfl,ok,?_⟩
 generalize hset h ((⟨db,0,none⟩:Addr).add 4) (.int .i64 (iAdd .i64 d.reads 1))=h1 at *
 have x1:DevIn lo F h1 db d.read1 zs zb:=x.put (d':=d.read1) rfl r1 s1 o1
 have w1:d.read1.Wf:=⟨w.n,w.zones,w.size,w.left,w.each⟩
 obtain⟨bs',rows',y1⟩:=x1.zone k hk
 have hyl1:=y1.slen
 have hz1:(d.read1.z k)=d.z k:=rfl
 rw[hz1]at y1 hyl1
 refine⟨_,rfl,bs',y1.row.get0 rfl,?_⟩
 refine ixS y1.own.rd hyl1.2 q rfl (by omega) ?_
 have hq:q<rows'.length:=by omega
 have hg:(d.z k).rows.getD q []=rows'[q].2:=by rw[y1.eq];simp[hq]
 rw[hg]
 have hmem:rows'[q]∈rows':=List.getElem_mem hq
 have hl64:(rows'[q]).2.length=64:=(w.zone k).each _ (by rw[y1.eq];exact List.mem_map_of_mem hmem)
 refine(slClone_spec (y1.each _ hmem) (by omega)).mono ?_
 rintro _ h2 ⟨u,rfl,ou,lu,e2⟩
 refine⟨u,rfl,u,rfl,by rw[← s1];exact ou,lu,DevAt.ext ⟨w1,zs,zb,x1⟩ e2,⟨by have:=e2.size;omega,fun b hb hF=>?_⟩⟩
 rw[e2.block b (by omega),o1 b fun e=>by rw[e,x.role]at hF;omega]
def Dv.cutAt(d:Dv)(n:Int):Dv:={ d with cut:=true,left:=(max n 0).toNat }
theorem Cut_spec{lo:Nat}{F:Nat→Nat}{h:Hp}{db:Nat}{d:Dv}(x:DevAt lo F h db d){n:Int}(hn:n<9223372036854775808) :
 HC Tryz.prog 32 #[dp db,.int .i64 n] h fun r h'=>r=.tuple #[]∧DevAt lo F h' db (d.cutAt n)∧Chg F h h':=by
 obtain⟨w,zs,zb,x⟩:=x
 apply wc32
 unfold vc32
 refine(goneA_spec w x).mono ?_
 rintro _ h ⟨rfl,rfl⟩
 obtain⟨ok1,r1,o1,s1⟩:=x.row.set (i:=5) (by simp[dvV]) (.bool true)
 refine⟨_,rfl,.yes rfl ⟨_,rfl,ok1,?_⟩⟩
 generalize hset h ((⟨db,0,none⟩:Addr).add 5) (.bool true)=h1 at *
 obtain⟨ok2,r2,o2,s2⟩:=r1.set (i:=6) (by simp[dvV]) (.int .i64 (if n<(0:Int) then (0:Int) else n))
 refine⟨_,rfl,ok2,rfl,⟨⟨w.n,w.zones,w.size,?_,w.each⟩,zs,zb,x.put (d':=d.cutAt n) rfl ?_ (by rw[s2,s1]) fun c hc=>by rw[o2 c hc,o1 c hc]⟩,⟨by rw[s2,s1];exact Nat.le_refl _,fun b hb hF=>?_⟩⟩
 ·show(max n 0).toNat<_;omega
 ·have e:(if n<(0:Int) then (0:Int) else n)=(((max n 0).toNat:Nat):Int):=by split <;> omega
  rw[e]at r2 ⊢
  exact r2
 ·have hb:b≠db:=fun e=>by rw[e,x.role]at hF;omega
  rw[o2 b hb,o1 b hb]
theorem Row.get2{h:Hp}{b:Nat}{x y:Int}(r:Row h b [.int .i64 x,.int .i64 y]){K:Int→Int→Prop}(hK:K x y) :
 ∃ c:Int,∃ c1:Int,hY h ⟨b,0,none⟩=some (.int .i64 c)∧hY h ((⟨b,0,none⟩:Addr).add 1)=some (.int .i64 c1)∧K c c1:=⟨x,y,r.get0 rfl,r.get rfl,hK⟩
theorem Geometry_spec{lo:Nat}{F:Nat→Nat}{h:Hp}{db:Nat}{d:Dv}(x:DevAt lo F h db d) :
 HC Tryz.prog 66 #[dp db] h fun r h'=>r=.agg #[.int .i64 (d.n:Int),.int .i64 (d.size:Int)]∧Ext h h':=by
 obtain⟨w,zs,zb,x⟩:=x
 apply wc66
 unfold vc66
 intro h1
 have e1:Ext h h1:=alc_ext _ _ _
 have r1:Row h1 h.size [.int .i64 (0:Int),.int .i64 (0:Int)]:=Row.alc _ _ _
 have x1:=x.ext e1
 refine(goneA_spec w x1).mono ?_
 rintro _ h2 ⟨rfl,rfl⟩
 refine⟨_,rfl,.ff ⟨_,rfl,_,_,x1.row.get0 rfl,x1.row.get rfl,?_⟩⟩
 refine r1.put (vs:=[.int .i64 (d.n:Int),.int .i64 (d.size:Int)]) rfl (by simp[cellOk]) fun h3 r3 s3 o3=>r3.get2 ⟨rfl,?_⟩
 exact⟨by rw[s3];exact e1.size,fun b hb=>by rw[o3 b (by omega),e1.block b hb]⟩
theorem emod_of_tmod{k n:Int}(hn:0<n):k % n=if k.tmod n<0 then k.tmod n+n else k.tmod n:=by
 have h1:=Int.emod_nonneg k (show n≠0 by omega)
 have h2:=Int.emod_lt_of_pos k hn
 have h3:=Int.tmod_eq_emod (a:=k) (b:=n)
 split <;> split at h3 <;> omega
theorem Round_spec(k n:Int)(hn:0<n)(hn2:n≤9223372036854775807)(h:Hp):HC Tryz.prog 85 #[.int .i64 k,.int .i64 n] h fun r h'=>r=.int .i64 (k % n)∧h'=h:=by
 apply wc85
 unfold vc85
 have e:=emod_of_tmod (k:=k) hn
 have h1:=Int.emod_nonneg k (show n≠0 by omega)
 have h2:=Int.emod_lt_of_pos k hn
 refine⟨by omega,?_⟩
 unfold iRem
 refine IfB.dec (fun hlt=>?_) (fun hge=>?_)
 ·rw[if_pos hlt]at e
  rw[iAdd64 (by omega)]
  exact⟨by rw[e],rfl⟩
 ·rw[if_neg hge]at e
  exact⟨by rw[e],rfl⟩
end Go.Proofs.YtdpdkpfnfllipaaGreatDoor

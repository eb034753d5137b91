/- A part of the proof, no condition. -/
import Derived.Test.YtdpdkpfnfllipaaGreatDoorN12
import Derived.Test.YtdpdkpfnfllipaaGreatDoorN13
import Derived.Test.YtdpdkpfnfllipaaGreatDoorN15
set_option linter.unusedVariables false
set_option linter.unusedSimpArgs false
namespace Go.Proofs.YtdpdkpfnfllipaaGreatDoor
def devK:Kd→Nat
 | .dev n=>n
 | _=>0
def devF(G:Gh):Nat→Nat:=fun b=>devK (G.k b)
def isDev:Kd→Prop
 | .dev _=>True
 | _=>False
theorem devK_is{k:Kd}(h:devK k≠0):isDev k:=by cases k <;> first | trivial | exact absurd rfl h
theorem devK_mut{k:Kd}(h:devK k≠0):Mut k∧¬ Told k:=by cases k <;> first | exact⟨trivial,fun h=>h⟩ | exact absurd rfl h
theorem devK_not{k:Kd}(h:¬ isDev k):devK k=0:=by cases k <;> first | rfl | exact absurd trivial h
def Gh.dev(G:Gh)(n:Nat)(F:Nat→Nat):Gh:=⟨fun b=>if b<n then G.k b else if F b=0 then .any else .dev (F b),G.n,G.W⟩
theorem Gh.dev_old{G:Gh}{n:Nat}{F:Nat→Nat}{b:Nat}(h:b<n):(G.dev n F).k b=G.k b:=if_pos h
theorem Gh.dev_new{G:Gh}{n:Nat}{F:Nat→Nat}{b:Nat}(h:¬ b<n):(G.dev n F).k b=if F b=0 then .any else .dev (F b):=if_neg h
theorem devTo{S:Kd→Prop}{G:Gh}{h h':Hp}{F:Nat→Nat}(t:HT G h)(hd:∀ b,F b≠0→b<h'.size)(hs:h.size≤h'.size)(g:∀ b,b<h.size→F b=devF G b)(c:∀ b,b<h.size→devF G b=0 →¬ S (G.k b)→h'[b]? = h[b]?)
 (hS:∀ k,S k→Mut k∧¬ Told k):To (fun k=>isDev k∨S k) G h (G.dev h.size F) h'∧devF (G.dev h.size F)=F:=by
 have told:∀ b,Told ((G.dev h.size F).k b)→b<h.size∧(G.dev h.size F).k b=G.k b∧h'[b]? = h[b]?:=fun b hb=>by
  by_cases hlt:b<h.size
  ·rw[Gh.dev_old hlt]at hb ⊢
   refine⟨hlt,rfl,c b hlt ?_ fun hk=>(hS _ hk).2 hb⟩
   rcases Nat.eq_zero_or_pos (devF G b) with h0 | h0
   ·exact h0
   ·exact absurd hb (devK_mut (show devK (G.k b)≠0 by unfold devF at h0;omega)).2
  ·rw[Gh.dev_new hlt]at hb
   split at hb <;> exact hb.elim
 have le:G.Le (G.dev h.size F):=⟨fun b hb=>Gh.dev_old (t.dom b hb),fun _=>Nat.le_refl _,fun _ _ h=>h⟩
 refine⟨⟨le,fun b hb=>Gh.dev_old hb,hs,fun b hb hn=>?_,fun b hb=>?_,fun b hb=>?_,fun b l hb=>?_,fun b L hb=>?_,fun b a N hb=>?_⟩,?_⟩
 ·refine c b hb ?_ fun hk=>hn ⟨(hS _ hk).1,.inr hk⟩
  rcases Nat.eq_zero_or_pos (devF G b) with h0 | h0
  ·exact h0
  ·have h1:devK (G.k b)≠0:=by unfold devF at h0;omega
   exact absurd ⟨(devK_mut h1).1,.inl (devK_is h1)⟩ hn
 ·by_cases hlt:b<h.size
  ·omega
  ·rw[Gh.dev_new hlt]at hb
   exact hd b fun e=>hb (if_pos e)
 ·show G.n b=0
  by_cases hlt:b<h.size
  ·rw[Gh.dev_old hlt]at hb;exact t.n0 b hb
  ·exact t.n0 b (t.fresh (by omega))
 ·obtain⟨h1,h2,h3⟩:=told b (by rw[hb];trivial)
  rw[h3];exact t.bytes b l (by rw[← h2];exact hb)
 ·obtain⟨h1,h2,h3⟩:=told b (by rw[hb];trivial)
  rw[h3]
  obtain⟨q,r⟩:=t.puts b L (by rw[← h2];exact hb)
  exact⟨q,fun x hx=>(r x hx).mono le⟩
 ·obtain⟨h1,h2,h3⟩:=told b (by rw[hb];trivial)
  obtain⟨q,c,e,r1,r2,r3⟩:=t.arr b a N (by rw[← h2];exact hb)
  exact⟨q,c,e,by rw[h3];exact r1,r2,fun i hi=>okE_mono le (r3 i hi)⟩
 ·funext b
  by_cases hlt:b<h.size
  ·show devK ((G.dev h.size F).k b)=_
   rw[Gh.dev_old hlt,g b hlt];rfl
  ·show devK ((G.dev h.size F).k b)=_
   rw[Gh.dev_new hlt]
   split
   ·rename_i e;rw[e];rfl
   ·rfl
theorem DevTo.to{G:Gh}{h h':Hp}{db:Nat}{d':Dv}(t:HT G h)(x:DevTo 0 (devF G) h h' db d'):∃ G',To isDev G h G' h'∧G'.W=G.W∧DevAt 0 (devF G') h' db d':=by
 obtain⟨F',x',g,c⟩:=x
 obtain⟨y,e⟩:=devTo (S:=fun _=>False) t (fun b hb=>(x'.dom b hb).2) c.size g (fun b hb hF _=>c.block b hb hF) (fun _ h=>h.elim)
 exact⟨_,y.mono fun k hk=>hk.elim id False.elim,rfl,by rw[e];exact x'⟩
theorem DevAt.to{S:Kd→Prop}{G G':Gh}{h h':Hp}{db:Nat}{d:Dv}(x:DevAt 0 (devF G) h db d)(y:To S G h G' h')(hS:∀ k,isDev k →¬ S k):DevAt 0 (devF G') h' db d:=by
 have dom:=x.dom
 obtain⟨w,zs,zb,x⟩:=x
 have old:∀ b,devF G b≠0→b<h.size∧G'.k b=G.k b:=fun b hb=>⟨(dom b hb).2,y.old b (dom b hb).2⟩
 refine⟨w,zs,zb,x.move (fun b hb=>by unfold devF;rw[(old b hb).2]) (fun b hb=>⟨Nat.zero_le _,y.ht.dom b fun e=>hb (by unfold devF;rw[e];rfl)⟩) fun b hb=>y.fr b (old b hb).1 fun q=>hS _ (devK_is hb) q.2⟩
structure StD where
 dv:Dv
 inn:Nat
 count:Nat
 tx:List UInt8
 pos:Nat
 num:Nat
 off:Bool
 D:MgrD
def StD.S(X:StD):SlV:=⟨0,3,6,96,X.inn,X.count,false⟩
def stV(db mb lb pos num:Nat)(off:Bool):List Value:=[dp db,.int .i64 (0:Int),.int .i64 (3:Int),.int .i64 (6:Int),.int .i64 (7:Int),pv mb,sp lb,.int .i64 (pos:Int),.int .i64 (num:Int),.bool off]
structure StIn(G:Gh)(h:Hp)(M sb:Nat)(X:StD)(db lb mb:Nat)(ts:Sl)(em bk am:Nat)(q:Sl)(tb:Nat→Nat):Prop where
 kd:G.k sb=.one 2
 row:Row h sb (stV db mb lb X.pos X.num X.off)
 dev:DevAt 0 (devF G) h db X.dv
 kl:G.k lb=.one 8
 sl:SlotAt (devF G) h lb db X.S X.tx ts
 tst:∀ a,ts.base=some a→Stab G h a.block
 mgr:MgrIn G h M mb (1≤X.D.last) X.D em bk am q tb
 tlo:∀ a,ts.base=some a→sb<a.block
def StAt(G:Gh)(h:Hp)(M sb db:Nat)(X:StD):Prop:=∃ lb mb ts em bk am q tb,StIn G h M sb X db lb mb ts em bk am q tb
def sStO(k:Kd):Prop:=isDev k∨k=.one 2∨k=.one 8
section
variable{G:Gh}{h:Hp}{M sb:Nat}{X:StD}{db lb mb:Nat}{ts:Sl}{em bk am:Nat}{q:Sl}{tb:Nat→Nat}
theorem SlotAt.to{S:Kd→Prop}{G':Gh}{h':Hp}{V:SlV}{tx:List UInt8}(x:SlotAt (devF G) h lb db V tx ts)(kl:G.k lb=.one 8)(tst:∀ a,ts.base=some a→Stab G h a.block)(y:To S G h G' h')(hS:¬ S (.one 8)):SlotAt (devF G') h' lb db V tx ts∧G'.k lb=.one 8∧∀ a,ts.base=some a→Stab G' h' a.block:=by
 have kl':=y.kd kl (by simp)
 refine⟨⟨by unfold devF;rw[kl'];rfl,y.rowK x.row kl hS,x.text.eq fun a ha=>(y.stab (tst a ha)).1,fun a ha=>?_⟩,kl',fun a ha=>(y.stab (tst a ha)).2⟩
 obtain⟨h1,h2,h3⟩:=x.tb a ha
 exact⟨by unfold devF;rw[y.old _ h2];exact h1,Nat.lt_of_lt_of_le h2 y.size,h3⟩
theorem StIn.mg{S:Kd→Prop}{G':Gh}{h':Hp}{M':Nat}{D':MgrD}{em' bk' am':Nat}{q':Sl}{tb':Nat→Nat}(x:StIn G h M sb X db lb mb ts em bk am q tb)(y:To S G h G' h')(hS:∀ k,sStO k →¬ S k)(m:MgrIn G' h' M' mb (1≤D'.last) D' em' bk' am' q' tb') :
 StIn G' h' M' sb { X with D:=D' } db lb mb ts em' bk' am' q' tb':=by
 obtain⟨s1,s2,s3⟩:=x.sl.to x.kl x.tst y (hS _ (.inr (.inr rfl)))
 exact⟨y.kd x.kd (by simp),y.rowK x.row x.kd (hS _ (.inr (.inl rfl))),x.dev.to y fun k hk=>hS k (.inl hk),s2,s1,s3,m,x.tlo⟩
theorem StIn.to{S:Kd→Prop}{G':Gh}{h':Hp}{M':Nat}(x:StIn G h M sb X db lb mb ts em bk am q tb)(y:To S G h G' h')(hM:M≤M')(hS:∀ k,sStO k∨sMgr k →¬ S k):StIn G' h' M' sb X db lb mb ts em bk am q tb:=
 x.mg y (fun k hk=>hS k (.inl hk)) (x.mgr.to y hM fun k hk=>hS k (.inr hk))
theorem StIn.pure{G':Gh}{h':Hp}(x:StIn G h M sb X db lb mb ts em bk am q tb)(y:To (fun _=>False) G h G' h'):StIn G' h' M sb X db lb mb ts em bk am q tb:=x.to y (Nat.le_refl _) fun _ _ h=>h
theorem StIn.dv'{S:Kd→Prop}{G':Gh}{h':Hp}{d':Dv}(x:StIn G h M sb X db lb mb ts em bk am q tb)(y:To S G h G' h')(hS:∀ k,S k→isDev k)(d:DevAt 0 (devF G') h' db d'):StIn G' h' M sb { X with dv:=d' } db lb mb ts em bk am q tb:=by
 obtain⟨s1,s2,s3⟩:=x.sl.to x.kl x.tst y fun h=>hS _ h
 exact⟨y.kd x.kd (by simp),y.rowK x.row x.kd fun h=>hS _ h,d,s2,s1,s3,x.mgr.to y (Nat.le_refl _) fun k hk hs=>by
  have:=hS k hs
  cases k <;> first | exact this | exact hk,x.tlo⟩
theorem sDead_spec(x:StIn G h M sb X db lb mb ts em bk am q tb):HC Tryz.prog 57 #[pv sb] h fun r h'=>r=.bool X.off∧h'=h:=by
 apply wc57
 unfold vc57
 exact .no rfl ⟨_,rfl,_,x.row.get0 rfl,.no rfl ⟨_,rfl,_,x.row.get rfl,rfl,rfl⟩⟩
theorem sManager_spec(x:StIn G h M sb X db lb mb ts em bk am q tb):HC Tryz.prog 39 #[pv sb] h fun r h'=>r=pv mb∧h'=h:=by
 apply wc39
 unfold vc39
 exact .no rfl ⟨_,rfl,_,x.row.get rfl,rfl,rfl⟩
theorem sLast_spec(x:StIn G h M sb X db lb mb ts em bk am q tb):HC Tryz.prog 135 #[pv sb] h fun r h'=>r=.int .i64 X.D.last∧h'=h:=by
 apply wc135
 unfold vc135
 refine(sManager_spec x).mono ?_
 rintro _ _ ⟨rfl,rfl⟩
 refine⟨_,rfl,(mLast_spec x.mgr).mono ?_⟩
 rintro _ _ ⟨rfl,rfl⟩
 exact⟨_,rfl,rfl,rfl⟩
theorem sQueue_spec(x:StIn G h M sb X db lb mb ts em bk am q tb):HC Tryz.prog 17 #[pv sb] h fun r h'=>r=.int .i64 (X.D.queue.length:Int)∧h'=h:=by
 apply wc17
 unfold vc17
 refine(sManager_spec x).mono ?_
 rintro _ _ ⟨rfl,rfl⟩
 refine⟨_,rfl,(mQueue_spec x.mgr).mono ?_⟩
 rintro _ _ ⟨rfl,rfl⟩
 exact⟨_,rfl,rfl,rfl⟩
theorem sOpen_spec(t:HT G h)(x:StIn G h M sb X db lb mb ts em bk am q tb)(hn:X.D.txs.length≤1000000):HC Tryz.prog 19 #[pv sb] h fun r h'=>∃ c:Nat,r=.int .i64 (c:Int)∧Ext h h'∧∀ l:List Int,l.Nodup→(∀ k,k∈l↔liveK X.D.txs k)→c=l.length:=by
 apply wc19
 unfold vc19
 refine(sManager_spec x).mono ?_
 rintro _ _ ⟨rfl,rfl⟩
 refine⟨_,rfl,(mOpenN_spec t x.mgr hn).mono ?_⟩
 rintro _ h1 ⟨c,rfl,e,hc⟩
 exact⟨_,rfl,c,rfl,e,hc⟩
end
def sSt:Kd→Prop
 | .dev _=>True
 | .one n=>n≠1∧(n≤10∨(20≤n∧n<30))
 | .tx _ _=>True
 | .arr (.vers _) _=>True
 | .arr (.reads _) _=>True
 | _=>False
theorem sBegin_st:∀ k,sBegin k→sSt k
 | .one _,h=>by simp only[sBegin]at h;simp only[sSt];omega
theorem sView_st{j:Nat}:∀ k,sView j k→sSt k
 | .tx _ _,_=>trivial
 | .arr (.reads _) _,_=>trivial
theorem sBuf_st{j:Nat}:∀ k,sBuf j k→sSt k
 | .tx _ _,_=>trivial
theorem sEnd_st{j:Nat}:∀ k,sEnd j k→sSt k
 | .one _,h=>by simp only[sEnd]at h;simp only[sSt];omega
 | .tx _ _,_=>trivial
theorem sCommit_st{j:Nat}:∀ k,sCommit j k→sSt k
 | .one _,h=>by simp only[sCommit]at h;simp only[sSt];omega
 | .tx _ _,_=>trivial
theorem sExt_st:∀ k,sExt k→sSt k
 | .one _,h=>by simp only[sExt]at h;simp only[sSt];omega
 | .arr (.vers _) _,_=>trivial
theorem sDone_st:∀ k,sDone k→sSt k
 | .one _,h=>by simp only[sDone]at h;simp only[sSt];omega
 | .tx _ _,_=>trivial
 | .arr (.vers _) _,_=>trivial
theorem s3_st:∀ k,k=Kd.one 3→sSt k:=fun k e=>by subst e;simp[sSt]
theorem isDev_st:∀ k,isDev k→sSt k
 | .dev _,_=>trivial
theorem sO_of{S:Kd→Prop}(h1:∀ n,¬ S (.dev n))(h2:¬ S (.one 2))(h8:¬ S (.one 8)):∀ k,sStO k →¬ S k:=fun k h=>by
 rcases h with h | rfl | rfl
 ·cases k <;> first | exact h1 _ | exact h.elim
 ·exact h2
 ·exact h8
theorem sO_begin:∀ k,sStO k →¬ sBegin k:=sO_of (fun _ h=>h) (by simp[sBegin]) (by simp[sBegin])
theorem sO_view{j:Nat}:∀ k,sStO k →¬ sView j k:=sO_of (fun _ h=>h) (by simp[sView]) (by simp[sView])
theorem sO_buf{j:Nat}:∀ k,sStO k →¬ sBuf j k:=sO_of (fun _ h=>h) (by simp[sBuf]) (by simp[sBuf])
theorem sO_end{j:Nat}:∀ k,sStO k →¬ sEnd j k:=sO_of (fun _ h=>h) (by simp[sEnd]) (by simp[sEnd])
theorem sO_commit{j:Nat}:∀ k,sStO k →¬ sCommit j k:=sO_of (fun _ h=>h) (by simp[sCommit]) (by simp[sCommit])
theorem sO_ext:∀ k,sStO k →¬ sExt k:=sO_of (fun _ h=>h) (by simp[sExt]) (by simp[sExt])
theorem sO_done:∀ k,sStO k →¬ sDone k:=sO_of (fun _ h=>h) (by simp[sDone]) (by simp[sDone])
theorem sO_3:∀ k,sStO k →¬ (k=Kd.one 3):=sO_of (fun _ h=>by cases h) (by simp) (by simp)
theorem nodup_le:∀ {l m:List Int},l.Nodup→(∀ k∈l,k∈m)→l.length≤m.length
 | [],m,_,_=>Nat.zero_le _
 | x::l,m,nd,h=>by
   have hx:x∈m:=h x (by simp)
   have nd':=List.nodup_cons.1 nd
   have:=nodup_le (l:=l) (m:=m.erase x) nd'.2 fun k hk=>(List.mem_erase_of_ne fun(e:k=x)=>nd'.1 (e ▸ hk)).2 (h k (by simp[hk]))
   rw[List.length_erase_of_mem hx]at this
   have:=List.length_pos_of_mem hx
   simp;omega
structure MgrOk(N:Nat)(D:MgrD):Prop where
 len:D.txs.length≤N
 qok:QOk D
 nodup:D.queue.Nodup
 st:∀ (j:Nat) (t:TxS),D.txs[j]? = some t→1≤t.state∧t.state≤4∧(t.state=2↔j+1∈D.queue)
 out:D.out=0
 last:0≤D.last∧D.last≤1099511627776
 given:0≤D.given∧D.given≤1099511627776
 tq:∀ q∈D.queue,1≤(D.at_ q).time∧(D.at_ q).time≤1099511627776
theorem MgrOk.more{N N':Nat}{D:MgrD}(o:MgrOk N D)(h:N≤N'):MgrOk N' D:=⟨Nat.le_trans o.len h,o.qok,o.nodup,o.st,o.out,o.last,o.given,o.tq⟩
theorem MgrOk.new(N:Nat){last:Int}(h:0≤last∧last≤1099511627776):MgrOk N ⟨[],[],0,0,last,last,last,false⟩:=
 ⟨Nat.zero_le _,fun q hq=>by simp at hq,List.nodup_nil,fun j t h=>by simp at h,rfl,h,h,fun q hq=>by simp at hq⟩
theorem MgrOk.queued{N:Nat}{D:MgrD}(o:MgrOk N D){p:Nat}(hp:p∈D.queue):D.txs[p-1]? = some (D.at_ p)∧1≤p∧p≤D.txs.length∧(D.at_ p).state=2:=by
 obtain⟨h1,h2⟩:=o.qok p hp
 have e:D.txs[p-1]? = some (D.at_ p):=by unfold MgrD.at_;rw[List.getD_eq_getElem?_getD,List.getElem?_eq_getElem (by omega)];rfl
 exact⟨e,h1,h2,(o.st _ _ e).2.2.2 (by rw[show p-1+1=p by omega];exact hp)⟩
theorem MgrOk.add{N:Nat}{D:MgrD}(o:MgrOk N D):MgrOk (N+1) D.add:=by
 have at_:∀ q∈D.queue,D.add.at_ q=D.at_ q:=fun q hq=>by
  obtain⟨h1,h2⟩:=o.qok q hq
  unfold MgrD.at_ MgrD.add
  simp only[List.getD_eq_getElem?_getD]
  rw[List.getElem?_append_left (by omega)]
 refine⟨?_,fun q hq=>?_,o.nodup,fun j t h=>?_,o.out,o.last,o.given,fun q hq=>by rw[at_ q hq];exact o.tq q hq⟩
 ·have:=o.len;simp[MgrD.add];omega
 ·have:=o.qok q hq;simp[MgrD.add];omega
 ·have h:(D.txs ++ [⟨1,0,0,D.last,[]⟩])[j]? = some t:=h
  rcases Nat.lt_or_ge j D.txs.length with hj | hj
  ·rw[List.getElem?_append_left hj]at h;exact o.st j t h
  ·have hj2:j=D.txs.length:=by
    have:=(List.getElem?_eq_some_iff.1 h).1
    simp at this;omega
   subst hj2
   simp at h
   subst h
   refine⟨by simp,by simp,⟨fun h=>by simp at h,fun h=>?_⟩⟩
   have:=(o.qok _ h).2;omega
theorem MgrD.set_at{D:MgrD}{j q:Nat}{t:TxS}(h1:1≤q)(hq:q≠j+1):(D.set j t).at_ q=D.at_ q:=by
 unfold MgrD.at_ MgrD.set
 simp only[List.getD_eq_getElem?_getD]
 rw[List.getElem?_set_ne (by omega)]
theorem MgrD.set_get2{D:MgrD}{j i:Nat}{t u:TxS}(h:(D.set j t).txs[i]? = some u):(i=j∧u=t∧j<D.txs.length)∨(i≠j∧D.txs[i]? = some u):=by
 have h:(D.txs.set j t)[i]? = some u:=h
 rw[List.getElem?_set]at h
 by_cases e:j=i
 ·subst e
  rw[if_pos rfl]at h
  split at h
  ·rename_i hl;exact .inl ⟨rfl,by injection h with h;exact h.symm,hl⟩
  ·cases h
 ·rw[if_neg e]at h;exact .inr ⟨fun c=>e c.symm,h⟩
theorem MgrOk.set{N:Nat}{D:MgrD}(o:MgrOk N D){j:Nat}{t t':TxS}(h:D.txs[j]? = some t)(h1:t.state=1)(h2:1≤t'.state∧t'.state≤4)(h3:t'.state≠2):MgrOk N (D.set j t'):=by
 have hnot:j+1 ∉ D.queue:=fun hq=>by have:=(o.st j t h).2.2.2 hq;omega
 have at_:∀ q∈D.queue,(D.set j t').at_ q=D.at_ q:=fun q hq=>MgrD.set_at (o.qok q hq).1 fun e=>hnot (e ▸ hq)
 refine⟨by simpa [MgrD.set] using o.len,fun q hq=>by simpa [MgrD.set] using o.qok q hq,o.nodup,fun i u hu=>?_,o.out,o.last,o.given,fun q hq=>by rw[at_ q hq];exact o.tq q hq⟩
 rcases MgrD.set_get2 hu with ⟨rfl,rfl,_⟩ | ⟨_,hu⟩
 ·exact⟨h2.1,h2.2,fun e=>absurd e h3,fun e=>absurd e hnot⟩
 ·exact o.st i u hu
theorem MgrOk.push{N:Nat}{D:MgrD}(o:MgrOk N D){j:Nat}{t:TxS}(h:D.txs[j]? = some t)(h1:t.state=1)(hg:D.given<1099511627776) :
 MgrOk N { D with txs:=D.txs.set j { t with state:=2,time:=D.given+1 },queue:=D.queue ++ [j+1],given:=D.given+1 }:=by
 have hjl:=(List.getElem?_eq_some_iff.1 h).1
 have hnot:j+1 ∉ D.queue:=fun hq=>by have:=(o.st j t h).2.2.2 hq;omega
 have hgv:=o.given
 have at_:∀ q∈D.queue,MgrD.at_ { D with txs:=D.txs.set j { t with state:=2,time:=D.given+1 },queue:=D.queue ++ [j+1],given:=D.given+1 } q=D.at_ q:=fun q hq=>MgrD.set_at (D:=D) (o.qok q hq).1 fun e=>hnot (e ▸ hq)
 have at2:MgrD.at_ { D with txs:=D.txs.set j { t with state:=2,time:=D.given+1 },queue:=D.queue ++ [j+1],given:=D.given+1 } (j+1) = { t with state:=2,time:=D.given+1 }:=by
  refine MgrD.at_get ?_
  show(D.txs.set j _)[j]? = _
  rw[List.getElem?_set_self hjl]
 refine⟨by simpa using o.len,fun q hq=>?_,?_,fun i u hu=>?_,o.out,o.last,⟨by show 0≤D.given+1;omega,by show D.given+1≤_;omega⟩,fun q hq=>?_⟩
 ·rcases List.mem_append.1 hq with hq | hq
  ·simpa using o.qok q hq
  ·simp at hq;subst hq;simp;omega
 ·exact List.nodup_append.2 ⟨o.nodup,by simp,fun a ha b hb=>by simp at hb;subst hb;exact fun e=>hnot (e ▸ ha)⟩
 ·show 1≤u.state∧u.state≤4∧(u.state=2↔i+1∈D.queue ++ [j+1])
  rcases MgrD.set_get2 (D:=D) (t:={ t with state:=2,time:=D.given+1 }) hu with ⟨rfl,rfl,_⟩ | ⟨hne,hu⟩
  ·exact⟨by simp,by simp,by simp⟩
  ·obtain⟨a,b,c⟩:=o.st i u hu
   refine⟨a,b,c.trans ?_⟩
   simp;omega
 ·rcases List.mem_append.1 hq with hq | hq
  ·rw[at_ q hq];exact o.tq q hq
  ·simp at hq;subst hq;rw[at2];show 1≤D.given+1∧D.given+1≤_;omega
theorem MgrOk.commit{N:Nat}{D D':MgrD}{hd c:Int}(o:MgrOk N D)(r:CommitR D hd D' c):MgrOk N D':=by
 rcases r with ⟨_,rfl,_⟩ | ⟨j,t,ht,h1,_,⟨_,_,rfl⟩ | ⟨_,_,rfl⟩ | ⟨_,_,hg,rfl⟩⟩
 ·exact o
 ·exact o.set ht h1 (by simp) (by simp)
 ·exact o.set ht h1 (by simp) (by simp)
 ·exact o.push ht h1 hg
section
variable{G:Gh}{h:Hp}{M sb db:Nat}{X:StD}
theorem MgrIn.plen{mb:Nat}{V:Prop}{D:MgrD}{em bk am:Nat}{q:Sl}{tb:Nat→Nat}(x:MgrIn G h M mb V D em bk am q tb):∀ (j:Nat) (t:TxS),D.txs[j]? = some t→t.P.length≤16∧PutsOk t.P:=fun j t ht=>by
 obtain⟨bb,vb,_,b,_⟩:=(x.tx j t ht).row
 exact⟨b.len,b.ok⟩
theorem MgrIn.q16{N mb:Nat}{V:Prop}{D:MgrD}{em bk am:Nat}{q:Sl}{tb:Nat→Nat}(x:MgrIn G h M mb V D em bk am q tb)(o:MgrOk N D):D.queue.length≤16:=by
 obtain⟨tm,tl,tc,_,_,_,_,hl,hk,_⟩:=x.book.map
 have nd:(D.queue.map fun(n:Nat)=>(n:Int)).Nodup:=List.Pairwise.map (S:=(· ≠ ·)) _ (fun a b (hne:a≠b) e=>hne (by omega)) o.nodup
 have sub:∀ k∈D.queue.map fun(n:Nat)=>(n:Int),k∈kS tl:=fun k hk'=>by
  obtain⟨p,hp,rfl⟩:=List.mem_map.1 hk'
  obtain⟨e,h1,h2,h3⟩:=o.queued hp
  exact(hk _).2 ⟨p-1,_,e,.inr h3,by omega⟩
 have:=nodup_le nd sub
 simp[kS]at this
 omega
theorem sBegin_spec(t:HT G h)(x:StAt G h M sb db X)(hoff:X.off=false){N:Nat}(hN:N≤1000000)(o:MgrOk N X.D):HC Tryz.prog 136 #[pv sb] h fun r h'=>∃ (G':Gh) (D':MgrD),To sSt G h G' h'∧G'.W=G.W∧StAt G' h' M sb db { X with D:=D' }∧MgrOk (N+1) D'∧
 ((∃ c:Int,r=.tuple #[.int .i64 0,.int .i64 c]∧c≠0∧D'=X.D∧((∀ (j:Nat) (t:TxS),X.D.txs[j]? = some t →¬ t.live)→False))∨(r=.tuple #[.int .i64 ((X.D.txs.length+1:Nat):Int),.int .i64 0]∧D'=X.D.add)):=by
 obtain⟨lb,mb,ts,em,bk,am,q,tb,x⟩:=x
 apply wc136
 unfold vc136
 refine(sDead_spec x).mono ?_
 rintro _ _ ⟨rfl,rfl⟩
 have hlen:=o.len
 refine⟨_,rfl,.no hoff ⟨_,rfl,_,x.row.get rfl,(mBegin_spec t x.mgr (by omega) o.last).mono ?_⟩⟩
 rintro _ h1 ⟨G1,tb',y,ew,⟨rfl,m,hl⟩ | ⟨rfl,m⟩⟩
 ·refine⟨_,_,rfl,G1,X.D,y.mono sBegin_st,ew,⟨lb,mb,ts,em,bk,am,q,tb,x.mg y sO_begin m⟩,o.more (by omega),.inl ⟨6,rfl,by omega,rfl,fun hn=>?_⟩⟩
  have:=hl [] List.nodup_nil fun k=>⟨fun h=>by simp at h,fun⟨j,t,h1,h2,_⟩=>absurd h2 (hn j t h1)⟩
  simp at this
 ·exact⟨_,_,rfl,G1,X.D.add,y.mono sBegin_st,ew,⟨lb,mb,ts,em,bk,am,q,tb',x.mg y sO_begin m⟩,o.add,.inr ⟨rfl,rfl⟩⟩
theorem sRead_spec(t:HT G h)(x:StAt G h M sb db X)(hoff:X.off=false)(hM:M≤1000000)(hd a b:Int):HC Tryz.prog 137 #[pv sb,.int .i64 hd,.agg #[.int .i64 a,.int .i64 b]] h fun r h'=>∃ (G':Gh) (c:Int) (s:Sl) (l:List UInt8),r=.tuple #[.slice s.base s.len s.cap,.int .i64 c]∧To sSt G h G' h'∧G'.W=G.W∧SlB G' s l∧l.length≤1000∧StAt G' h' (M+16) sb db X:=by
 obtain⟨lb,mb,ts,em,bk,am,q,tb,x⟩:=x
 apply wc137
 unfold vc137
 intro h1
 have e1:Ext h h1:=alc_ext _ _ _
 have r1:Row h1 h.size [.int .i64 a,.int .i64 b]:=Row.alc _ _ _
 have x1:=x.pure (e1.to t)
 have t1:=t.ext e1
 refine(sDead_spec x1).mono ?_
 rintro _ _ ⟨rfl,hh⟩
 obtain rfl:=hh
 refine⟨_,rfl,.no hoff ?_⟩
 have kR:kf G (fun k=>∃ j,sView j k) sb=true:=kf_yes (by rw[x1.kd];simp[sView])
 have k0:kf G (fun k=>∃ j,sView j k) h.size=true:=kf_yes (by rw[t.fresh (Nat.le_refl _)];simp[sView])
 have rR:=x1.row.filt kR
 have r1R:=r1.filt k0
 refine⟨filt (kf G fun k=>∃ j,sView j k) h1,sub_kf _ _ _,_,rfl,_,rR.get rfl,_,_,r1R.get0 rfl,r1R.get rfl,(mRead_spec t1 x1.mgr hM hd a b).mono ?_⟩
 rintro _ h2 ⟨G2,c,s,l,j,rfl,y2,ew,sl,hl,m⟩
 exact⟨s,c,rfl,(y2.mono fun k hk=>⟨j,hk⟩).kf,G2,c,s,l,rfl,(e1.to t).trans (y2.mono sView_st),ew,sl,hl,lb,mb,ts,em,bk,am,q,tb,x1.mg y2 sO_view m⟩
theorem sWrite_spec(t:HT G h)(x:StAt G h M sb db X)(hoff:X.off=false){N:Nat}(o:MgrOk N X.D)(hd:Int){s:Sl}{Q:List PutD}(p:PutsR (Stab G h) h s Q)(hQ:PutsB Q):HC Tryz.prog 138 #[pv sb,.int .i64 hd,.slice s.base s.len s.cap] h fun r h'=>∃ (G':Gh) (c:Int) (D':MgrD),r=.int .i64 c∧To sSt G h G' h'∧G'.W=G.W∧StAt G' h' M sb db { X with D:=D' }∧MgrOk N D'∧
 ((c≠0∧D'=X.D) ∨∃ (j:Nat) (t:TxS) (P':List PutD),X.D.txs[j]? = some t∧t.state=1∧hd=((j+1:Nat):Int)∧PutsOk P'∧P'.length≤16∧D'=X.D.set j { t with P:=P' })∧
 (∀ (j:Nat) (t:TxS) a l,X.D.txs[j]? = some t→t.state=1→hd=((j+1:Nat):Int)→Q = [(a,l)]→0≤a∧a<258→l.length=40→t.P = []→c=0∧D'=X.D.set j { t with P:=[(a,l)] }):=by
 obtain⟨lb,mb,ts,em,bk,am,q,tb,x⟩:=x
 apply wc138
 unfold vc138
 refine(sDead_spec x).mono ?_
 rintro _ _ ⟨rfl,hh⟩
 obtain rfl:=hh
 refine⟨_,rfl,.no hoff ⟨_,rfl,_,x.row.get rfl,(mWrite_spec t x.mgr hd p hQ).mono ?_⟩⟩
 rintro _ h2 ⟨G2,c,D',j,rfl,y2,ew,m,hc,hx⟩
 have hl:D'.last=X.D.last:=by rcases hc with ⟨_,rfl⟩ | ⟨j,t,P',_,_,_,_,_,rfl⟩ <;> rfl
 refine⟨_,rfl,G2,c,D',rfl,y2.mono sBuf_st,ew,⟨lb,mb,ts,em,bk,am,q,tb,x.mg y2 sO_buf (by rw[hl];exact m)⟩,?_,hc,hx⟩
 rcases hc with ⟨_,rfl⟩ | ⟨j,t,P',ht,h1,_,_,_,rfl⟩
 ·exact o
 ·exact o.set ht h1 (by show 1≤t.state∧t.state≤4;omega) (by show t.state≠2;omega)
theorem sAbort_spec(t:HT G h)(x:StAt G h M sb db X)(hoff:X.off=false){N:Nat}(o:MgrOk N X.D)(hd:Int):HC Tryz.prog 139 #[pv sb,.int .i64 hd] h fun r h'=>∃ (G':Gh) (c:Int) (D':MgrD),r=.int .i64 c∧To sSt G h G' h'∧G'.W=G.W∧StAt G' h' M sb db { X with D:=D' }∧MgrOk N D'∧
 ((c=5∧D'=X.D) ∨∃ (j:Nat) (t:TxS),X.D.txs[j]? = some t∧t.state=1∧hd=((j+1:Nat):Int)∧c=0∧D'=X.D.set j (endT t 4 0)):=by
 obtain⟨lb,mb,ts,em,bk,am,q,tb,x⟩:=x
 apply wc139
 unfold vc139
 refine(sDead_spec x).mono ?_
 rintro _ _ ⟨rfl,hh⟩
 obtain rfl:=hh
 refine⟨_,rfl,.no hoff ⟨_,rfl,_,x.row.get rfl,(mAbort_spec t x.mgr hd).mono ?_⟩⟩
 rintro _ h2 ⟨G2,c,D',j,rfl,y2,ew,m,hc⟩
 have hl:D'.last=X.D.last:=by rcases hc with ⟨_,rfl⟩ | ⟨j,t,_,_,_,_,rfl⟩ <;> rfl
 refine⟨_,rfl,G2,c,D',rfl,y2.mono sEnd_st,ew,⟨lb,mb,ts,em,bk,am,q,tb,x.mg y2 sO_end (by rw[hl];exact m)⟩,?_,hc⟩
 rcases hc with ⟨_,rfl⟩ | ⟨j,t,ht,h1,_,_,rfl⟩
 ·exact o
 ·exact o.set ht h1 (by simp[endT]) (by simp[endT])
theorem MgrIn.novers{mb:Nat}{D:MgrD}{em bk am:Nat}{q:Sl}{tb:Nat→Nat}{V:Prop}(x:MgrIn G h M mb V D em bk am q tb)(hV:¬ V):NoVers h em:=by
 obtain⟨vm,vl,vc,la,r,k,e,w,v,hv⟩:=x.ext.map
 have:vl = []:=Classical.byContradiction fun hn=>hV (hv hn)
 subst this
 intro vm' vl' vc' h1 h2
 have e1:hY h ((⟨em,0,none⟩:Addr).add 1)=some (.map (some vm)):=r.get rfl
 rw[e1]at h1
 injection h1 with h1
 injection h1 with h1
 injection h1 with h1
 subst h1
 rw[e]at h2
 injection h2 with h2
 exact(mapO_inj h2).1.symm
theorem sCommit_spec(t:HT G h)(x:StAt G h M sb db X)(hoff:X.off=false)(hM:M≤1000000){N:Nat}(o:MgrOk N X.D)(hd:Int):HC Tryz.prog 190 #[pv sb,.int .i64 hd] h fun r h'=>∃ (G':Gh) (c:Int) (D':MgrD),r=.int .i64 c∧To sSt G h G' h'∧G'.W=G.W∧StAt G' h' M sb db { X with D:=D' }∧MgrOk N D'∧CommitR X.D hd D' c∧
 (∀ (j:Nat) (t:TxS),X.D.txs[j]? = some t→t.state=1→hd=((j+1:Nat):Int)→t.P ≠ []→X.D.read=false→X.D.last=0→X.D.queue = []→X.D.given<1099511627776→c=0):=by
 obtain⟨lb,mb,ts,em,bk,am,q,tb,x⟩:=x
 apply wc190
 unfold vc190
 refine(sDead_spec x).mono ?_
 rintro _ _ ⟨rfl,hh⟩
 obtain rfl:=hh
 have hq:=x.mgr.q16 o
 refine⟨_,rfl,.no hoff ⟨_,rfl,_,x.row.get rfl,(mCommit_spec t x.mgr hM o.qok (by omega) (fun j t ht=>by have:=(x.mgr.plen j t ht).1;omega) o.given.1 hd).mono ?_⟩⟩
 rintro _ h2 ⟨G2,c,D',q',j,rfl,y2,ew,m,hc,hx⟩
 have hl:D'.last=X.D.last:=by rcases hc with ⟨_,rfl,_⟩ | ⟨j,t,_,_,_,⟨_,_,rfl⟩ | ⟨_,_,rfl⟩ | ⟨_,_,_,rfl⟩⟩ <;> rfl
 refine⟨_,rfl,G2,c,D',rfl,y2.mono sCommit_st,ew,⟨lb,mb,ts,em,bk,am,q',tb,x.mg y2 sO_commit (by rw[hl];exact m)⟩,o.commit hc,hc,fun j t h1 h2 h3 h4 h5 h6 h7 h8=>?_⟩
 exact hx j t h1 h2 h3 h4 h5 (x.mgr.novers (by omega)) h7 h8
theorem sResult_spec(x:StAt G h M sb db X)(hd:Int):HC Tryz.prog 189 #[pv sb,.int .i64 hd] h fun r h'=>h'=h∧((r=.tuple #[.int .i64 0,.int .i64 0,.int .i64 0]∧¬ ∃ j:Nat,j<X.D.txs.length∧hd=((j+1:Nat):Int)) ∨∃ (j:Nat) (t:TxS),X.D.txs[j]? = some t∧hd=((j+1:Nat):Int)∧r=.tuple #[.int .i64 (t.state:Int),.int .i64 t.time,.int .i64 t.code]):=by
 obtain⟨lb,mb,ts,em,bk,am,q,tb,x⟩:=x
 apply wc189
 unfold vc189
 refine(sManager_spec x).mono ?_
 rintro _ _ ⟨rfl,hh⟩
 obtain rfl:=hh
 refine⟨_,rfl,(mResult_spec x.mgr hd).mono ?_⟩
 rintro _ _ ⟨hh,hr⟩
 obtain rfl:=hh
 rcases hr with ⟨rfl,hn⟩ | ⟨j,t,h1,h2,rfl⟩
 ·exact⟨_,_,_,rfl,rfl,.inl ⟨rfl,hn⟩⟩
 ·exact⟨_,_,_,rfl,rfl,.inr ⟨j,t,h1,h2,rfl⟩⟩
theorem sReadOnly_spec(t:HT G h)(x:StAt G h M sb db X){N:Nat}(o:MgrOk N X.D)(yes:Bool):HC Tryz.prog 55 #[pv sb,.bool yes] h fun r h'=>∃ G':Gh,r=.tuple #[]∧To sSt G h G' h'∧G'.W=G.W∧StAt G' h' M sb db { X with D:={ X.D with read:=yes } }∧MgrOk N { X.D with read:=yes }:=by
 obtain⟨lb,mb,ts,em,bk,am,q,tb,x⟩:=x
 apply wc55
 unfold vc55
 refine(sManager_spec x).mono ?_
 rintro _ _ ⟨rfl,hh⟩
 obtain rfl:=hh
 refine⟨_,rfl,(mReadOnly_spec t x.mgr yes).mono ?_⟩
 rintro _ h2 ⟨rfl,y2,m⟩
 exact⟨rfl,G,rfl,y2.mono s3_st,rfl,⟨lb,mb,ts,em,bk,am,q,tb,x.mg y2 sO_3 m⟩,⟨o.len,o.qok,o.nodup,o.st,o.out,o.last,o.given,o.tq⟩⟩
theorem sClean_spec(t:HT G h)(x:StAt G h M sb db X)(hoff:X.off=false)(hM:M≤1000000):HC Tryz.prog 54 #[pv sb] h fun r h'=>∃ (G':Gh) (n:Int),r=.int .i64 n∧To sSt G h G' h'∧G'.W=G.W∧StAt G' h' M sb db X:=by
 obtain⟨lb,mb,ts,em,bk,am,q,tb,x⟩:=x
 apply wc54
 unfold vc54
 refine(sDead_spec x).mono ?_
 rintro _ _ ⟨rfl,hh⟩
 obtain rfl:=hh
 refine⟨_,rfl,.no hoff ⟨_,rfl,_,x.row.get rfl,(mPrune_spec t x.mgr hM).mono ?_⟩⟩
 rintro _ h2 ⟨G2,n,rfl,y2,ew,m⟩
 exact⟨_,rfl,G2,n,rfl,y2.mono sExt_st,ew,lb,mb,ts,em,bk,am,q,tb,x.mg y2 sO_ext m⟩
theorem sDump_spec(t:HT G h)(x:StAt G h M sb db X)(hM:M≤1000000):HC Tryz.prog 14 #[pv sb] h fun r h'=>
 ∃ (s:Sl) (P:List PutD) (G':Gh),r=.slice s.base s.len s.cap∧To (fun _=>False) G h G' h'∧SlP G' s P∧G'.W=G.W∧PutsOk P∧(∀ p∈P,G.W p.1 p.2)∧P.length≤258∧(P ≠ []→1≤X.D.last)∧StAt G' h' M sb db X:=by
 obtain⟨lb,mb,ts,em,bk,am,q,tb,x⟩:=x
 apply wc14
 unfold vc14
 refine(sManager_spec x).mono ?_
 rintro _ _ ⟨rfl,hh⟩
 obtain rfl:=hh
 refine⟨_,rfl,(mDump_spec t x.mgr hM).mono ?_⟩
 rintro _ h2 ⟨s,P,G2,rfl,y2,sp,ew,h1,h2',h3,h4⟩
 exact⟨_,rfl,s,P,G2,rfl,y2,sp,ew,h1,h2',h3,h4,lb,mb,ts,em,bk,am,q,tb,x.pure y2⟩
theorem sHistory_spec(t:HT G h)(x:StAt G h M sb db X)(hM:M≤1000000)(hd:Int):HC Tryz.prog 38 #[pv sb,.int .i64 hd] h fun r h'=>∃ (G':Gh) (rs ps:Sl) (st bg tm:Int) (P:List PutD),r=histV st bg tm 0 0 rs ps∧To (fun _=>False) G h G' h'∧G'.W=G.W∧SlA G' (.reads 0) rs∧rs.len≤M∧SlP G' ps P∧P.length≤16∧StAt G' h' M sb db X∧
 ∀ (j:Nat) (t:TxS),X.D.txs[j]? = some t→hd=((j+1:Nat):Int)→st=t.state∧P=t.P:=by
 obtain⟨lb,mb,ts,em,bk,am,q,tb,x⟩:=x
 apply wc38
 unfold vc38
 intro h1
 have e1:Ext h h1:=alc_ext _ _ _
 have r1:Row h1 h.size [.int .i64 (0:Int),.int .i64 (0:Int),.int .i64 (0:Int),.int .i64 (0:Int),.int .i64 (0:Int),.slice Sl.nil.base Sl.nil.len Sl.nil.cap,.slice Sl.nil.base Sl.nil.len Sl.nil.cap]:=Row.alc _ _ _
 have s1:h1.size=h.size+1:=size_alc _ _ _
 have x1:=x.pure (e1.to t)
 refine(sManager_spec x1).mono ?_
 rintro _ _ ⟨rfl,hh⟩
 obtain rfl:=hh
 refine⟨_,rfl,(mHistory_spec (t.ext e1) x1.mgr hM hd).mono ?_⟩
 rintro _ h2 ⟨G2,rs,ps,st,bg,tm,P,rfl,y2,ew,ha,hl,hp,hP,hx⟩
 have e2:=y2.toExt
 have r2:=r1.ext e2
 refine⟨_,_,_,_,_,rs,ps,rfl,out7 r2 rfl _ _ _ _ _ _ _ fun h3 on s3 r3=>?_⟩
 have e3:To (fun _=>False) G h G2 h3:=by
  refine⟨y2.le,fun b hb=>y2.old b (by omega),by have:=y2.size;omega,fun b hb _=>?_,?_⟩
  ·rw[on.block b (by have:=y2.size;omega) (by omega),e2.block b (by omega),e1.block b hb]
  ·refine y2.ht.other (b:=h.size) ?_ (by omega) fun k hk hne=>on.block k hk hne
   rw[y2.old _ (by omega),t.fresh (Nat.le_refl _)];exact fun h=>h
 exact⟨G2,rs,ps,st,bg,tm,P,rfl,e3,ew,ha,hl,hp,hP,⟨lb,mb,ts,em,bk,am,q,tb,x.pure e3⟩,hx⟩
end
theorem SlB.cut{G:Gh}{s:Sl}{l:List UInt8}(x:SlB G s l){lo hi m:Nat}(h1:lo≤hi)(h2:hi≤s.len)(h3:hi≤m):SlB G (cutSl s (lo:Int) (hi:Int) (m:Int) 1) ((l.drop lo).take (hi-lo)):=by
 obtain⟨a,b,c⟩:=x
 have hl:(cutSl s (lo:Int) (hi:Int) (m:Int) 1).len=hi-lo:=cut_len
 have hl2:((l.drop lo).take (hi-lo)).length=hi-lo:=by rw[List.length_take,List.length_drop];omega
 refine⟨by rw[hl,hl2],by rw[hl,cut_cap];omega,?_⟩
 by_cases e0:m=lo
 ·exact .inl (List.eq_nil_of_length_eq_zero (by rw[hl2];omega))
 rcases c with rfl | ⟨b,o,all,e,k,ht⟩
 ·exact .inl (by simp)
 ·refine .inr ⟨b,o+lo,all,?_,k,?_⟩
  ·simp only[cutSl,e]
   rw[if_neg (by simpa using e0)]
   simp[add_none]
  ·rw[hl2,← List.drop_drop,← ht,List.drop_take,List.take_take,Nat.min_eq_left (by omega)]
theorem spMay_spec(h:Hp):HC Tryz.prog 117 #[.agg #[.int .i64 (8:Int),.int .i64 (96:Int)]] h fun r h'=>r=.bool true∧Ext h h':=by
 apply wc117
 unfold vc117
 intro h1
 have r1:Row h1 h.size [.int .i64 (8:Int),.int .i64 (96:Int)]:=Row.alc _ _ _
 exact⟨_,r1.get0 rfl,.yes (by decide) ⟨_,r1.get0 rfl,.yes (by decide) ⟨_,r1.get rfl,.yes (by decide) ⟨_,r1.get rfl,rfl,alc_ext _ _ _⟩⟩⟩⟩
theorem spSplit_spec(h:Hp):HC Tryz.prog 65 #[.agg #[.int .i64 (8:Int),.int .i64 (96:Int)]] h fun r h'=>r=.tuple #[.agg #[.int .i64 (0:Int),.int .i64 (3:Int),.int .i64 (6:Int),.int .i64 (7:Int)],.int .i64 (0:Int)]∧Ext h h':=by
 apply wc65
 unfold vc65
 intro h1 h2
 have e1:Ext h h1:=alc_ext _ _ _
 have e2:Ext h1 h2:=alc_ext _ _ _
 have s1:h1.size=h.size+1:=size_alc _ _ _
 have s2:h2.size=h1.size+1:=size_alc _ _ _
 have r1:Row h1 h.size [.int .i64 (8:Int),.int .i64 (96:Int)]:=Row.alc _ _ _
 have r1:=r1.ext e2
 have r2:Row h2 h1.size [.int .i64 (0:Int),.int .i64 (0:Int),.int .i64 (0:Int),.int .i64 (0:Int)]:=Row.alc _ _ _
 refine⟨_,_,r1.get0 rfl,r1.get rfl,(spMay_spec h2).mono ?_⟩
 rintro _ h3 ⟨rfl,e3⟩
 refine⟨_,rfl,.no rfl ⟨_,(r1.ext e3).get0 rfl,by decide,_,(r1.ext e3).get0 rfl,?_⟩⟩
 refine(r2.ext e3).put (vs:=[.int .i64 (0:Int),.int .i64 (iQuo .i64 (iMul .i64 (3:Int) 8) (8:Int)),.int .i64 (iMul .i64 (2:Int) (iQuo .i64 (iMul .i64 (3:Int) 8) (8:Int))),.int .i64 (iSub .i64 8 (1:Int))]) rfl (by simp[cellOk]) fun h4 r4 s4 o4=>?_
 refine⟨_,_,_,_,r4.get0 rfl,r4.get rfl,r4.get rfl,r4.get rfl,?_,?_⟩
 ·have e1:iMul .i64 (3:Int) 8=24:=iMul64 (by omega)
  have e2:iQuo .i64 24 8=3:=by decide +kernel
  have e3:iMul .i64 (2:Int) 3=6:=iMul64 (by omega)
  have e4:iSub .i64 8 (1:Int)=7:=iSub64 (by omega)
  rw[e1,e2,e3,e4]
 ·have:=e3.size
  exact⟨by omega,fun b hb=>by rw[o4 b (by omega),e3.block b (by omega),e2.block b (by omega),e1.block b hb]⟩
theorem spCap_spec(h:Hp):HC Tryz.prog 75 #[.agg #[.int .i64 (8:Int),.int .i64 (96:Int)]] h fun r h'=>r=.int .i64 (258:Int)∧Ext h h':=by
 apply wc75
 unfold vc75
 intro h1
 have e1:Ext h h1:=alc_ext _ _ _
 have s1:h1.size=h.size+1:=size_alc _ _ _
 have r1:Row h1 h.size [.int .i64 (8:Int),.int .i64 (96:Int)]:=Row.alc _ _ _
 refine⟨_,_,r1.get0 rfl,r1.get rfl,(spSplit_spec h1).mono ?_⟩
 rintro _ h2 ⟨rfl,e2⟩
 have s2:=e2.size
 refine⟨_,_,_,_,_,rfl,?_⟩
 intro h3
 have e3:Ext h2 h3:=alc_ext _ _ _
 have s3:h3.size=h2.size+1:=size_alc _ _ _
 have r3:Row h3 h2.size [.int .i64 (0:Int),.int .i64 (0:Int),.int .i64 (0:Int),.int .i64 (0:Int)]:=Row.alc _ _ _
 refine r3.put (vs:=[.int .i64 (0:Int),.int .i64 (3:Int),.int .i64 (6:Int),.int .i64 (7:Int)]) rfl (by simp[cellOk]) fun h4 r4 s4 o4=>?_
 have e14:Ext h1 h4:=⟨by omega,fun b hb=>by rw[o4 b (by omega),e3.block b (by omega),e2.block b hb]⟩
 refine .no rfl ⟨_,r4.get rfl,_,(r1.ext e14).get rfl,by decide,?_,e1.trans e14⟩
 have e1:iMul .i64 (3:Int) 96=288:=iMul64 (by omega)
 have e2:iSub .i64 288 (2:Int)=286:=iSub64 (by omega)
 have e3:iMul .i64 (40:Int) 286=11440:=iMul64 (by omega)
 have e4:iSub .i64 11440 (64:Int)=11376:=iSub64 (by omega)
 have e5:iQuo .i64 11376 44=258:=by decide +kernel
 rw[e1,e2,e3,e4,e5]
def rowsB(P:List PutD):List UInt8:=P.flatMap fun p=>leB 4 p.1.toNat++p.2
def textB(last:Int)(P:List PutD):List UInt8:=leB 8 last.toNat++rowsB P
theorem rowsB_len{P:List PutD}(h:∀ p∈P,p.2.length=40):(rowsB P).length=44*P.length:=by
 induction P with
 | nil=>rfl
 | cons p r ih=>
   have:=ih fun q hq=>h q (by simp[hq])
   simp only[rowsB,List.flatMap_cons,List.length_append,leB_length,List.length_cons]at this ⊢
   rw[h p (by simp)]
   omega
theorem textB_len{last:Int}{P:List PutD}(h:PutsOk P):(textB last P).length=8+44*P.length:=by
 unfold textB;rw[List.length_append,leB_length,rowsB_len fun p hp=>(h.2 p hp).2.2]
theorem rowsB_snoc{P:List PutD}{j:Nat}(hj:j<P.length):rowsB (P.take (j+1))=rowsB (P.take j)++leB 4 P[j].1.toNat++P[j].2:=by
 unfold rowsB
 rw[List.take_succ_eq_append_getElem hj,List.flatMap_append]
 simp
section
variable{G:Gh}{h:Hp}{M sb db:Nat}{X:StD}
theorem sText_spec(t:HT G h)(x:StAt G h M sb db X)(hla:0≤X.D.last∧X.D.last≤1099511627776)(hM:M≤1000000):HC Tryz.prog 104 #[pv sb] h fun r h'=>∃ (s:Sl) (P:List PutD) (G':Gh),r=.slice s.base s.len s.cap∧To (fun _=>False) G h G' h'∧G'.W=G.W∧SlB G' s (textB X.D.last P)∧PutsOk P∧(∀ p∈P,G.W p.1 p.2)∧P.length≤258∧(P ≠ []→1≤X.D.last)∧StAt G' h' M sb db X:=by
 obtain⟨lb,mb,ts,em,bk,am,q,tb,x⟩:=x
 apply wc104
 unfold vc104
 refine⟨_,rfl,_,x.row.get rfl,(mLast_spec x.mgr).mono ?_⟩
 rintro _ _ ⟨rfl,hh⟩
 obtain rfl:=hh
 obtain⟨n,hn⟩:∃ n:Nat,X.D.last=n:=⟨X.D.last.toNat,by omega⟩
 have ec:iConv .u64 X.D.last=((n:Nat):Int):=by rw[hn,iConv_nat u64s,Nat.mod_eq_of_lt (by simp only[IntKind.bits];omega)]
 refine⟨_,rfl,?_⟩
 rw[ec]
 refine(Put64_spec n (by omega) _).mono ?_
 rintro _ h1 ⟨u,rfl,ou,lu,e1⟩
 have x1:=x.pure (e1.to t)
 refine⟨u,rfl,_,rfl,_,x1.row.get rfl,(mDump_spec (t.ext e1) x1.mgr hM).mono ?_⟩
 rintro _ h2 ⟨s,P,G2,rfl,y2,sp,ew,hP,hw,hl,hne⟩
 have y02:To (fun _=>False) G _ G2 h2:=(e1.to t).trans y2
 refine⟨s,rfl,?_⟩
 have o2:OwnN _ 1 G2 h2 u ((leB 8 n).map bv):=(ou.toN t (Nat.le_refl _)).to y2
 have u32s:IntKind.signed .u32=false:=rfl
 refine⟨fun out i m h'=>∃ j:Nat,i=j∧m+j=P.length∧To (fun _=>False) G _ G2 h'∧OwnN _ 1 G2 h' out ((leB 8 n++rowsB (P.take j)).map bv),P.length,⟨0,rfl,rfl,y02,by simpa [rowsB] using o2⟩,?_⟩
 rintro _ out _ m h3 ⟨j,rfl,hm,y3,o3⟩
 have hlo:=o3.own.len
 have hrl:(rowsB (P.take j)).length=44*min j P.length:=by rw[rowsB_len fun p hp=>(hP.2 p (List.mem_of_mem_take hp)).2.2,List.length_take]
 simp only[List.length_map,List.length_append,leB_length,hrl]at hlo
 refine IfB.dec (fun hlt=>?_) (fun hge=>?_)
 ·have hj:j<P.length:=by rw[sp.slen]at hlt;omega
  have pj:=hP.2 _ (List.getElem_mem hj)
  refine(sp.putsK y3.ht h3.size).ix j rfl hj fun a d c0 c1 rd bd=>⟨_,d,c0,c1,?_⟩
  intro h4
  have e4:Ext h3 h4:=alc_ext _ _ _
  have s4:h4.size=h3.size+1:=size_alc _ _ _
  have r4:Row h4 h3.size [.int .i64 (0:Int),.slice Sl.nil.base Sl.nil.len Sl.nil.cap]:=Row.alc _ _ _
  refine r4.put (vs:=[.int .i64 P[j].1,.slice d.base d.len d.cap]) rfl (by simp[cellOk]) fun h5 r5 s5 o5=>?_
  have e35:Ext h3 h5:=⟨by omega,fun b hb=>by rw[o5 b (by omega),e4.block b hb]⟩
  obtain⟨ob,hob,rob⟩:=r5.only
  refine⟨onlyB h3.size ob,sub_only hob,_,rob.get0 rfl,d,rob.get rfl,?_⟩
  have e32:iConv .u32 P[j].1=((P[j].1.toNat:Nat):Int):=by
   obtain⟨q,hq⟩:∃ q:Nat,P[j].1=q:=⟨P[j].1.toNat,by omega⟩
   rw[hq,iConv_nat u32s,Nat.mod_eq_of_lt (by simp only[IntKind.bits];omega)];rfl
  rw[e32]
  refine(Put32_spec _ (by omega) h5).mono ?_
  rintro _ h6 ⟨v,rfl,ov,lv,e6⟩
  have s6:=e6.size
  have hob6:h6[h3.size]? = some ob:=by rw[e6.block _ (by omega)];exact hob
  refine⟨v,rfl,sub_only hob6,?_⟩
  have e36:=e35.trans e6
  have y6:=y3.ext e36
  have o6:=o3.to (e36.to y3.ht (S:=fun _=>False))
  have okb:∀ {l:List UInt8},∀ w∈l.map bv,cellOk w=true:=fun w hw=>by obtain⟨x,_,rfl⟩:=List.mem_map.1 hw;rfl
  rw[leB_length]at lv
  have hd40:d.len=40:=by rw[← rd.lenB];exact pj.2.2
  refine OwnN.app y6 rfl o6 (news:=(leB 4 P[j].1.toNat).map bv) (by rw[List.length_map,leB_length];omega) ov.toRd.rd okb (by omega) (by omega) fun r1 h7 y7 o7 l7 s7 f7=>⟨sub_only ?_,?_⟩
  ·rw[f7 _ (by omega) fun a ha e=>by have:=(o3.own.lt ha).2;omega];exact hob6
  have rd7:Rd 1 h7 d (P[j].2.map bv):=rd.eq fun a ha=>by
   obtain⟨hs,hk⟩:=bd a ha (by omega)
   have hlt:=hs.1
   rw[f7 _ (by omega) fun a' ha' e=>?_,e36.block _ hlt]
   rcases hk with hk | hk
   ·omega
   ·exact hk (by rw[e];exact o3.any _ ha')
  refine OwnN.app y7 rfl o7 (news:=P[j].2.map bv) (by rw[List.length_map];omega) rd7.rd okb (by omega) (by omega) fun r2 h8 y8 o8 l8 s8 f8=>⟨m-1,by omega,j+1,by rw[iAdd64 (by omega)];push_cast;rfl,by omega,y8,?_⟩
  rw[rowsB_snoc hj]
  simpa [List.append_assoc] using o8
 ·obtain rfl:j=P.length:=by rw[sp.slen]at hge;omega
  rw[List.take_length]at o3
  obtain⟨G3,y4,le4,b4,k4,w4⟩:=OwnN.bytes y3 o3
  refine⟨out,P,G3,rfl,y4,by rw[w4];exact ew,?_,hP,hw,hl,hne,lb,mb,ts,em,bk,am,q,tb,x.pure y4⟩
  unfold textB
  rw[hn];exact b4
end
def TextOk(W:Int→List UInt8→Prop)(tx:List UInt8):Prop:=
 tx = [] ∨∃ (last:Int) (P:List PutD),tx=textB last P∧(0≤last∧last≤1099511627776)∧PutsOk P∧(∀ p∈P,W p.1 p.2)∧(P ≠ []→1≤last)
theorem TextOk.mono{W W':Int→List UInt8→Prop}{tx:List UInt8}(h:TextOk W tx)(hw:∀ a l,W a l→W' a l):TextOk W' tx:=by
 rcases h with h | ⟨last,P,h1,h2,h3,h4,h5⟩
 ·exact .inl h
 ·exact .inr ⟨last,P,h1,h2,h3,fun p hp=>hw _ _ (h4 p hp),h5⟩
theorem PutsOk.le258{P:List PutD}(o:PutsOk P):P.length≤258:=by
 have:=nodup_lt o.nodup (n:=258) fun k hk=>by
  obtain⟨p,hp,rfl⟩:=List.mem_map.1 hk
  have:=o.2 p hp;omega
 simpa using this
theorem TextOk.len{W:Int→List UInt8→Prop}{tx:List UInt8}(h:TextOk W tx):tx.length≤11360:=by
 rcases h with rfl | ⟨last,P,rfl,_,h3,_⟩
 ·simp
 ·rw[textB_len h3];have:=h3.le258;omega
structure DMg(Q:Sl→List UInt8→Prop)(dl:List ME)(P:List PutD):Prop where
 keys:∀ k,k∈kS dl↔k∈P.map (·.1)
 each:∀ k v b,(k,v,b)∈dl →∃ (s:Sl) (l:List UInt8),v=.slice s.base s.len s.cap∧Q s l∧(k,l)∈P
theorem DMg.mono{Q Q':Sl→List UInt8→Prop}{dl:List ME}{P:List PutD}(d:DMg Q dl P)(x:∀ s l,Q s l→Q' s l):DMg Q' dl P:=
 ⟨d.keys,fun k v b h=>by obtain⟨s,l,h1,h2,h3⟩:=d.each k v b h;exact⟨s,l,h1,x s l h2,h3⟩⟩
theorem DMg.nil(Q:Sl→List UInt8→Prop):DMg Q [] []:=⟨fun k=>by simp[kS],fun k v b h=>by simp at h⟩
theorem DMg.len{Q:Sl→List UInt8→Prop}{dl:List ME}{c:Nat}{P:List PutD}(d:DMg Q dl P)(w:MWf dl c)(o:PutsOk P):dl.length=P.length:=by
 have:=(List.perm_ext_iff_of_nodup w.keys o.nodup).2 d.keys
 have:=this.length_eq
 simpa [kS] using this
theorem DMg.put{Q:Sl→List UInt8→Prop}{dl:List ME}{c:Nat}{P:List PutD}(d:DMg Q dl P)(w:MWf dl c){k:Int}{l:List UInt8}{s:Sl}(sb:Q s l):DMg Q (mputL dl k (.slice s.base s.len s.cap) c) (putP P k l):=by
 have wk:=(w.put k (.slice s.base s.len s.cap)).keys
 refine⟨fun j=>?_,fun j v b h=>?_⟩
 ·rw[mputL_kS]
  have hp:j∈(putP P k l).map (·.1)↔j=k∨j∈P.map (·.1):=by
   simp only[List.mem_map,putP_mem]
   constructor
   ·rintro⟨p,rfl | ⟨h1,h2⟩,rfl⟩
    ·exact .inl rfl
    ·exact .inr ⟨p,h1,rfl⟩
   ·rintro(rfl | ⟨p,h1,rfl⟩)
    ·exact⟨_,.inl rfl,rfl⟩
    ·by_cases e:p.1=k
     ·exact⟨_,.inl rfl,e.symm⟩
     ·exact⟨p,.inr ⟨h1,e⟩,rfl⟩
  rw[hp,← d.keys]
  split
  ·rename_i h
   constructor
   ·exact .inr
   ·rintro(rfl | h')
    ·exact h
    ·exact h'
  ·simp[or_comm]
 ·rcases mputL_mem h with ⟨h1,h2⟩ | h'
  ·simp only at h1 h2
   subst h1 h2
   exact⟨s,l,rfl,sb,putP_mem.2 (.inl rfl)⟩
  ·obtain⟨s',l',e1,e2,e3⟩:=d.each j v b h'
   by_cases ej:j=k
   ·subst ej
    have g1:=mputL_get dl j (.slice s.base s.len s.cap) c j
    rw[if_pos rfl,(w.put j (.slice s.base s.len s.cap)).get h]at g1
    have hv:v=.slice s.base s.len s.cap:=Option.some.inj g1
    exact⟨s,l,hv,sb,putP_mem.2 (.inl rfl)⟩
   ·exact⟨s',l',e1,e2,putP_mem.2 (.inr ⟨e3,ej⟩)⟩
theorem DMg.at{Q:Sl→List UInt8→Prop}{dl:List ME}{dc:Nat}{P:List PutD}(d:DMg Q dl P)(w:MWf dl dc)(o:PutsOk P){p:PutD}(hp:p∈P):∃ s:Sl,mget dl p.1=some (.slice s.base s.len s.cap)∧Q s p.2:=by
 obtain⟨e,he,hk⟩:=List.mem_map.1 ((d.keys p.1).2 (List.mem_map.2 ⟨p,hp,rfl⟩))
 obtain⟨k,v,b⟩:=e
 simp only at hk;subst hk
 obtain⟨s,l,rfl,h2,h3⟩:=d.each _ v b he
 rw[o.uniq (k:=p.1) (l:=l) (l':=p.2) h3 hp]at h2
 exact⟨s,w.get he,h2⟩
theorem DMg.i64{P:List PutD}(o:PutsOk P){Q:Sl→List UInt8→Prop}{dl:List ME}(d:DMg Q dl P):∀ x∈kS dl,-9223372036854775808≤x∧x≤9223372036854775807:=by
 intro x hx
 obtain⟨p,hp,rfl⟩:=List.mem_map.1 ((d.keys x).1 hx)
 have:=o.2 p hp
 omega
def BR(G:Gh)(h:Hp)(s:Sl)(l:List UInt8):Prop:=Rd 1 h s (l.map bv)∧∀ a,s.base=some a→s.len≠0→Stab G h a.block
theorem BR.to{S:Kd→Prop}{G G':Gh}{h h':Hp}{s:Sl}{l:List UInt8}(x:BR G h s l)(y:To S G h G' h'):BR G' h' s l:=
 ⟨x.1.mv (B:=Stab G h) x.2 fun b hb=>(y.stab hb).1,fun a ha hn=>(y.stab (x.2 a ha hn)).2⟩
theorem BR.toB{c:Nat}{G G':Gh}{h h':Hp}{s:Sl}{l:List UInt8}(x:BR G h s l)(y:ToB c G h G' h')(hc:Mut (G.k c)):BR G' h' s l:=
 ⟨x.1.mv (B:=Stab G h) x.2 fun b hb=>(y.stab hc hb).1,fun a ha hn=>(y.stab hc (x.2 a ha hn)).2⟩
theorem SlB.br{G:Gh}{h:Hp}(t:HT G h){s:Sl}{l:List UInt8}(x:SlB G s l):BR G h s l:=⟨x.rd t,x.stab t⟩
structure StateIn(G:Gh)(h:Hp)(b mp:Nat)(last:Int)(P:List PutD):Prop where
 kb:G.k b=.one 21
 km:G.k mp=.one 22
 row:Row h b [.int .i64 last,.map (some mp)]
 map:∃ (dl:List ME) (dc:Nat),h[mp]? = some (mapO dl dc)∧MWf dl dc∧DMg (BR G h) dl P
 ok:PutsOk P
 w:∀ p∈P,G.W p.1 p.2
section
variable{G:Gh}{h:Hp}{b mp:Nat}{last:Int}{P:List PutD}
theorem StateIn.to{S:Kd→Prop}{G':Gh}{h':Hp}(x:StateIn G h b mp last P)(y:To S G h G' h')(h1:¬ S (.one 21))(h2:¬ S (.one 22)):StateIn G' h' b mp last P:=by
 obtain⟨dl,dc,m,w,d⟩:=x.map
 exact⟨y.kd x.kb (by simp),y.kd x.km (by simp),y.rowK x.row x.kb h1,⟨dl,dc,y.blk m (by rw[x.km];exact h2),w,d.mono fun _ _ h=>h.to y⟩,x.ok,fun p hp=>y.le.W _ _ (x.w p hp)⟩
theorem StateIn.ne(x:StateIn G h b mp last P):b≠mp:=fun e=>by have:=x.kb;rw[e,x.km]at this;cases this
theorem StateIn.put(t:HT G h)(x:StateIn G h b mp last P){k:Int}{l:List UInt8}{s:Sl}(sb:BR G h s l)(hk:0≤k∧k<258)(hl:l.length=40)(hw:G.W k l):∃ (dl:List ME) (dc:Nat),h[mp]? = some (mapO dl dc)∧
 ToB mp G h G (h.setIfInBounds mp (mput dl k (.slice s.base s.len s.cap) dc))∧StateIn G (h.setIfInBounds mp (mput dl k (.slice s.base s.len s.cap) dc)) b mp last (putP P k l):=by
 obtain⟨dl,dc,m,w,d⟩:=x.map
 have y:ToB mp G h G (h.setIfInBounds mp (mput dl k (.slice s.base s.len s.cap) dc)):=t.toB (by rw[x.km];exact fun h=>h) (by simp) fun c _ hc=>Array.getElem?_setIfInBounds_ne (Ne.symm hc)
 refine⟨dl,dc,m,y,x.kb,x.km,x.row.eq (Array.getElem?_setIfInBounds_ne (Ne.symm x.ne)),⟨_,_,by rw[Array.getElem?_setIfInBounds_self_of_lt (blk_lt m),mput_eq],w.put _ _,(d.put w sb).mono fun _ _ h=>h.toB y (by rw[x.km];trivial)⟩,x.ok.put hk hl,fun p hp=>?_⟩
 rcases putP_mem.1 hp with rfl | ⟨h,_⟩
 ·exact hw
 ·exact x.w p h
theorem StateIn.time(t:HT G h)(x:StateIn G h b mp last P)(v:Int):StOk h ⟨b,0,none⟩∧ToB b G h G (hset h ⟨b,0,none⟩ (.int .i64 v))∧StateIn G (hset h ⟨b,0,none⟩ (.int .i64 v)) b mp v P:=by
 obtain⟨ok,r,o,s⟩:=x.row.set0 (by simp) (.int .i64 v)
 obtain⟨dl,dc,m,w,d⟩:=x.map
 have r:Row (hset h ⟨b,0,none⟩ (.int .i64 v)) b [.int .i64 v,.map (some mp)]:=r
 have y:ToB b G h G (hset h ⟨b,0,none⟩ (.int .i64 v)):=t.toB (by rw[x.kb];exact fun h=>h) (by omega) fun c _ hc=>o c hc
 exact⟨ok,y,x.kb,x.km,r,⟨dl,dc,by rw[o _ (Ne.symm x.ne)];exact m,w,d.mono fun _ _ h=>h.toB y (by rw[x.kb];trivial)⟩,x.ok,x.w⟩
theorem stateNew(t:HT G h){ty:Nat}:∃ G':Gh,To (fun _=>False) G h G' (alc (h.push (mapO [] 0)) [.int .i64 (0:Int),.map (some h.size)] ty)∧G'.W=G.W∧StateIn G' (alc (h.push (mapO [] 0)) [.int .i64 (0:Int),.map (some h.size)] ty) (h.size+1) h.size 0 []:=by
 have e1:Ext h (h.push (mapO [] 0)):=Ext.push _ _
 have e2:Ext (h.push (mapO [] 0)) (alc (h.push (mapO [] 0)) [.int .i64 (0:Int),.map (some h.size)] ty):=alc_ext _ _ _
 have r:Row (alc (h.push (mapO [] 0)) [.int .i64 (0:Int),.map (some h.size)] ty) (h.size+1) [.int .i64 (0:Int),.map (some h.size)]:=by
  have:=Row.alc (h.push (mapO [] 0)) [.int .i64 (0:Int),.map (some h.size)] ty
  simpa using this
 have m:(alc (h.push (mapO [] 0)) [.int .i64 (0:Int),.map (some h.size)] ty)[h.size]? = some (mapO [] 0):=by
  rw[alc_old _ _ _ (by simp)];simp
 obtain⟨y1,k1,W1⟩:=t.kindNew (e1.trans e2) (b:=h.size) (Nat.le_refl _) (blk_lt m) (k := .one 22) id
 have kb:(G.set h.size (.one 22) 0).k (h.size+1)=.any:=by rw[Gh.set_ne (by omega)];exact t.fresh (by omega)
 have t3:=y1.ht.setOne kb r.lt (k := .one 21) id
 exact⟨_,y1.give (Gh.set_le kb (Nat.le_refl _)) t3 (s:=⟨some ⟨h.size+1,0,none⟩,0,0⟩) (fun a ha=>by cases ha;show h.size≤h.size+1;omega) fun c hc=>Gh.set_ne (hc _ rfl),rfl,Gh.set_k,by rw[Gh.set_ne (by omega)];exact k1,r,⟨[],0,m,MWf.nil 0,DMg.nil _⟩,PutsOk.nil,fun p hp=>by simp at hp⟩
theorem rowsB_cons{P:List PutD}{j:Nat}(hj:j<P.length):rowsB (P.drop j)=leB 4 P[j].1.toNat++(P[j].2++rowsB (P.drop (j+1))):=by
 unfold rowsB
 rw[List.drop_eq_getElem_cons hj,List.flatMap_cons,List.append_assoc]
theorem parse_spec(t:HT G h){s:Sl}{tx:List UInt8}(sl:SlB G s tx)(ok:TextOk G.W tx):HC Tryz.prog 69 #[.slice s.base s.len s.cap] h fun r h'=>∃ (b mp:Nat) (last:Int) (P:List PutD) (G':Gh),r=.tuple #[pv b,.bool true]∧To (fun _=>False) G h G' h'∧G'.W=G.W∧StateIn G' h' b mp last P∧(0≤last∧last≤1099511627776)∧(P ≠ []→1≤last)∧(tx = []→P = []∧last=0):=by
 apply wc69
 unfold vc69
 obtain⟨G1,y1,W1,x1⟩:=stateNew t (ty:=151)
 have hb:(nw (h.push (mapO [] 0)))=⟨h.size+1,0,none⟩:=by simp[nw]
 show IfB _ _ _
 rw[hb]
 have hsl:=sl.slen
 generalize hh1:alc (h.push (mapO [] 0)) [.int .i64 (0:Int),.map (some h.size)] 151=h1 at *
 refine IfB.eq (fun h0=>?_) (fun h0=>?_)
 ·exact⟨_,_,0,[],G1,rfl,y1,W1,x1,by omega,fun h=>absurd rfl h,fun _=>⟨rfl,rfl⟩⟩
 rcases ok with rfl | ⟨last,P,rfl,hla,hP,hw,hne⟩
 ·exact absurd (by rw[hsl];rfl) h0
 have hlen:=textB_len (last:=last) hP
 have h258:=hP.le258
 have sl1:=sl.mono y1.le
 refine(Get64_spec (sl1.rd y1.ht)).mono ?_
 rintro _ _ ⟨rfl,hh⟩
 obtain rfl:=hh.symm
 have g64:getR 8 (textB last P)=(last.toNat,true):=by
  rw[getR_of (by omega)]
  unfold textB
  rw[List.take_left' (leB_length 8 _),leB_leN_mod 8 _ (by omega)]
 rw[g64]
 refine⟨_,_,rfl,.no rfl (IfB.dec (fun hh=>by exfalso;omega) fun _=>⟨by decide,IfB.ne (fun hh=>?_) fun _=>?_⟩)⟩
 ·exfalso;apply hh;rw[iRem_nn (by omega),hsl,hlen];omega
 obtain⟨ok2,b2,x2⟩:=x1.time y1.ht (iConv .i64 (last.toNat:Int))
 have ec:iConv .i64 (last.toNat:Int)=last:=by rw[iConv64 (by omega)];omega
 rw[ec]at b2 x2
 have ec':iConv .i64 ((((last.toNat,true):Nat × Bool).1:Nat):Int)=last:=ec
 refine⟨_,rfl,ok2,?_⟩
 rw[ec']
 have hs1:h.size<h1.size:=Nat.lt_of_lt_of_le (Nat.lt_succ_self _) (Nat.le_of_lt x1.row.lt)
 have y2:=b2.new y1 (by omega)
 refine⟨by omega,by rw[hsl,hlen];omega,by have:=sl.2.1;omega,by omega,?_⟩
 have cut0:SlB G1 (cutSl s (8:Int) (s.len:Int) (s.cap:Int) 1) (rowsB (P.drop 0)):=by
  have:=sl1.cut (lo:=8) (hi:=s.len) (m:=s.cap) (by omega) (Nat.le_refl _) sl.2.1
  rw[List.take_of_length_le (by rw[List.length_drop];omega)]at this
  unfold textB at this
  rw[List.drop_left' (leB_length 8 _)]at this
  simpa using this
 refine⟨fun l m h'=>∃ (j:Nat) (Q:List PutD),m+j=P.length∧To (fun _=>False) G h G1 h'∧StateIn G1 h' (h.size+1) h.size last Q∧SlB G1 l (rowsB (P.drop j))∧(Q ≠ []→1≤last),P.length,⟨0,[],rfl,y2,x2,cut0,fun h=>absurd rfl h⟩,?_⟩
 rintro _ l m h3 ⟨j,Q,hm,y3,x3,b3,hQ⟩
 have hl3:=b3.slen
 have hdl:(rowsB (P.drop j)).length=44*(P.length-j):=by rw[rowsB_len fun p hp=>(hP.2 p (List.mem_of_mem_drop hp)).2.2,List.length_drop]
 refine IfB.dec (fun hlt=>?_) (fun hge=>?_)
 ·have hj:j<P.length:=by omega
  have pj:=hP.2 _ (List.getElem_mem hj)
  have er:=rowsB_cons hj
  refine(Get32_spec (b3.rd y3.ht)).mono ?_
  rintro _ _ ⟨rfl,hh⟩
  obtain rfl:=hh.symm
  have g32:getR 4 (rowsB (P.drop j))=(P[j].1.toNat,true):=by
   rw[getR_of (by omega),er,List.take_left' (leB_length 4 _),leB_leN_mod 4 _ (by omega)]
  rw[g32]
  have hcap:=b3.2.1
  have c1:=b3.cut (lo:=4) (hi:=44) (m:=l.cap) (by omega) (by omega) (by omega)
  have c2:=b3.cut (lo:=44) (hi:=l.len) (m:=l.cap) (by omega) (Nat.le_refl _) (by omega)
  rw[er,List.drop_left' (leB_length 4 _),List.take_left' (by rw[pj.2.2])]at c1
  have ed:((rowsB (P.drop j)).drop 44).take (l.len-44)=rowsB (P.drop (j+1)):=by
   rw[List.take_of_length_le (by rw[List.length_drop];omega),er,← List.append_assoc,List.drop_left' (by rw[List.length_append,leB_length,pj.2.2])]
  rw[ed]at c2
  have ec2:iConv .i64 (P[j].1.toNat:Int)=P[j].1:=by rw[iConv64 (by omega)];omega
  obtain⟨dl,dc,hm3,b4,x4⟩:=x3.put y3.ht (c1.br y3.ht) ⟨pj.1,pj.2.1⟩ pj.2.2 (by rw[W1];exact hw _ (List.getElem_mem hj))
  refine⟨_,_,rfl,h3,.refl _,_,rfl,_,x3.row.get rfl,by omega,by omega,by omega,by omega,h.size,dl,dc,rfl,hm3,?_⟩
  have ec3:iConv .i64 ((((P[j].1.toNat,true):Nat × Bool).1:Nat):Int)=P[j].1:=ec2
  rw[ec3]
  exact⟨by omega,by omega,by omega,by omega,m-1,by omega,j+1,_,by omega,b4.new y3 (Nat.le_refl _),x4,c2,fun _=>hne fun e=>by rw[e]at hj;simp at hj⟩
 ·exact⟨_,_,last,Q,G1,rfl,y3,W1,x3,hla,hQ,fun e=>by have:=congrArg List.length e;rw[hlen]at this;simp at this⟩
theorem stPuts_spec(t:HT G h)(x:StateIn G h b mp last P):HC Tryz.prog 77 #[pv b] h fun r h'=>∃ s:Sl,r=.slice s.base s.len s.cap∧To (fun _=>False) G h G h'∧PutsR (Stab G h') h' s P:=by
 apply wc77
 unfold vc77
 obtain⟨dl,dc,em,w,d⟩:=x.map
 have r:=x.row
 have hlen:=d.len w x.ok
 have hl16:=x.ok.le258
 refine⟨_,rfl,_,r.get rfl,?_⟩
 refine sortedD em w (d.i64 x.ok) (by omega) fun s ks h1 o1 p m n q e1=>?_
 obtain rfl:ks=P.map (·.1):=x.ok.sorted p fun k=>by rw[m,d.keys]
 have hks:s.len=P.length:=by rw[q];simp
 have t1:=t.ext e1
 refine⟨fun out i m h'=>∃ (j:Nat) (L:List ((Int × Sl) × List UInt8)),i=j∧m+j=P.length∧To (fun _=>False) G h1 G h'∧OwnN h1.size 2 G h' out (c2 (L.map (·.1)))∧(∀ x∈L,BR G h x.1.2 x.2)∧L.map (fun x=>(x.1.1,x.2))=P.take j,
  P.length,⟨0,[],rfl,rfl,.refl t1,OwnN.nil _ _ _ _,fun x hx=>by simp at hx,rfl⟩,?_⟩
 rintro _ out _ m h2 ⟨j,L,rfl,hm,y2,o2,ok2,hL⟩
 have hLl:L.length=j:=by have:=congrArg List.length hL;rw[List.length_map,List.length_take]at this;omega
 have hol:=o2.own.len
 rw[c2_length,List.length_map]at hol
 refine IfB.dec (fun hlt=>?_) (fun hge=>?_)
 ·have hj:j<P.length:=by omega
  have e2:=y2.toExt
  obtain⟨sv,hg,hb⟩:=d.at w x.ok (List.getElem_mem hj)
  refine ix1 (o1.rd.ext e2) (by simpa using hks.symm) j rfl (by simpa using hj) fun a _ hc=>⟨P[j].1,by simpa using hc,_,rfl,_,((r.ext e1).ext e2).get rfl,dl,dc,?_,sv,by rw[hg];rfl,?_⟩
  ·exact(e2.block mp (Nat.lt_of_lt_of_le (blk_lt em) e1.size)).trans ((e1.block mp (blk_lt em)).trans em)
  ·refine OwnN.push (l:=c2 (L.map (·.1))) y2 rfl o2 rfl (by simp[cellOk]) (by omega) (by omega) fun r' h5 y5 o5 l5 _ _=>⟨m-1,by omega,j+1,L ++ [((P[j].1,sv),P[j].2)],by rw[iAdd64 (by omega)];push_cast;rfl,by omega,y5,?_,?_,?_⟩
   ·rw[List.map_append,c2_append];exact o5
   ·intro z hz
    rcases List.mem_append.1 hz with hz | hz
    ·exact ok2 z hz
    ·simp only[List.mem_cons,List.not_mem_nil,or_false]at hz;subst hz;exact hb
   ·rw[List.map_append,hL,List.take_succ_eq_append_getElem hj];rfl
 ·obtain rfl:j=P.length:=by omega
  rw[List.take_length]at hL
  have y3:=(e1.to t).trans y2
  refine⟨out,rfl,y3,L,hL.symm,o2.own.toRd,fun a ha _=>⟨(o2.own.lt ha).2,by rw[o2.any a ha];exact fun h=>h⟩,fun z hz=>(ok2 z hz).to y3⟩
end
end Go.Proofs.YtdpdkpfnfllipaaGreatDoor

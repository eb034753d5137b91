/- A part of the proof, no condition. -/
import Derived.Deep.LoopGhost
import Derived.KernelRfl
import Derived.OrdersHeld
import Derived.Scope
import Derived.WalkKit
set_option linter.unusedVariables false
set_option linter.unusedSimpArgs false
namespace Go.Proofs.YtdpdkpfnfllipaaGreatDoor
abbrev Hp:=Array Obj
def hw(h:Hp):World:={ (default:World) with heap:=h }
def hY(h:Hp)(a:Addr):Option Value:=(hw h).cell? a
def hfroz(h:Hp)(a:Addr):Bool:=(hw h).frozen? a
def hset(h:Hp)(a:Addr)(v:Value):Hp:=((hw h).setCell a v).heap
def hmark(h:Hp)(a:Addr)(n:Nat):Hp:=((hw h).freeze a n).heap
def hshape(h:Hp)(r:Nat):Option (TypeId × Nat):=(hw h).shape? r
theorem hcell_heap(w:World)(a:Addr):w.cell? a=hY w.heap a:=rfl
theorem hfroz_heap(w:World)(a:Addr):w.frozen? a=hfroz w.heap a:=rfl
theorem hmark_heap(w:World)(a:Addr)(n:Nat):(w.freeze a n).heap=hmark w.heap a n:=by
 unfold hmark World.freeze;split <;> rfl
structure Same(w w':World):Prop where
 os:w'.os=w.os
 tape:w'.tape=w.tape
 output:w'.output=w.output
theorem Same.refl(w:World):Same w w:=⟨rfl,rfl,rfl⟩
theorem Same.trans{a b c:World}(h:Same a b)(g:Same b c):Same a c:=⟨g.os.trans h.os,g.tape.trans h.tape,g.output.trans h.output⟩
theorem Same.freeze(w:World)(a:Addr)(n:Nat):Same w (w.freeze a n):=by
 unfold World.freeze;split <;> exact⟨rfl,rfl,rfl⟩
def hrun(P:Program){α:Type}:Sem α→Hp→(α→Hp→Prop)→Prop
 | .pure a,h,K=>K a h
 | .load _ a k,h,K=>match hY h a with | some v=>hrun P (k v) h K | none=>False
 | .store _ _ (.agg _) _,_,_ | .store _ _ (.tuple _) _,_,_=>False
 | .store _ a v k,h,K=>(hY h a).isSome=true∧hfroz h a=false∧hrun P k (hset h a v) K
 | .new o k,h,K=>hrun P (k h.size) (h.push o) K
 | .shape r k,h,K=>hrun P (k (hshape h r)) h K
 | .freeze a n k,h,K=>hrun P k (hmark h a n) K
 | .frozen a k,h,K=>hrun P (k (hfroz h a)) h K
 | .getObj r k,h,K=>match h[r]? with
   | some (.map es c)=>hrun P (k (.map es c)) h K
   | some (.mapIter a b c d)=>hrun P (k (.mapIter a b c d)) h K
   | _=>False
 | .setObj r o k,h,K=>match h[r]? with
   | some (.map _ _)=>hrun P k (h.setIfInBounds r o) K
   | some (.mapIter _ _ _ _)=>hrun P k (h.setIfInBounds r o) K
   | _=>False
 | .choose q k,h,K=>∀ t:Nat,hrun P (k (if q.forced then 0 else q.cut t)) h K
 | .sys _ _,_,_=>False
 | .program k,h,K=>hrun P (k P) h K
 | .mark _ k,h,K=>hrun P k h K
 | .halt _,_,_=>False
theorem hrun_sound{P:Program}{α:Type}(s:Sem α):∀ (w:World) (K:α→Hp→Prop),hrun P s w.heap K →
 ∃ a w',s.run P w=.ok a w'∧Same w w'∧K a w'.heap:=by
 induction s with
 | pure a=>exact fun w K h=>⟨a,w,rfl,.refl w,h⟩
 | load m a k ih=>
   intro w K h
   simp only[hrun]at h
   split at h
   ·rename_i v hv
    obtain⟨b,w',hr,hs,hk⟩:=ih v w K h
    exact⟨b,w',by simp only[Sem.run,hcell_heap,hv];exact hr,hs,hk⟩
   ·exact h.elim
 | store m a v k ih=>
   intro w K h
   have hh:(hY w.heap a).isSome=true∧hfroz w.heap a=false∧hrun P k (hset w.heap a v) K∧(∀ c,v ≠ .agg c)∧(∀ c,v ≠ .tuple c):=by
    cases v <;> first | exact(h:False).elim | (obtain⟨h1,h2,h3⟩:=h;exact⟨h1,h2,h3,by simp,by simp⟩)
   obtain⟨h1,h2,h3,h4,h5⟩:=hh
   obtain⟨u,hu⟩:=Option.isSome_iff_exists.1 h1
   obtain⟨b,w',hr,hs,hk⟩:=ih (w.setCell a v) K h3
   refine⟨b,w',?_,(Same.mk rfl rfl rfl:Same w (w.setCell a v)).trans hs,hk⟩
   cases v <;> first | exact absurd rfl (h4 _) | exact absurd rfl (h5 _) | (simp only[Sem.run,hcell_heap,hu,hfroz_heap,h2];exact hr)
 | new o k ih=>
   intro w K h
   obtain⟨b,w',hr,hs,hk⟩:=ih w.heap.size { w with heap:=w.heap.push o } K h
   exact⟨b,w',hr,(Same.mk rfl rfl rfl:Same w { w with heap:=w.heap.push o }).trans hs,hk⟩
 | shape r k ih=>
   intro w K h
   exact ih _ w K h
 | freeze a n k ih=>
   intro w K h
   obtain⟨b,w',hr,hs,hk⟩:=ih (w.freeze a n) K (by rw[hmark_heap];exact h)
   exact⟨b,w',hr,(Same.freeze w a n).trans hs,hk⟩
 | frozen a k ih=>
   intro w K h
   exact ih _ w K h
 | getObj r k ih=>
   intro w K h
   simp only[hrun]at h
   split at h
   ·rename_i es c hv
    obtain⟨b,w',hr,hs,hk⟩:=ih _ w K h
    exact⟨b,w',by simp only[Sem.run,hv];exact hr,hs,hk⟩
   ·rename_i hv
    obtain⟨b,w',hr,hs,hk⟩:=ih _ w K h
    exact⟨b,w',by simp only[Sem.run,hv];exact hr,hs,hk⟩
   ·exact h.elim
 | setObj r o k ih=>
   intro w K h
   simp only[hrun]at h
   split at h
   ·rename_i es c hv
    obtain⟨b,w',hr,hs,hk⟩:=ih { w with heap:=w.heap.setIfInBounds r o } K h
    exact⟨b,w',by simp only[Sem.run,hv];exact hr,(Same.mk rfl rfl rfl:Same w { w with heap:=w.heap.setIfInBounds r o }).trans hs,hk⟩
   ·rename_i hv
    obtain⟨b,w',hr,hs,hk⟩:=ih { w with heap:=w.heap.setIfInBounds r o } K h
    exact⟨b,w',by simp only[Sem.run,hv];exact hr,(Same.mk rfl rfl rfl:Same w { w with heap:=w.heap.setIfInBounds r o }).trans hs,hk⟩
   ·exact h.elim
 | choose q k ih=>
   intro w K h
   have h':=h (w.tape w.drawn q)
   by_cases hf:q.forced=true
   ·rw[if_pos hf]at h'
    obtain⟨b,w',hr,hs,hk⟩:=ih _ w K h'
    exact⟨b,w',by simp only[Sem.run,hf,if_true];exact hr,hs,hk⟩
   ·rw[if_neg hf]at h'
    obtain⟨b,w',hr,hs,hk⟩:=ih _ { w with drawn:=w.drawn+1 } K h'
    exact⟨b,w',by simp only[Sem.run,hf];exact hr,(Same.mk rfl rfl rfl:Same w { w with drawn:=w.drawn+1 }).trans hs,hk⟩
 | sys=>exact fun _ _ h=>(h:False).elim
 | program k ih=>exact fun w K h=>ih P w K h
 | mark m k ih=>exact fun w K h=>ih w K h
 | halt=>exact fun _ _ h=>(h:False).elim
theorem hrun_mono{P:Program}{α:Type}(s:Sem α):∀ (h:Hp) (K K':α→Hp→Prop),(∀ a h,K a h→K' a h)→hrun P s h K→hrun P s h K':=by
 induction s with
 | pure a=>exact fun h K K' hk H=>hk _ _ H
 | load m a k ih=>intro h K K' hk H;simp only[hrun]at H ⊢;split at H;(exact ih _ _ _ _ hk H);(exact H.elim)
 | store m a v k ih=>intro h K K' hk H;cases v <;> first | exact(H:False).elim | exact⟨H.1,H.2.1,ih _ _ _ hk H.2.2⟩
 | new o k ih=>exact fun h K K' hk H=>ih _ _ _ _ hk H
 | shape r k ih=>exact fun h K K' hk H=>ih _ _ _ _ hk H
 | freeze a n k ih=>exact fun h K K' hk H=>ih _ _ _ hk H
 | frozen a k ih=>exact fun h K K' hk H=>ih _ _ _ _ hk H
 | getObj r k ih=>intro h K K' hk H;simp only[hrun]at H ⊢;split at H;(exact ih _ _ _ _ hk H);(exact ih _ _ _ _ hk H);(exact H.elim)
 | setObj r o k ih=>intro h K K' hk H;simp only[hrun]at H ⊢;split at H;(exact ih _ _ _ hk H);(exact ih _ _ _ hk H);(exact H.elim)
 | choose q k ih=>exact fun h K K' hk H t=>ih _ _ _ _ hk (H t)
 | sys=>exact fun _ _ _ _ h=>(h:False).elim
 | program k ih=>exact fun h K K' hk H=>ih _ _ _ _ hk H
 | mark m k ih=>exact fun h K K' hk H=>ih _ _ _ hk H
 | halt=>exact fun _ _ _ _ h=>(h:False).elim
theorem hrun_bind{P:Program}{α β:Type}(s:Sem α)(f:α→Sem β):∀ (h:Hp) (K:β→Hp→Prop),hrun P s h (fun a h'=>hrun P (f a) h' K)→hrun P (s >>= f) h K:=by
 show ∀ (h:Hp) (K:β→Hp→Prop),hrun P s h (fun a h'=>hrun P (f a) h' K)→hrun P (s.bind f) h K
 induction s with
 | pure a=>exact fun h K H=>H
 | load m a k ih=>intro h K H;simp only[hrun,Sem.bind]at H ⊢;split at H;(exact ih _ _ _ H);(exact H.elim)
 | store m a v k ih=>intro h K H;cases v <;> first | exact(H:False).elim | exact⟨H.1,H.2.1,ih _ _ H.2.2⟩
 | new o k ih=>exact fun h K H=>ih _ _ _ H
 | shape r k ih=>exact fun h K H=>ih _ _ _ H
 | freeze a n k ih=>exact fun h K H=>ih _ _ H
 | frozen a k ih=>exact fun h K H=>ih _ _ _ H
 | getObj r k ih=>intro h K H;simp only[hrun,Sem.bind]at H ⊢;split at H;(exact ih _ _ _ H);(exact ih _ _ _ H);(exact H.elim)
 | setObj r o k ih=>intro h K H;simp only[hrun,Sem.bind]at H ⊢;split at H;(exact ih _ _ H);(exact ih _ _ H);(exact H.elim)
 | choose q k ih=>exact fun h K H t=>ih _ _ _ (H t)
 | sys=>exact fun _ _ h=>(h:False).elim
 | program k ih=>exact fun h K H=>ih _ _ _ H
 | mark m k ih=>exact fun h K H=>ih _ _ H
 | halt=>exact fun _ _ h=>(h:False).elim
def prun(P:Program){α:Type}:Sem α→Hp→(α→Prop)→Prop
 | .pure a,_,K=>K a
 | .load _ a k,h,K=>match hY h a with | some v=>prun P (k v) h K | none=>False
 | .program k,h,K=>prun P (k P) h K
 | .mark _ k,h,K=>prun P k h K
 | .getObj r k,h,K=>match h[r]? with | some (.map es c)=>prun P (k (.map es c)) h K | _=>False
 | _,_,_=>False
structure Ext(h h':Hp):Prop where
 size:h.size≤h'.size
 block:∀ b,b<h.size→h'[b]? = h[b]?
theorem Ext.refl(h:Hp):Ext h h:=⟨Nat.le_refl _,fun _ _=>rfl⟩
theorem Ext.trans{a b c:Hp}(h:Ext a b)(g:Ext b c):Ext a c:=⟨Nat.le_trans h.size g.size,fun k hk=>(g.block k (Nat.lt_of_lt_of_le hk h.size)).trans (h.block k hk)⟩
theorem Ext.push(h:Hp)(o:Obj):Ext h (h.push o):=⟨by simp,fun b hb=>by simp[Array.getElem?_push,Nat.ne_of_lt hb]⟩
theorem Ext.cell{h h':Hp}(e:Ext h h'){a:Addr}{v:Value}(hc:hY h a=some v):hY h' a=some v:=by
 have hlt:a.block<h.size:=World.block_lt_of_cell? (hw h) a hc
 unfold hY World.cell? at *
 have:=e.block a.block hlt
 simp only[hw]at *
 rw[this];exact hc
structure Sub(h h':Hp):Prop where
 cell:∀ (a:Addr) (v:Value),hY h a=some v→hY h' a=some v
 map:∀ (r:Nat) (es:Array MapEntry) (c:Nat),h[r]? = some (.map es c)→h'[r]? = some (.map es c)
theorem Sub.refl(h:Hp):Sub h h:=⟨fun _ _ h=>h,fun _ _ _ h=>h⟩
theorem Ext.sub{h h':Hp}(e:Ext h h'):Sub h h':=⟨fun _ _ hc=>e.cell hc,fun r _ _ hm=>by rw[e.block r (Array.getElem?_eq_some_iff.1 hm).1];exact hm⟩
theorem prun_sound{P:Program}{α:Type}(s:Sem α):∀ (h:Hp) (K:α→Prop),prun P s h K →∃ a,K a∧∀ w:World,Sub h w.heap→s.run P w=.ok a w:=by
 induction s with
 | pure a=>exact fun h K H=>⟨a,H,fun _ _=>rfl⟩
 | load m a k ih=>
   intro h K H
   simp only[prun]at H
   split at H
   ·rename_i v hv
    obtain⟨b,hk,hr⟩:=ih _ _ _ H
    exact⟨b,hk,fun w e=>by simp only[Sem.run,hcell_heap,e.cell _ _ hv];exact hr w e⟩
   ·exact H.elim
 | getObj r k ih=>
   intro h K H
   simp only[prun]at H
   split at H
   ·rename_i es c hv
    obtain⟨b,hk,hr⟩:=ih _ _ _ H
    exact⟨b,hk,fun w e=>by simp only[Sem.run,e.map _ _ _ hv];exact hr w e⟩
   ·exact H.elim
 | program k ih=>exact fun h K H=>let ⟨b,hk,hr⟩:=ih _ _ _ H;⟨b,hk,fun w e=>hr w e⟩
 | mark m k ih=>exact fun h K H=>let ⟨b,hk,hr⟩:=ih _ _ H;⟨b,hk,fun w e=>hr w e⟩
 | _=>exact fun _ _ h=>(h:False).elim
theorem prun_mono{P:Program}{α:Type}(s:Sem α):∀ (h:Hp) (K K':α→Prop),(∀ a,K a→K' a)→prun P s h K→prun P s h K':=by
 induction s with
 | pure a=>exact fun h K K' hk H=>hk _ H
 | load m a k ih=>intro h K K' hk H;simp only[prun]at H ⊢;split at H;(exact ih _ _ _ _ hk H);(exact H.elim)
 | getObj r k ih=>intro h K K' hk H;simp only[prun]at H ⊢;split at H;(exact ih _ _ _ _ hk H);(exact H.elim)
 | program k ih=>exact fun h K K' hk H=>ih _ _ _ _ hk H
 | mark m k ih=>exact fun h K K' hk H=>ih _ _ _ hk H
 | _=>exact fun _ _ _ _ h=>(h:False).elim
theorem prun_bind{P:Program}{α β:Type}(s:Sem α)(f:α→Sem β):∀ (h:Hp) (K:β→Prop),prun P s h (fun a=>prun P (f a) h K)→prun P (s >>= f) h K:=by
 show ∀ (h:Hp) (K:β→Prop),prun P s h (fun a=>prun P (f a) h K)→prun P (s.bind f) h K
 induction s with
 | pure a=>exact fun h K H=>H
 | load m a k ih=>intro h K H;simp only[prun,Sem.bind]at H ⊢;split at H;(exact ih _ _ _ H);(exact H.elim)
 | getObj r k ih=>intro h K H;simp only[prun,Sem.bind]at H ⊢;split at H;(exact ih _ _ _ H);(exact H.elim)
 | program k ih=>exact fun h K H=>ih _ _ _ H
 | mark m k ih=>exact fun h K H=>ih _ _ H
 | _=>exact fun _ _ h=>(h:False).elim
structure Sl where
 base:Option Addr
 len:Nat
 cap:Nat
def Sl.nil:Sl:=⟨none,0,0⟩
inductive Sh where
 | int (k:IntKind) | bool | sl | ptr | str | map | val
@[reducible] def Sh.T:Sh→Type
 | .int _=>Int | .bool=>Bool | .sl=>Sl | .ptr=>Option Addr | .str=>ByteArray | .map=>Option Nat | .val=>Value
def Sh.inj:(s:Sh)→s.T→Value
 | .int k,n=>.int k n
 | .bool,b=>.bool b
 | .sl,s=>.slice s.base s.len s.cap
 | .ptr,p=>.pointer p
 | .str,s=>.string s
 | .map,m=>.map m
 | .val,v=>v
def Sh.proj:(s:Sh)→Value→(s.T→Prop)→Prop
 | .int k,.int k' n,f=>if k=k' then f n else False
 | .bool,.bool b,f=>f b
 | .sl,.slice a l c,f=>f ⟨a,l,c⟩
 | .ptr,.pointer p,f=>f p
 | .str,.string s,f=>f s
 | .map,.map m,f=>f m
 | .val,v,f=>f v
 | _,_,_=>False
theorem Sh.proj_spec:∀ (s:Sh) (v:Value) (f:s.T→Prop),s.proj v f →∃ x:s.T,v=s.inj x∧f x
 | .int k,.int k' n,f,h=>by
   simp only[Sh.proj]at h
   split at h
   ·rename_i e;subst e;exact⟨n,rfl,h⟩
   ·exact h.elim
 | .bool,.bool b,f,h=>⟨b,rfl,h⟩
 | .sl,.slice a l c,f,h=>⟨⟨a,l,c⟩,rfl,h⟩
 | .ptr,.pointer p,f,h=>⟨p,rfl,h⟩
 | .str,.string s,f,h=>⟨s,rfl,h⟩
 | .map,.map m,f,h=>⟨m,rfl,h⟩
 | .val,v,f,h=>⟨v,rfl,h⟩
def shOf:Value→Sh
 | .int k _=>.int k
 | .bool _=>.bool
 | .slice .. => .sl
 | .pointer _=>.ptr
 | .string _=>.str
 | .map _=>.map
 | _=>.val
inductive TyS where
 | one (s:Sh)
 | agg (l:List Sh)
def tyOf:Value→TyS
 | .agg cs=>.agg (cs.toList.map shOf)
 | v=>.one (shOf v)
def zeroOf(P:Program)(t:TypeId):Value:=((P.info? t).bind (·.zero)).getD undef
def resTys(P:Program)(t:TypeId):List TyS:=
 match zeroOf P t with
 | .tuple vs=>vs.toList.map tyOf
 | z=>[tyOf z]
def exL:List Sh→List Value→(List Value→Prop)→Prop
 | [],acc,K=>K acc.reverse
 | s::l,acc,K=>∃ x:s.T,exL l (s.inj x::acc) K
theorem exL_spec:∀ (l:List Sh) (acc:List Value) (K:List Value→Prop),exL l acc K →∃ vs,K vs
 | [],acc,K,h=>⟨acc.reverse,h⟩
 | s::l,acc,K,⟨x,h⟩=>exL_spec l _ K h
def exTy:TyS→(Value→Prop)→Prop
 | .one s,K=>∃ x:s.T,K (s.inj x)
 | .agg l,K=>exL l [] (fun vs=>K (.agg vs.toArray))
theorem exTy_spec:∀ (t:TyS) (K:Value→Prop),exTy t K →∃ v,K v
 | .one _,_,⟨_,h⟩=>⟨_,h⟩
 | .agg l,_,h=>let ⟨_,h'⟩:=exL_spec l _ _ h;⟨_,h'⟩
def exTys:List TyS→List Value→(List Value→Prop)→Prop
 | [],acc,K=>K acc.reverse
 | t::l,acc,K=>exTy t (fun v=>exTys l (v::acc) K)
theorem exTys_spec:∀ (l:List TyS) (acc:List Value) (K:List Value→Prop),exTys l acc K →∃ vs,K vs
 | [],acc,K,h=>⟨acc.reverse,h⟩
 | t::l,acc,K,h=>let ⟨_,h'⟩:=exTy_spec t _ h;exTys_spec l _ K h'
def iAdd(k:IntKind)(a b:Int):Int:=k.wrap (a+b)
def iSub(k:IntKind)(a b:Int):Int:=k.wrap (a-b)
def iMul(k:IntKind)(a b:Int):Int:=k.wrap (a*b)
def iQuo(k:IntKind)(a b:Int):Int:=k.wrap (a.tdiv b)
def iRem(a b:Int):Int:=a.tmod b
def iAnd(k:IntKind)(a b:Int):Int:=k.wrap (BitVec.ofInt k.bits a &&& BitVec.ofInt k.bits b).toNat
def iOr(k:IntKind)(a b:Int):Int:=k.wrap (BitVec.ofInt k.bits a ||| BitVec.ofInt k.bits b).toNat
def iXor(k:IntKind)(a b:Int):Int:=k.wrap (BitVec.ofInt k.bits a ^^^ BitVec.ofInt k.bits b).toNat
def iShl(k:IntKind)(a b:Int):Int:=k.wrap (a*2 ^ (min b.toNat k.bits))
def iShr(k:IntKind)(a b:Int):Int:=a.fdiv (2 ^ (min b.toNat k.bits))
def iNot(k:IntKind)(a:Int):Int:=iXor k (if k.signed then -1 else k.max) a
def iNeg(k:IntKind)(a:Int):Int:=iSub k 0 a
def iConv(k:IntKind)(a:Int):Int:=k.wrap a
def IfB(b:Bool)(A B:Prop):Prop:=(b=true→A)∧(b=false→B)
structure St where
 env:Nat→Value
 kn:Nat→Option Bool
def upd{α:Type}(f:Nat→α)(d:Nat)(v:α):Nat→α:=fun i=>if i=d then v else f i
def St.ev(st:St):Operand→Value
 | .tmp t=>st.env t
 | .const v=>v
 | .global g=>.pointer (some ⟨g,0,none⟩)
 | .func f=>.func (.func f) #[] #[]
def St.put(st:St):Option Tmp→Value→Option Bool→St
 | none,_,_=>st
 | some d,v,b=>⟨upd st.env d v,upd st.kn d b⟩
def St.know(st:St)(d:Nat)(b:Bool):St:=⟨upd st.env d (.bool b),upd st.kn d (some b)⟩
def St.knOp(st:St):Operand→Option Bool
 | .tmp t=>st.kn t
 | .const (.bool b)=>some b
 | _=>none
def St.fine(st:St):Prop:=∀ t b,st.kn t=some b→st.env t=.bool b
def ldCells(h:Hp)(a:Addr):Nat→List Value→Prop→Prop
 | _,[],Q=>Q
 | i,v::r,Q=>hY h (a.add i)=some v∧ldCells h a (i+1) r Q
def ldOk(P:Program)(t:TypeId):Bool:=
 match P.underlying t,tyOf (zeroOf P t),P.info? t with
 | some (.struct _),.agg l,some i | some (.array ..),.agg l,some i=>i.size == l.length
 | some (.struct _),_,_ | some (.array ..),_,_=>false
 | some _,.one _,some _=>true
 | _,_,_=>false
def ldQ(P:Program)(t:TypeId)(v:Value)(h:Hp)(K:Value→Prop):Prop:=
 match v,ldOk P t with
 | .pointer (some a),true=>
   match tyOf (zeroOf P t) with
   | .one s=>∃ x:s.T,hY h a=some (s.inj x)∧K (s.inj x)
   | .agg l=>exL l [] (fun vs=>ldCells h a 0 vs (K (.agg vs.toArray)))
 | _,_=>False
def cellOk:Value→Bool
 | .agg _ | .tuple _=>false
 | _=>true
def StOk(h:Hp)(a:Addr):Prop:=(hY h a).isSome=true∧hfroz h a=false
def stCells(a:Addr):Nat→List Value→Hp→(Hp→Prop)→Prop
 | _,[],h,K=>K h
 | i,v::r,h,K=>match cellOk v with
   | true=>StOk h (a.add i)∧stCells a (i+1) r (hset h (a.add i) v) K
   | false=>False
def stM(P:Program)(t:TypeId)(v x:Value)(h:Hp)(K:Hp→Prop):Prop:=
 match v,(P.info? t).map (·.size) == some x.cells.size with
 | .pointer (some a),true=>stCells a 0 x.cells.toList h K
 | _,_=>False
def szOf(P:Program)(t:TypeId):Nat:=((P.info? t).map (·.size)).getD 0
def byOf(P:Program)(t:TypeId):Nat:=((P.info? t).map (·.bytes)).getD 0
def nilQ(v:Value)(K:Value→Prop):Prop:=
 match v with
 | .pointer p=>∃ a:Addr,p=some a∧K (.pointer (some a))
 | _=>False
def ixQ(P:Program)(t:TypeId)(v i:Value)(K:Value→Prop):Prop:=
 match P.underlying t,v,i with
 | some (.slice e),.slice base len _,.int _ n=>
   (match (P.info? e).isSome with
   | true=>∃ a:Addr,base=some a∧0≤n∧n<(len:Int)∧K (.pointer (some (a.add (n.toNat*szOf P e))))
   | false=>False)
 | some (.array len e),.pointer (some a),.int _ n=>
   (match (P.info? e).isSome with
   | true=>0≤n∧n<(len:Int)∧K (.pointer (some (a.add (n.toNat*szOf P e))))
   | false=>False)
 | _,_,_=>False
def cutSl(s:Sl)(l h m:Int)(sz:Nat):Sl:=
 ⟨if m.toNat=l.toNat then s.base else s.base.map (·.add (l.toNat*sz)),h.toNat-l.toNat,m.toNat-l.toNat⟩
def getI:Option Value→Int→(Int→Prop)→Prop
 | none,d,k=>k d
 | some (.int _ n),_,k=>k n
 | _,_,_=>False
def slQ(P:Program)(t:TypeId)(v:Value)(lo hi mx:Option Value)(K:Value→Prop):Prop:=
 match P.underlying t,v with
 | some (.slice e),.slice base len cap=>
   (match (P.info? e).isSome,hi,mx with
   | true,none,some _=>False
   | true,_,_=>getI mx cap fun m=>getI hi len fun hh=>getI lo 0 fun l=>
    0≤l∧l≤hh∧hh≤m∧m≤(cap:Int)∧K (Sh.sl.inj (cutSl ⟨base,len,cap⟩ l hh m (szOf P e)))
   | false,_,_=>False)
 | _,_=>False
def pickQ(st:St)(c a b:Operand)(K:Value→Prop):Prop:=
 match st.knOp c with
 | some true=>K (st.ev a)
 | some false=>K (st.ev b)
 | none=>match st.ev c,st.ev a,st.ev b with
   | .bool x,.bool y,.bool z=>K (.bool (bif x then y else z))
   | _,_,_=>False
def nilConst:Operand→Bool
 | .const (.pointer none) | .const (.slice none _ _)=>true
 | _=>false
def nextQ(K:Value→Prop):Next→Prop
 | .value v=>K v
 | _=>False
def isNone?{α:Type}(o:Option α):Bool:=o.isNone
def eqNil(P:Program)(t:TypeId)(v c:Value)(K:Bool→Prop):Prop:=
 match P.underlying t,v,c with
 | some (.pointer _),.pointer p,.pointer none=>K (isNone? p)
 | some (.slice _),.slice b _ _,.slice none _ _=>K (isNone? b)
 | _,_,_=>False
def aggEqB:List Value→List Value→Bool
 | .int _ a::r,.int _ b::s=>(a == b) && aggEqB r s
 | .bool a::r,.bool b::s=>(a == b) && aggEqB r s
 | _,_=>true
def flatF(P:Program):List Field→Nat→List Value→List Value→Bool
 | [],_,[],[]=>true
 | f::r,i,x::xs,y::ys=>decide (f.name ≠ "_") && f.offset == i && (match P.underlying f.type,x,y with
    | some (.int _),.int k _,.int k' _=>decide (k=k')
    | some .bool,.bool _,.bool _=>true
    | _,_,_=>false) && flatF P r (i+1) xs ys
 | _,_,_,_=>false
def flatOk(P:Program)(t:TypeId)(xs ys:List Value):Bool:=
 match P.underlying t with
 | some (.struct fs)=>flatF P fs.toList 0 xs ys && !(P.stoodInHeld t) && !(P.eqGuardType P.depth t)
 | _=>false
def binQ(P:Program)(o:Oper)(op:BinOp)(t:TypeId)(x y:Operand)(st:St)(h:Hp)(K:Value→Prop):Prop:=
 match op,st.ev x,st.ev y with
 | .quo,.int k a,.int k' b=>if k=k' then b≠0∧K (.int k (iQuo k a b)) else False
 | .rem,.int k a,.int k' b=>if k=k' then b≠0∧K (.int k (iRem a b)) else False
 | .shl,.int k a,.int _ b=>0≤b∧K (.int k (iShl k a b))
 | .shr,.int k a,.int _ b=>0≤b∧K (.int k (iShr k a b))
 | .eql,.agg xs,.agg ys=>(match flatOk P t xs.toList ys.toList with | true=>K (.bool (aggEqB xs.toList ys.toList)) | false=>False)
 | .neq,.agg xs,.agg ys=>(match flatOk P t xs.toList ys.toList with | true=>K (.bool (!aggEqB xs.toList ys.toList)) | false=>False)
 | .eql,vx,vy=>
   if nilConst y=true then eqNil P t vx vy (fun b=>K (.bool b))
   else if nilConst x=true then eqNil P t vy vx (fun b=>K (.bool b))
   else prun P (execOp st.ev o) h (nextQ K)
 | .neq,vx,vy=>
   if nilConst y=true then eqNil P t vx vy (fun b=>K (.bool !b))
   else if nilConst x=true then eqNil P t vy vx (fun b=>K (.bool !b))
   else prun P (execOp st.ev o) h (nextQ K)
 | _,_,_=>prun P (execOp st.ev o) h (nextQ K)
abbrev ME:=Int × Value × Nat
def meOf(e:ME):MapEntry:={ key := .int .i64 e.1,val:=e.2.1,born:=e.2.2 }
def mapO(l:List ME)(c:Nat):Obj := .map (l.map meOf).toArray c
def MapAt(h:Hp)(m:Option Nat)(l:List ME)(c:Nat):Prop:=
 match m with
 | none=>l = []
 | some r=>h[r]? = some (mapO l c)
def mget(l:List ME)(k:Int):Option Value:=(l.find? fun e=>e.1 == k).map (·.2.1)
def mhas(l:List ME)(k:Int):Bool:=(mget l k).isSome
def mset:List ME→Int→Value→List ME
 | [],_,_=>[]
 | e::r,k,v=>if e.1=k then (k,v,e.2.2)::r else e::mset r k v
def mput(l:List ME)(k:Int)(v:Value)(c:Nat):Obj:=if mhas l k=true then mapO (mset l k v) c else mapO (l ++ [(k,v,c)]) (c+1)
def mdel(l:List ME)(k:Int):List ME:=l.eraseP fun e=>e.1 == k
def intMap(P:Program)(t:TypeId):Option TypeId:=
 match P.underlying t with
 | some (.map kt et)=>(match P.underlying kt,(P.info? et).bind (·.zero) with | some (.int .i64),some _=>some et | _,_=>none)
 | _=>none
def lkRes(ok:Bool)(v:Value)(b:Bool):Value:=match ok with | true=>.tuple #[v,.bool b] | false=>v
def lkQ(P:Program)(t:TypeId)(m k:Value)(ok:Bool)(h:Hp)(K:Value→Prop):Prop:=
 match intMap P t,m,k with
 | some et,.map mo,.int .i64 n=>∃ (l:List ME) (c:Nat),MapAt h mo l c∧exTy (tyOf (zeroOf P et)) (fun v=>((mget l n).getD (zeroOf P et)=v)∧K (lkRes ok v (mhas l n)))
 | _,_,_=>False
def lenQ(P:Program)(t:TypeId)(o:Oper)(x:Operand)(st:St)(h:Hp)(K:Value→Prop):Prop:=
 match st.ev x with
 | .map mo=>(match intMap P t with | some _=>∃ (l:List ME) (c:Nat),MapAt h mo l c∧K (.int .i64 (l.length:Int)) | none=>False)
 | _=>prun P (execOp st.ev o) h (nextQ K)
def idxQ(P:Program)(t:TypeId)(x i:Value)(K:Value→Prop):Prop:=
 match P.underlying t,x,i with
 | some (.array n e),.agg cs,.int _ k=>
   (match (P.info? e).map (·.size),tyOf (zeroOf P e),(match P.underlying e with | some (.struct _) | some (.array ..) | none=>false | _=>true) with
   | some 1,.one s,true=>∃ j:Nat,k=(j:Int)∧j<n∧∃ y:s.T,cs[j]? = some (s.inj y)∧K (s.inj y)
   | _,_,_=>False)
 | some .string,.string s,.int _ k=>∃ (j:Nat) (b:UInt8),k=(j:Int)∧s[j]? = some b∧K (.int .u8 (b.toNat:Int))
 | _,_,_=>False
def isQ(P:Program)(o:Oper):Bool:=
 match o.op with
 | .load .. | .nilCheck _ | .indexAddr .. | .slice .. | .pick .. | .move _ | .assign _ | .extract .. | .fieldAddr .. | .field .. | .index .. | .build .. | .unOp .. | .lookup .. => true
 | .convert _ dst _=>match P.underlying dst with | some (.int _)=>true | _=>false
 | .binOp op t x y _=>
   (match op with
   | .eql | .neq=>match P.underlying t with | some (.pointer _)=>nilConst x || nilConst y | _=>true
   | _=>true)
 | .call c=>(match c.callee with | .builtin .len | .builtin .cap | .builtin .min | .builtin .max=>true | _=>false)
 | _=>false
def opQ(P:Program)(o:Oper)(st:St)(h:Hp)(K:Value→Prop):Prop:=
 match o.op with
 | .move x | .assign x=>K (st.ev x)
 | .load t a=>ldQ P t (st.ev a) h K
 | .nilCheck x=>nilQ (st.ev x) K
 | .indexAddr t x i=>ixQ P t (st.ev x) (st.ev i) K
 | .slice t x lo hi mx=>slQ P t (st.ev x) (lo.map st.ev) (hi.map st.ev) (mx.map st.ev) K
 | .pick c a b=>pickQ st c a b K
 | .binOp op t x y _=>binQ P o op t x y st h K
 | .lookup t m k ok=>lkQ P t (st.ev m) (st.ev k) ok h K
 | .index t x i=>idxQ P t (st.ev x) (st.ev i) K
 | .call c=>
   (match c.callee,c.args.toList,c.argTypes.toList with
   | .builtin .len,[x],[t]=>lenQ P t o x st h K
   | _,_,_=>prun P (execOp st.ev o) h (nextQ K))
 | _=>prun P (execOp st.ev o) h (nextQ K)
def okFn(P:Program)(f:FuncId):Bool:=
 match P.funcs[f]? with
 | some fn=>!(fn.name == "runtime.NumGoroutine") && fn.body.isSome
 | none=>false
def HC(P:Program)(f:FuncId)(args:Array Value)(h:Hp)(R:Value→Hp→Prop):Prop:=
 okFn P f=true∧∀ w:World,w.heap=h→Calls P f args w fun e w'=>∃ v,e=.returned v∧Same w w'∧R v w'.heap
theorem HC.mono{P:Program}{f:FuncId}{args:Array Value}{h:Hp}{R R':Value→Hp→Prop}(H:HC P f args h R)(hr:∀ v h',R v h'→R' v h'):HC P f args h R':=
 ⟨H.1,fun w hw=>(H.2 w hw).mono fun _ _ ⟨v,he,hs,hR⟩=>⟨v,he,hs,hr _ _ hR⟩⟩
def resEx:List TyS→Value→(Value→Prop)→Prop
 | [t],v,K=>exTy t (fun x=>v=x∧K x)
 | ts,v,K=>exTys ts [] (fun vs=>v=.tuple vs.toArray∧K (.tuple vs.toArray))
theorem resEx_spec(ts:List TyS)(v:Value)(K:Value→Prop)(h:resEx ts v K):K v:=by
 unfold resEx at h
 split at h
 ·obtain⟨x,rfl,hk⟩:=exTy_spec _ _ h;exact hk
 ·obtain⟨x,rfl,hk⟩:=exTys_spec _ _ _ h;exact hk
def callM(P:Program)(o:Oper)(f:Value)(args:Array Value)(h:Hp)(K:Value→Hp→Prop):Prop:=
 match f with
 | .func (.func k) first captured=>HC P k (first++args++captured) h (fun v h'=>resEx (resTys P o.type) v (fun v'=>K v' h'))
 | _=>False
def RdC(h:Hp)(b:Option Addr)(l:List Value):Prop:=∀ i v,l[i]? = some v →∃ a:Addr,b=some a∧hY h (a.add i)=some v
def stAll(b:Option Addr)(off:Nat)(l:List Value)(h:Hp)(K:Hp→Prop):Prop:=
 match b with
 | some a=>stCells (a.add off) 0 l h K
 | none=>K h
def AppC(e sz by_:Nat)(zc:Array Value)(s x:Sl)(h:Hp)(K:Sl→Hp→Prop):Prop:=
 ∃ news:List Value,news.length=x.len*sz∧RdC h x.base news∧(s.len+x.len)*by_≤140737488355328∧s.len+x.len<9223372036854775807∧
   (s.len+x.len≤s.cap→stAll s.base (s.len*sz) news h (fun h'=>K ⟨s.base,s.len+x.len,s.cap⟩ h'))∧
   (s.cap<s.len+x.len →∃ olds:List Value,olds.length=s.len*sz∧RdC h s.base olds∧
    ∀ c,s.len+x.len≤c→c<9223372036854775808→K ⟨some ⟨h.size,0,none⟩,s.len+x.len,c⟩ (h.push (.cells (olds.toArray++news.toArray++Builtin.zeroCells zc (c-(s.len+x.len))) e (0,0))))
def AppZ(e sz by_:Nat)(zc:Array Value)(s:Sl)(n:Int)(h:Hp)(K:Sl→Hp→Prop):Prop:=
 0≤n∧(s.len+n.toNat)*by_≤140737488355328∧s.len+n.toNat<9223372036854775807∧n.toNat*by_≤140737488355328∧n<9223372036854775807∧
  (s.len+n.toNat≤s.cap→stAll s.base (s.len*sz) (Builtin.zeroCells zc n.toNat).toList h (fun h'=>K ⟨s.base,s.len+n.toNat,s.cap⟩ h'))∧
  (s.cap<s.len+n.toNat →∃ olds:List Value,olds.length=s.len*sz∧RdC h s.base olds∧
   ∀ c,s.len+n.toNat≤c→c<9223372036854775808→K ⟨some ⟨h.size,0,none⟩,s.len+n.toNat,c⟩ (h.push (.cells (olds.toArray++Builtin.zeroCells zc n.toNat++Builtin.zeroCells zc (c-(s.len+n.toNat))) e (0,0))))
def AppS(e sz by_:Nat)(zc:Array Value)(s:Sl)(x:ByteArray)(h:Hp)(K:Sl→Hp→Prop):Prop:=
 (s.len+x.size)*by_≤140737488355328∧s.len+x.size<9223372036854775807∧
  (s.len+x.size≤s.cap→stAll s.base (s.len*sz) ((x.extract 0 x.size).data.map fun b=>Value.int .u8 b.toNat).toList h (fun h'=>K ⟨s.base,s.len+x.size,s.cap⟩ h'))∧
  (s.cap<s.len+x.size →∃ olds:List Value,olds.length=s.len*sz∧RdC h s.base olds∧
   ∀ c,s.len+x.size≤c→c<9223372036854775808→K ⟨some ⟨h.size,0,none⟩,s.len+x.size,c⟩ (h.push (.cells (olds.toArray++((x.extract 0 x.size).data.map fun b=>Value.int .u8 b.toNat)++Builtin.zeroCells zc (c-(s.len+x.size))) e (0,0))))
def zcOf(P:Program)(t:TypeId):Array Value:=(zeroOf P t).cells
def elOk(P:Program)(e:TypeId):Bool:=
 match P.info? e with
 | some i=>(match i.zero with | some z=>z.cells.size == i.size && z.cells.all cellOk && decide (0<i.size) && decide (0<i.bytes) | none=>false)
 | none=>false
def appM(P:Program)(t t':TypeId)(s x:Value)(h:Hp)(K:Value→Hp→Prop):Prop:=
 match P.underlying t,P.underlying t',s,x with
 | some (.slice e),some (.slice _),.slice b l c,.slice b' l' c'=>
   (match elOk P e with
   | true=>AppC e (szOf P e) (byOf P e) (zcOf P e) ⟨b,l,c⟩ ⟨b',l',c'⟩ h (fun r h'=>K (Sh.sl.inj r) h')
   | false=>False)
 | some (.slice e),some (.int _),.slice b l c,.int _ n=>
   (match elOk P e with
   | true=>AppZ e (szOf P e) (byOf P e) (zcOf P e) ⟨b,l,c⟩ n h (fun r h'=>K (Sh.sl.inj r) h')
   | false=>False)
 | some (.slice e),some .string,.slice b l c,.string x=>
   (match elOk P e with
   | true=>AppS e (szOf P e) (byOf P e) (zcOf P e) ⟨b,l,c⟩ x h (fun r h'=>K (Sh.sl.inj r) h')
   | false=>False)
 | _,_,_,_=>False
def MkC(e by_:Nat)(zc:Array Value)(l c:Int)(h:Hp)(K:Sl→Hp→Prop):Prop:=
 0≤l∧l≤c∧c.toNat*by_≤140737488355328∧c<9223372036854775807∧K ⟨some ⟨h.size,0,none⟩,l.toNat,c.toNat⟩ (h.push (.cells (Builtin.zeroCells zc c.toNat) e (0,0)))
def mkM(P:Program)(t:TypeId)(l c:Value)(h:Hp)(K:Value→Hp→Prop):Prop:=
 match P.underlying t,l,c with
 | some (.slice e),.int _ l,.int _ c=>
   (match elOk P e with
   | true=>MkC e (byOf P e) (zcOf P e) l c h (fun r h'=>K (Sh.sl.inj r) h')
   | false=>False)
 | _,_,_=>False
def ptrEqM(P:Program)(t:TypeId)(x y:Value)(K:Prop):Prop:=
 match P.underlying t,x,y with
 | some (.pointer e),.pointer p,.pointer q=>(match (P.info? e).isSome with | true=>p=q∧K | false=>False)
 | _,_,_=>False
def hstr(h:Hp)(a:Addr):Hp:=
 match hshape h a.block with
 | some (_,n)=>hmark h { block:=a.block,off:=n } 1
 | none=>h
def cvM(P:Program)(src dst:TypeId)(x:Value)(h:Hp)(K:Value→Hp→Prop):Prop:=
 match P.underlying src,P.underlying dst,x with
 | some (.slice e),some (.slice e'),.slice b l c=>
   (match src == dst,P.underlying e' with
   | true,some (.int .u8)=>∃ a:Addr,b=some a∧K (.slice b l c) (hstr h a)
   | _,_=>False)
 | some (.slice e),some .string,.slice b l _=>
   (match P.underlying e with
   | some (.int .u8)=>∃ bs:List UInt8,bs.length=l∧RdC h b (bs.map fun x=>.int .u8 (x.toNat:Int))∧K (.string ⟨bs.toArray⟩) h
   | _=>False)
 | _,_,_=>False
def updM(P:Program)(t:TypeId)(m k v:Value)(h:Hp)(K:Hp→Prop):Prop:=
 match intMap P t,m,k with
 | some _,.map mo,.int .i64 n=>∃ (r:Nat) (l:List ME) (c:Nat),mo=some r∧h[r]? = some (mapO l c)∧K (h.setIfInBounds r (mput l n v c))
 | _,_,_=>False
def delM(P:Program)(t:TypeId)(m k:Value)(h:Hp)(K:Hp→Prop):Prop:=
 match intMap P t,m,k with
 | some _,.map mo,.int .i64 n=>∃ (r:Nat) (l:List ME) (c:Nat),mo=some r∧h[r]? = some (mapO l c)∧K (h.setIfInBounds r (mapO (mdel l n) c))
 | _,_,_=>False
def rangeM(P:Program)(t:TypeId)(m:Value)(h:Hp)(K:Value→Hp→Prop):Prop:=
 match intMap P t,m with
 | some _,.map mo=>∃ (r:Nat) (l:List ME) (c:Nat),mo=some r∧h[r]? = some (mapO l c)∧K (.pointer (some ⟨h.size,0,none⟩)) (h.push (.mapIter (some r) c #[] c))
 | _,_=>False
def stepM(it:Value)(h:Hp)(K:Value→Hp→Prop):Prop:=
 match it with
 | .pointer p=>∃ (r m c:Nat) (seen:Array Nat) (l:List ME),p=some ⟨r,0,none⟩∧h[r]? = some (.mapIter (some m) c seen c)∧h[m]? = some (mapO l c)∧(∀ e∈l,e.2.2<c)∧
  ((∀ e∈l,e.2.2∈seen)→K (.tuple #[.bool false]) h)∧
  (∀ (n:Int) (v:Value) (b:Nat),(n,v,b)∈l→b ∉ seen→K (.tuple #[.bool true,.int .i64 n,v]) (h.setIfInBounds r (.mapIter (some m) c (seen.push b) c)))
 | _=>False
def entTy(P:Program)(ops:Array Oper)(o:Oper):TyS:=
 match o.dst with
 | some d=>(match ops.toList.find? (fun x=>match x.op with | .extract (.tmp t) 1=>t == d | _=>false) with
   | some x=>tyOf (zeroOf P x.type)
   | none=>.one .val)
 | none=>.one .val
def entM(t:TyS)(it:Value)(h:Hp)(K:Value→Hp→Prop):Prop:=
 match it with
 | .pointer p=>∃ (r m c since:Nat) (seen:Array Nat) (l:List ME) (n:Int) (v:Value) (b:Nat),p=some ⟨r,0,none⟩∧h[r]? = some (.mapIter (some m) since seen c)∧seen.back? = some b∧h[m]? = some (mapO l c)∧(n,v,b)∈l∧
  (∀ e∈l,e.2.2=b→e=(n,v,b))∧exTy t (fun v'=>v=v'∧K (.tuple #[.int .i64 n,v']) h)
 | _=>False
def copyM(P:Program)(t t':TypeId)(d s:Value)(h:Hp)(K:Value→Hp→Prop):Prop:=
 match P.underlying t,P.underlying t',d,s with
 | some (.slice e),some (.slice _),.slice b l _,.slice b' l' _=>
   (match elOk P e with
   | true=>∃ news:List Value,news.length=min l' l*szOf P e∧RdC h b' news∧stAll b 0 news h (fun h'=>K (.int .i64 (((min l' l:Nat)):Int)) h')
   | false=>False)
 | _,_,_,_=>False
def nextM(K:Value→Hp→Prop):Next→Hp→Prop
 | .value v,h=>K v h
 | .skip,h=>K undef h
 | _,_=>False
def opM(P:Program)(ops:Array Oper)(o:Oper)(st:St)(h:Hp)(K:Value→Hp→Prop):Prop:=
 match o.op with
 | .store t a x=>stM P t (st.ev a) (st.ev x) h (fun h'=>K undef h')
 | .makeSlice t l c=>mkM P t (st.ev l) (st.ev c) h K
 | .mapUpdate t m k x=>updM P t (st.ev m) (st.ev k) (st.ev x) h (fun h'=>K undef h')
 | .range t x=>rangeM P t (st.ev x) h K
 | .next it false=>stepM (st.ev it) h K
 | .entry it=>entM (entTy P ops o) (st.ev it) h K
 | .convert src dst x=>cvM P src dst (st.ev x) h K
 | .binOp .eql t x y _=>ptrEqM P t (st.ev x) (st.ev y) (K (.bool true) h)
 | .binOp .neq t x y _=>ptrEqM P t (st.ev x) (st.ev y) (K (.bool false) h)
 | .call c=>
   (match c.callee,c.args.toList,c.argTypes.toList with
   | .builtin .append,[s,x],[t,t']=>appM P t t' (st.ev s) (st.ev x) h K
   | .builtin .copy,[s,x],[t,t']=>copyM P t t' (st.ev s) (st.ev x) h K
   | .builtin .delete,[m,k],[t,_]=>delM P t (st.ev m) (st.ev k) h (fun h'=>K (.tuple #[]) h')
   | .value f,_,_=>callM P o (st.ev f) (c.args.map st.ev) h K
   | _,_,_=>hrun P (execOp st.ev o) h (nextM K))
 | _=>hrun P (execOp st.ev o) h (nextM K)
def opVC(P:Program)(ops:Array Oper)(o:Oper)(st:St)(h:Hp)(K:Value→Hp→Prop):Prop:=
 match isQ P o with
 | true=>opQ P o st h (fun v=>K v h)
 | false=>opM P ops o st h K
end Go.Proofs.YtdpdkpfnfllipaaGreatDoor

/- A part of the proof, no condition. -/
import Derived.Test.YtdpdkpfnfllipaaGreatDoorN1
set_option linter.unusedVariables false
set_option linter.unusedSimpArgs false
namespace Go.Proofs.YtdpdkpfnfllipaaGreatDoor
theorem prun_value{P:Program}(s:Sem Value)(h:Hp)(K:Value→Prop)(H:prun P s h K):prun P (do pure (Next.value (← s)):Sem Next) h (nextQ K):=
 prun_bind s _ h _ (prun_mono s h _ _ (fun _ hk=>hk) H)
theorem prun_load{P:Program}{h:Hp}{a:Addr}{v:Value}{K:Value→Prop}(hc:hY h a=some v)(hk:K v):prun P (load a) h K:=by
 simp only[load,prun,hc];exact hk
theorem prun_loadCells{P:Program}{h:Hp}(a:Addr):∀ (vs:List Value) (i:Nat) (acc:Array Value) (Q:Prop) (K:Array Value→Prop),ldCells h a i vs Q→(Q→K (acc++vs.toArray)) →
 prun P (loadCellsFrom a i vs.length acc) h K
 | [],i,acc,Q,K,H,hk=>by show K acc;simpa using hk H
 | v::r,i,acc,Q,K,H,hk=>by
   obtain⟨h1,h2⟩:=H
   simp only[List.length_cons,loadCellsFrom]
   refine prun_bind _ _ _ _ (prun_load h1 ?_)
   exact prun_loadCells a r (i+1) (acc.push v) Q K h2 (fun q=>by have:=hk q;simpa using this)
theorem run_underlying'{P:Program}{t:TypeId}{d:TypeDesc}(h:P.underlying t=some d){α:Type}(f:TypeDesc→Sem α)(hh:Hp)(K:α→Prop)(H:prun P (f d) hh K):prun P (underlying t >>= f) hh K:=
 prun_bind _ _ _ _ (by
  unfold underlying
  refine prun_bind _ _ _ _ ?_
  show prun P (match P.underlying t with | some d=>pure d | none=>stuck "no such type") hh _
  rw[h];exact H)
theorem run_typeInfo'{P:Program}{t:TypeId}{d:TypeInfo}(h:P.info? t=some d){α:Type}(f:TypeInfo→Sem α)(hh:Hp)(K:α→Prop)(H:prun P (f d) hh K):prun P (typeInfo t >>= f) hh K:=
 prun_bind _ _ _ _ (by
  unfold typeInfo
  refine prun_bind _ _ _ _ ?_
  show prun P (match P.info? t with | some d=>pure d | none=>stuck "no such type") hh _
  rw[h];exact H)
theorem run_sizeOf'{P:Program}{t:TypeId}{d:TypeInfo}(h:P.info? t=some d){α:Type}(f:Nat→Sem α)(hh:Hp)(K:α→Prop)(H:prun P (f d.size) hh K):prun P (sizeOf t >>= f) hh K:=
 prun_bind _ _ _ _ (by unfold sizeOf;exact run_typeInfo' h _ _ _ H)
theorem hun_underlying{P:Program}{t:TypeId}{d:TypeDesc}(h:P.underlying t=some d){α:Type}(f:TypeDesc→Sem α)(hh:Hp)(K:α→Hp→Prop)(H:hrun P (f d) hh K):hrun P (underlying t >>= f) hh K:=
 hrun_bind _ _ _ _ (by
  unfold underlying
  refine hrun_bind _ _ _ _ ?_
  show hrun P (match P.underlying t with | some d=>pure d | none=>stuck "no such type") hh _
  rw[h];exact H)
theorem hun_typeInfo{P:Program}{t:TypeId}{d:TypeInfo}(h:P.info? t=some d){α:Type}(f:TypeInfo→Sem α)(hh:Hp)(K:α→Hp→Prop)(H:hrun P (f d) hh K):hrun P (typeInfo t >>= f) hh K:=
 hrun_bind _ _ _ _ (by
  unfold typeInfo
  refine hrun_bind _ _ _ _ ?_
  show hrun P (match P.info? t with | some d=>pure d | none=>stuck "no such type") hh _
  rw[h];exact H)
theorem hun_sizeOf{P:Program}{t:TypeId}{d:TypeInfo}(h:P.info? t=some d){α:Type}(f:Nat→Sem α)(hh:Hp)(K:α→Hp→Prop)(H:hrun P (f d.size) hh K):hrun P (sizeOf t >>= f) hh K:=
 hrun_bind _ _ _ _ (by unfold sizeOf;exact hun_typeInfo h _ _ _ H)
theorem hun_zeroValue{P:Program}{t:TypeId}{d:TypeInfo}{z:Value}(h:P.info? t=some d)(hz:d.zero=some z){α:Type}(f:Value→Sem α)(hh:Hp)(K:α→Hp→Prop)(H:hrun P (f z) hh K):hrun P (zeroValue t >>= f) hh K:=
 hrun_bind _ _ _ _ (by
  unfold zeroValue;refine hun_typeInfo h _ _ _ ?_
  rw[hz];exact H)
theorem exL_lengths{K:List Value→Prop}:∀ (l:List Sh) (acc:List Value),exL l acc K →∃ vs,K vs∧vs.length=acc.length+l.length
 | [],acc,h=>⟨acc.reverse,h,by simp⟩
 | s::l,acc,⟨x,h⟩=>by
   obtain⟨vs,hk,hl⟩:=exL_lengths l _ h
   exact⟨vs,hk,by simp at hl ⊢;omega⟩
theorem ldQ_sound{P:Program}{t:TypeId}{v:Value}{h:Hp}{K:Value→Prop}(H:ldQ P t v h K):prun P (Instr.loadAt t v) h K:=by
 unfold ldQ at H
 split at H
 ·rename_i a hok
  show prun P (loadVar t a) h K
  unfold loadVar isAgg
  unfold ldOk at hok
  split at H
  ·rename_i s hs
   obtain⟨x,hc,hk⟩:=H
   cases hu:P.underlying t with
   | none=>simp[hu]at hok
   | some d=>
     rw[hs]at hok
     refine prun_bind _ _ _ _ (run_underlying' hu _ _ _ ?_)
     cases d <;> first | exact prun_load hc hk | (simp[hu]at hok)
  ·rename_i l hs
   obtain⟨vs,hv,hlen'⟩:=exL_lengths _ _ H
   have hlen:l.length=vs.length:=by simpa using hlen'.symm
   cases hu:P.underlying t with
   | none=>simp[hu]at hok
   | some d=>
     rw[hs]at hok
     cases hi:P.info? t with
     | none=>rw[hu,hi]at hok;cases d <;> simp at hok
     | some i=>
       rw[hu,hi]at hok
       refine prun_bind _ _ _ _ (run_underlying' hu _ _ _ ?_)
       have key:i.size=l.length→prun P (do pure (Value.agg (← loadCells a (← sizeOf t)))) h K:=fun hl=>by
        refine run_sizeOf' hi _ _ _ (prun_bind _ _ _ _ ?_)
        unfold loadCells
        rw[hl,hlen]
        exact prun_loadCells a vs 0 #[] _ _ hv (fun q=>by show K _;simpa using q)
       cases d <;> first | exact key (by simpa using hok) | (simp at hok)
 ·exact H.elim
theorem nilQ_sound{P:Program}{o:Oper}{st:St}{x:Operand}(ho:o.op=.nilCheck x){h:Hp}{K:Value→Prop}(H:nilQ (st.ev x) K):prun P (execOp st.ev o) h (nextQ K):=by
 unfold nilQ at H
 split at H
 ·rename_i p hp
  obtain⟨a,rfl,hk⟩:=H
  simp only[execOp,ho,hp];exact hk
 ·exact H.elim
theorem ixQ_sound{P:Program}{t:TypeId}{v i:Value}{h:Hp}{K:Value→Prop}(H:ixQ P t v i K):prun P (Instr.indexAt t v i) h K:=by
 unfold ixQ at H
 split at H
 ·rename_i e base len cap k n hu
  split at H
  ·rename_i hi
   obtain⟨d,hd⟩:=Option.isSome_iff_exists.1 hi
   obtain⟨a,rfl,h0,h1,hk⟩:=H
   have hs:szOf P e=d.size:=by simp[szOf,hd]
   rw[hs]at hk
   unfold Instr.indexAt
   show prun P (underlying t >>= _) h K
   refine run_underlying' hu _ _ _ ?_
   show prun P (do let tiny:=(len≤1 && (match ← underlying t with | .array .. => true | _=>false));_) h K
   refine run_underlying' hu _ _ _ ?_
   simp only[if_pos (And.intro h0 h1)]
   exact run_sizeOf' hd _ _ _ hk
  ·exact H.elim
 ·rename_i len e a k n hu
  split at H
  ·rename_i hi
   obtain⟨d,hd⟩:=Option.isSome_iff_exists.1 hi
   obtain⟨h0,h1,hk⟩:=H
   have hs:szOf P e=d.size:=by simp[szOf,hd]
   rw[hs]at hk
   unfold Instr.indexAt
   show prun P (underlying t >>= _) h K
   refine run_underlying' hu _ _ _ ?_
   show prun P (do let tiny:=(len≤1 && (match ← underlying t with | .array .. => true | _=>false));_) h K
   refine run_underlying' hu _ _ _ ?_
   simp only[if_pos (And.intro h0 h1)]
   exact run_sizeOf' hd _ _ _ hk
  ·exact H.elim
 ·exact H.elim
theorem slQ_sound{P:Program}{t:TypeId}{v:Value}{lo hi mx:Option Value}{h:Hp}{K:Value→Prop}(H:slQ P t v lo hi mx K):prun P (Instr.sliceAt t v lo hi mx) h K:=by
 unfold slQ at H
 split at H
 ·rename_i e base len cap hu
  have key:∀ (l hh m:Int),(P.info? e).isSome=true→0≤l→l≤hh→hh≤m→m≤(cap:Int)→K (Sh.sl.inj (cutSl ⟨base,len,cap⟩ l hh m (szOf P e))) →
   (mx=none→m=cap)→(∀ u,mx=some u →∃ k,u=.int k m)→(hi=none→mx=none∧hh=len)→(∀ u,hi=some u →∃ k,u=.int k hh)→(lo=none→l=0)→(∀ u,lo=some u →∃ k,u=.int k l) →
   prun P (Instr.sliceAt t (.slice base len cap) lo hi mx) h K:=by
   intro l hh m hi' h1 h2 h3 h4 hk a1 a2 b1 b2 c1 c2
   obtain⟨d,hd⟩:=Option.isSome_iff_exists.1 hi'
   have hs:szOf P e=d.size:=by simp[szOf,hd]
   rw[hs]at hk
   unfold Instr.sliceAt
   refine run_underlying' hu _ _ _ ?_
   show prun P (Instr.slice t (.slice base len cap) lo hi mx) h K
   unfold Instr.slice
   refine run_underlying' hu _ _ _ ?_
   have hsb:prun P (Instr.sliceBounds true len cap lo hi mx) h (fun r=>r=(l.toNat,hh.toNat,m.toNat)):=by
    have sb:∀ (k:IntKind) (n:Int) (y:Nat) (code:BoundsCode) (F:Nat→Prop),0≤n→n≤(y:Int)→F n.toNat→prun P (Instr.sliceBound (.int k n) y code) h F:=by
     intro k n y code F g1 g2 g3
     unfold Instr.sliceBound
     show prun P (if 0≤n∧n≤(y:Int) then pure n.toNat else boundsPanic k n y code) h F
     rw[if_pos ⟨g1,g2⟩];exact g3
    unfold Instr.sliceBounds
    have pp:∀ {α β:Type} (x:α) (f:α→Sem β) (F:β→Prop),prun P (f x) h F→prun P (pure x >>= f) h F:=fun _ _ _ g=>g
    have hm:(mx=none∧m=cap) ∨∃ k,mx=some (.int k m):=by
     cases mx with
     | none=>exact .inl ⟨rfl,a1 rfl⟩
     | some u=>obtain⟨k,rfl⟩:=a2 u rfl;exact .inr ⟨k,rfl⟩
    have hhi:(hi=none∧mx=none∧hh=len) ∨∃ k,hi=some (.int k hh):=by
     cases hi with
     | none=>exact .inl ⟨rfl,b1 rfl⟩
     | some u=>obtain⟨k,rfl⟩:=b2 u rfl;exact .inr ⟨k,rfl⟩
    have hlo:(lo=none∧l=0) ∨∃ k,lo=some (.int k l):=by
     cases lo with
     | none=>exact .inl ⟨rfl,c1 rfl⟩
     | some u=>obtain⟨k,rfl⟩:=c2 u rfl;exact .inr ⟨k,rfl⟩
    clear a1 a2 b1 b2 c1 c2 hk
    have fin:∀ x y z:Nat,x=l.toNat→y=hh.toNat→z=m.toNat→(x,y,z)=(l.toNat,hh.toNat,m.toNat):=by rintro _ _ _ rfl rfl rfl;rfl
    have last:∀ y z:Nat,y=hh.toNat→z=m.toNat→prun P (match lo with | some v=>Instr.sliceBound v y (if mx.isSome=true then .slice3C else .sliceB) | none=>pure 0) h (fun x=>(x,y,z)=(l.toNat,hh.toNat,m.toNat)):=by
     intro y z hy hz
     rcases hlo with ⟨rfl,rfl⟩ | ⟨k,rfl⟩
     ·exact fin _ _ _ rfl hy hz
     ·exact sb k l y _ _ (by omega) (by omega) (fin _ _ _ rfl hy hz)
    have last':∀ y z:Nat,y=hh.toNat→z=m.toNat→prun P (match lo with | some v=>(do let l ← Instr.sliceBound v y (if mx.isSome=true then .slice3C else .sliceB);pure (l,y,z)) | none=>(do let l ← pure 0;pure (l,y,z))) h (fun r=>r=(l.toNat,hh.toNat,m.toNat)):=by
     intro y z hy hz
     have:=last y z hy hz
     cases lo with
     | none=>exact this
     | some v=>exact prun_bind _ _ _ _ this
    rcases hm with ⟨rfl,rfl⟩ | ⟨k,rfl⟩
    ·refine pp _ _ _ ?_
     rcases hhi with ⟨rfl,_,rfl⟩ | ⟨k',rfl⟩
     ·exact pp _ _ _ (last' _ _ (by omega) (by omega))
     ·exact prun_bind _ _ _ _ (sb _ _ _ _ _ (by omega) (by omega) (last' _ _ rfl (by omega)))
    ·refine prun_bind _ _ _ _ (sb _ _ _ _ _ (by omega) h4 ?_)
     rcases hhi with ⟨_,h9,_⟩ | ⟨k',rfl⟩
     ·cases h9
     ·exact prun_bind _ _ _ _ (sb _ _ _ _ _ (by omega) (by omega) (last' _ _ rfl rfl))
   refine prun_bind _ _ _ _ (prun_mono _ _ _ _ ?_ hsb)
   rintro _ rfl
   exact run_sizeOf' hd _ _ _ hk
  split at H
  ·exact H.elim
  ·rename_i hi' hnot
   have gi:∀ (o:Option Value) (d:Int) (F:Int→Prop),getI o d F →∃ n,F n∧(o=none→n=d)∧(∀ u,o=some u →∃ k,u=.int k n):=by
    intro o d F g
    unfold getI at g
    split at g
    ·exact⟨d,g,fun _=>rfl,by simp⟩
    ·rename_i k n;exact⟨n,g,by simp,fun u hu=>⟨k,by simpa using hu.symm⟩⟩
    ·exact g.elim
   obtain⟨m,H,a1,a2⟩:=gi _ _ _ H
   obtain⟨hh,H,b1,b2⟩:=gi _ _ _ H
   obtain⟨l,H,c1,c2⟩:=gi _ _ _ H
   obtain⟨g1,g2,g3,g4,hk⟩:=H
   refine key l hh m hi' g1 g2 g3 g4 hk a1 a2 (fun hn=>?_) b2 c1 c2
   refine⟨?_,b1 hn⟩
   refine Option.eq_none_iff_forall_ne_some.2 fun u hm=>hnot u hn hm
  ·exact H.elim
 ·exact H.elim
theorem pickQ_sound{P:Program}{o:Oper}{st:St}{c a b:Operand}(hst:st.fine)(ho:o.op=.pick c a b){h:Hp}{K:Value→Prop}(H:pickQ st c a b K):prun P (execOp st.ev o) h (nextQ K):=by
 have kn:∀ x,st.knOp c=some x→st.ev c=.bool x:=by
  intro x hx
  unfold St.knOp at hx
  split at hx
  ·exact hst _ _ hx
  ·simp at hx;subst hx;rfl
  ·simp at hx
 unfold pickQ at H
 split at H
 ·rename_i hx;simp only[execOp,ho,kn _ hx];exact H
 ·rename_i hx;simp only[execOp,ho,kn _ hx];exact H
 ·split at H
  ·rename_i x y z hc ha hb
   simp only[execOp,ho,hc]
   show K (if x=true then st.ev a else st.ev b)
   rw[ha,hb]
   cases x <;> exact H
  ·exact H.elim
theorem eqNil_sound{P:Program}{t:TypeId}{v c:Value}{K:Bool→Prop}{h:Hp}(H:eqNil P t v c K) :
 ∃ b,K b∧(∀ F:Bool→Prop,F b→prun P (Op.equal t v c) h F∧prun P (Op.equal t c v) h F)∧((∃ p q,v=.pointer p∧c=.pointer q)∨(∃ p l k q m n,v=.slice p l k∧c=.slice q m n)):=by
 unfold eqNil at H
 split at H
 ·rename_i e p hu
  refine⟨p.isNone,H,fun F hF=>⟨?_,?_⟩,.inl ⟨_,_,rfl,rfl⟩⟩
  ·unfold Op.equal
   show prun P (Op.equalIn (9999+1) t (.pointer p) (.pointer none)) h F
   unfold Op.equalIn
   refine run_underlying' hu _ _ _ ?_
   cases p <;> exact hF
  ·unfold Op.equal
   show prun P (Op.equalIn (9999+1) t (.pointer none) (.pointer p)) h F
   unfold Op.equalIn
   refine run_underlying' hu _ _ _ ?_
   exact hF
 ·rename_i e b l c l' c' hu
  refine⟨b.isNone,H,fun F hF=>⟨?_,?_⟩,.inr ⟨_,_,_,_,_,_,rfl,rfl⟩⟩
  ·unfold Op.equal
   show prun P (Op.equalIn (9999+1) t (.slice b l c) (.slice none l' c')) h F
   unfold Op.equalIn
   refine run_underlying' hu _ _ _ ?_
   cases b <;> exact hF
  ·unfold Op.equal
   show prun P (Op.equalIn (9999+1) t (.slice none l' c') (.slice b l c)) h F
   unfold Op.equalIn
   refine run_underlying' hu _ _ _ ?_
   exact hF
 ·exact H.elim
def flatD:TypeDesc→Bool
 | .int _ | .bool=>true
 | _=>false
theorem part_run{P:Program}{t:TypeId}{d:TypeDesc}(hu:P.underlying t=some d)(hd:flatD d=true){cs:Array Value}{o:Nat}{v:Value}(hv:cs[o]? = some v){h:Hp}{α:Type}(f:Value→Sem α)(K:α→Prop)(H:prun P (f v) h K):prun P (part t cs o >>= f) h K:=by
 refine prun_bind _ _ _ _ ?_
 unfold part isAgg
 refine prun_bind _ _ _ _ (run_underlying' hu _ _ _ ?_)
 cases d <;> first | (simp[flatD]at hd;done) | (show prun P (match cs[o]? with | some v=>pure v | none=>stuck "part: no such cell") h _;rw[hv];exact H)
theorem equalIn_flat{P:Program}{t:TypeId}{x y:Value}{d:Nat}{h:Hp}{b:Bool} (hxy:(match P.underlying t,x,y with
 | some (.int _),.int k _,.int k' _=>decide (k=k')
 | some .bool,.bool _,.bool _=>true
 | _,_,_=>false)=true) (hb:∀ r s,aggEqB (x::r) (y::s)=(b && aggEqB r s)) {α:Type} (f:Bool→Sem α) (K:α→Prop) (H:prun P (f b) h K):prun P (Op.equalIn (d+1) t x y >>= f) h K:=by
 refine prun_bind _ _ _ _ ?_
 unfold Op.equalIn
 split at hxy
 ·rename_i k0 k a k' b' hu
  have hk:k=k':=by simpa using hxy
  have:b=(a == b'):=by have:=hb [] [];simpa [aggEqB] using this.symm
  subst this
  refine run_underlying' hu _ _ _ ?_
  show prun P (if k=k' then _ else _) h _
  rw[if_pos hk];exact H
 ·rename_i a b' hu
  have:b=(a == b'):=by have:=hb [] [];simpa [aggEqB] using this.symm
  subst this
  refine run_underlying' hu _ _ _ ?_
  exact H
 ·cases hxy
theorem flatF_run{P:Program}{cx cy:Array Value}{d d':Nat}(hd:d=d'+1){h:Hp}{F:Bool→Prop}:∀ (fs:List Field) (i:Nat) (xl yl:List Value),cx.toList.drop i=xl→cy.toList.drop i=yl→flatF P fs i xl yl=true→F (aggEqB xl yl) →
 prun P (forIn fs ((none,()):Option Bool × Unit) fun f _=>
  if f.name ≠ "_" then do
   let __do_lift ← part f.type cx f.offset
   let __do_lift_1 ← part f.type cy f.offset
   let __do_lift ← Op.equalIn d f.type __do_lift __do_lift_1
   if (!__do_lift)=true then pure (ForInStep.done (some false,())) else pure (ForInStep.yield (none,()))
  else pure (ForInStep.yield (none,()))) h (fun s=>(∀ b,s.1=some b→F b)∧(s.1=none→F true))
 | [],i,[],[],_,_,_,hF=>(⟨fun b hb=>(nomatch hb),fun _=>hF⟩:(∀ b,(none:Option Bool)=some b→F b)∧((none:Option Bool)=none→F true))
 | f::fs,i,x::xl,y::yl,hx,hy,H,hF=>by
   simp only[flatF,Bool.and_eq_true]at H
   obtain⟨⟨⟨h1,h2⟩,h3⟩,h4⟩:=H
   have h1:f.name ≠ "_" := by simpa using h1
   have h2:f.offset=i:=by simpa using h2
   have nx:∀ (l:List Value) (z:Value) (r:List Value),l.drop i=z::r→l[i]? = some z∧l.drop (i+1)=r:=by
    intro l z r e
    refine⟨?_,?_⟩
    ·have:=congrArg (fun m=>m[0]?) e
     simpa [List.getElem?_drop] using this
    ·have:=congrArg List.tail e
     simpa [List.tail_drop] using this
   obtain⟨x1,x2⟩:=nx _ _ _ hx
   obtain⟨y1,y2⟩:=nx _ _ _ hy
   obtain⟨dd,hu,hdd⟩:∃ dd,P.underlying f.type=some dd∧flatD dd=true:=by
    split at h3
    ·rename_i hu;exact⟨_,hu,rfl⟩
    ·rename_i hu;exact⟨_,hu,rfl⟩
    ·cases h3
   obtain⟨b,hb⟩:∃ b,∀ r s,aggEqB (x::r) (y::s)=(b && aggEqB r s):=by
    split at h3
    ·exact⟨_,fun r s=>rfl⟩
    ·exact⟨_,fun r s=>rfl⟩
    ·cases h3
   rw[hb]at hF
   rw[List.forIn_cons]
   refine prun_bind _ _ _ _ ?_
   rw[if_pos h1,h2]
   refine part_run hu hdd (by simpa using x1) _ _ ?_
   refine part_run hu hdd (by simpa using y1) _ _ ?_
   subst hd
   refine equalIn_flat h3 hb _ _ ?_
   cases b with
   | false=>exact(⟨fun b hb=>(by cases hb;exact hF),fun hn=>(by cases hn)⟩:(∀ b,some false=some b→F b)∧(some false=none→F true))
   | true=>exact flatF_run rfl fs (i+1) xl yl x2 y2 h4 (by simpa using hF)
 | [],_,_::_,_,_,_,H,_=>by simp[flatF]at H
 | [],_,[],_::_,_,_,H,_=>by simp[flatF]at H
 | _::_,_,[],_,_,_,H,_=>by simp[flatF]at H
 | _::_,_,_::_,[],_,_,H,_=>by simp[flatF]at H
theorem aggEq_sound{P:Program}{t:TypeId}{xs ys:Array Value}{F:Bool→Prop}{h:Hp}(H:flatOk P t xs.toList ys.toList=true)(hF:F (aggEqB xs.toList ys.toList)):prun P (Op.equal t (.agg xs) (.agg ys)) h F:=by
 unfold flatOk at H
 split at H
 ·rename_i fs hu
  simp only[Bool.and_eq_true,Bool.not_eq_true']at H
  obtain⟨⟨h1,h2⟩,h3⟩:=H
  unfold Op.equal
  show prun P (Op.equalIn (9999+1) t (.agg xs) (.agg ys)) h F
  unfold Op.equalIn
  refine run_underlying' hu _ _ _ ?_
  show prun P (if P.stoodInHeld t=true then _ else _) h F
  rw[if_neg (by simp[h2])]
  have:=flatF_run (d:=9999) (d':=9998) rfl (h:=h) (F:=F) fs.toList 0 _ _ rfl rfl h1 hF
  rw[Array.forIn_toList]at this
  refine prun_bind _ _ _ _ (prun_mono _ _ _ _ ?_ this)
  rintro⟨s,u⟩ ⟨g1,g2⟩
  cases s with
  | none=>exact g2 rfl
  | some b=>exact g1 b rfl
 ·cases H
theorem flatOk_guard{P:Program}{t:TypeId}{xl yl:List Value}(H:flatOk P t xl yl=true):P.eqGuardType P.depth t=false:=by
 unfold flatOk at H
 split at H
 ·simp only[Bool.and_eq_true,Bool.not_eq_true']at H
  exact H.2
 ·cases H
theorem binQ_sound{P:Program}{o:Oper}{op:BinOp}{t t':TypeId}{x y:Operand}{st:St}(ho:o.op=.binOp op t x y t'){h:Hp}{K:Value→Prop}(H:binQ P o op t x y st h K):prun P (execOp st.ev o) h (nextQ K):=by
 have base:∀ (F:Value→Prop),(∀ a b,st.ev x=a→st.ev y=b→prun P (do eqGuard op t x y a b;binOp op t a b) h F)→prun P (execOp st.ev o) h (nextQ F):=by
  intro F hF
  simp only[execOp,ho]
  exact prun_value _ _ _ (hF _ _ rfl rfl)
 have nilc:∀ z:Operand,nilConst z=true→(st.ev z=.pointer none) ∨∃ l c,st.ev z=.slice none l c:=by
  intro z hz
  unfold nilConst at hz
  split at hz
  ·exact .inl rfl
  ·exact .inr ⟨_,_,rfl⟩
  ·cases hz
 unfold binQ at H
 split at H
 ·rename_i k a k' b hx hy
  split at H
  ·rename_i e;subst e
   refine base K fun u v hu hv=>?_
   rw[← hu,← hv,hx,hy]
   obtain⟨h0,hk⟩:=H
   show prun P (binOp .quo t (.int k a) (.int k b)) h K
   simp only[binOp,Op.intDiv,ne_eq,not_true_eq_false,if_false,if_neg h0]
   exact hk
  ·exact H.elim
 ·rename_i k a k' b hx hy
  split at H
  ·rename_i e;subst e
   refine base K fun u v hu hv=>?_
   rw[← hu,← hv,hx,hy]
   obtain⟨h0,hk⟩:=H
   show prun P (binOp .rem t (.int k a) (.int k b)) h K
   simp only[binOp,Op.intDiv,ne_eq,not_true_eq_false,if_false,if_neg h0]
   exact hk
  ·exact H.elim
 ·rename_i k a k' b hx hy
  refine base K fun u v hu hv=>?_
  rw[← hu,← hv,hx,hy]
  obtain⟨h0,hk⟩:=H
  show prun P (Op.shift .shl k a k' b) h K
  unfold Op.shift
  rw[if_neg (by omega)]
  exact hk
 ·rename_i k a k' b hx hy
  refine base K fun u v hu hv=>?_
  rw[← hu,← hv,hx,hy]
  obtain⟨h0,hk⟩:=H
  show prun P (Op.shift .shr k a k' b) h K
  unfold Op.shift
  rw[if_neg (by omega)]
  exact hk
 ·rename_i xs ys hx hy
  split at H
  ·rename_i hok
   refine base K fun u v hu hv=>?_
   rw[← hu,← hv,hx,hy]
   have hg:=flatOk_guard hok
   refine prun_bind _ _ _ _ (show prun P (eqGuard .eql t x y (.agg xs) (.agg ys)) h _ from ?_)
   show prun P (if (!P.eqGuardType P.depth t)=true then pure () else _) h _
   rw[if_pos (by simp[hg])]
   exact prun_bind _ _ _ _ (aggEq_sound hok H)
  ·exact H.elim
 ·rename_i xs ys hx hy
  split at H
  ·rename_i hok
   refine base K fun u v hu hv=>?_
   rw[← hu,← hv,hx,hy]
   have hg:=flatOk_guard hok
   refine prun_bind _ _ _ _ (show prun P (eqGuard .neq t x y (.agg xs) (.agg ys)) h _ from ?_)
   show prun P (if (!P.eqGuardType P.depth t)=true then pure () else _) h _
   rw[if_pos (by simp[hg])]
   exact prun_bind _ _ _ _ (aggEq_sound (F:=fun b=>K (.bool !b)) hok H)
  ·exact H.elim
 ·have both:∀ u v:Value,((∃ p q,u=.pointer p∧v=.pointer q)∨(∃ p l k q m n,u=.slice p l k∧v=.slice q m n)) →∀ F:Value→Prop,
   prun P (Op.equal t u v) h (fun b=>F (.bool b))→prun P (do eqGuard .eql t x y u v;binOp .eql t u v) h F:=by
   intro u v huv F hF
   rcases huv with ⟨p,q,rfl,rfl⟩ | ⟨p,l,k,q,m,n,rfl,rfl⟩
   ·exact prun_bind _ _ _ _ (show prun P (binOp .eql t (.pointer p) (.pointer q)) h F from prun_bind _ _ _ _ hF)
   ·exact prun_bind _ _ _ _ (show prun P (binOp .eql t (.slice p l k) (.slice q m n)) h F from prun_bind _ _ _ _ hF)
  split at H
  ·refine base K fun u v hu hv=>?_
   subst hu;subst hv
   obtain⟨b,hk,hF,hs⟩:=eqNil_sound (h:=h) H
   exact both _ _ hs _ (hF _ hk).1
  ·split at H
   ·refine base K fun u v hu hv=>?_
    subst hu;subst hv
    obtain⟨b,hk,hF,hs⟩:=eqNil_sound (h:=h) H
    refine both _ _ ?_ _ (hF _ hk).2
    rcases hs with ⟨p,q,e1,e2⟩ | ⟨p,l,k,q,m,n,e1,e2⟩
    ·exact .inl ⟨_,_,e2,e1⟩
    ·exact .inr ⟨_,_,_,_,_,_,e2,e1⟩
   ·exact H
 ·have both:∀ u v:Value,((∃ p q,u=.pointer p∧v=.pointer q)∨(∃ p l k q m n,u=.slice p l k∧v=.slice q m n)) →∀ F:Value→Prop,
   prun P (Op.equal t u v) h (fun b=>F (.bool !b))→prun P (do eqGuard .neq t x y u v;binOp .neq t u v) h F:=by
   intro u v huv F hF
   rcases huv with ⟨p,q,rfl,rfl⟩ | ⟨p,l,k,q,m,n,rfl,rfl⟩
   ·exact prun_bind _ _ _ _ (show prun P (binOp .neq t (.pointer p) (.pointer q)) h F from prun_bind _ _ _ _ hF)
   ·exact prun_bind _ _ _ _ (show prun P (binOp .neq t (.slice p l k) (.slice q m n)) h F from prun_bind _ _ _ _ hF)
  split at H
  ·refine base K fun u v hu hv=>?_
   subst hu;subst hv
   obtain⟨b,hk,hF,hs⟩:=eqNil_sound (h:=h) H
   exact both _ _ hs _ (hF _ hk).1
  ·split at H
   ·refine base K fun u v hu hv=>?_
    subst hu;subst hv
    obtain⟨b,hk,hF,hs⟩:=eqNil_sound (h:=h) H
    refine both _ _ ?_ _ (hF _ hk).2
    rcases hs with ⟨p,q,e1,e2⟩ | ⟨p,l,k,q,m,n,e1,e2⟩
    ·exact .inl ⟨_,_,e2,e1⟩
    ·exact .inr ⟨_,_,_,_,_,_,e2,e1⟩
   ·exact H
 ·exact H
theorem intMap_spec{P:Program}{t et:TypeId}(H:intMap P t=some et):∃ kt d z,P.underlying t=some (.map kt et)∧P.underlying kt=some (.int .i64)∧P.info? et=some d∧d.zero=some z:=by
 unfold intMap at H
 split at H
 ·rename_i kt et' hu
  split at H
  ·rename_i z hk hi
   cases H
   obtain⟨d,hd,hz⟩:=Option.bind_eq_some_iff.1 hi
   exact⟨kt,d,z,hu,hk,hd,hz⟩
  ·cases H
 ·cases H
def mfind:List ME→Int→Nat→Option (Nat × Value)
 | [],_,_=>none
 | e::r,k,i=>if e.1=k then some (i,e.2.1) else mfind r k (i+1)
theorem mfind_get:∀ (l:List ME) (k:Int) (i:Nat),(mfind l k i).map (·.2)=mget l k
 | [],k,i=>rfl
 | e::r,k,i=>by
   unfold mfind mget
   by_cases h:e.1=k
   ·rw[if_pos h,List.find?_cons_of_pos (by simpa using h)];rfl
   ·rw[if_neg h,List.find?_cons_of_neg (by simpa using h)]
    exact mfind_get r k (i+1)
theorem findNow_me:∀ (l:List ME) (k:Int) (i:Nat),Instr.findNow (.int .i64) (.int .i64 k) (l.map meOf) i=some (mfind l k i)
 | [],_,_=>rfl
 | e::r,k,i=>by
   show(match Instr.sameNow (.int .i64) (.int .i64 k) (meOf e).key with | some true=>some (some (i,(meOf e).val)) | some false=>Instr.findNow (.int .i64) (.int .i64 k) (r.map meOf) (i+1) | none=>none)=_
   have:Instr.sameNow (.int .i64) (.int .i64 k) (meOf e).key=some (k == e.1):=by simp[Instr.sameNow,meOf]
   rw[this]
   unfold mfind
   by_cases h:e.1=k
   ·rw[if_pos h];subst h;simp[meOf]
   ·rw[if_neg h]
    have:(k == e.1)=false:=by simpa using fun h'=>h h'.symm
    rw[this]
    exact findNow_me r k (i+1)
theorem prun_find{P:Program}{kt:TypeId}(hk:P.underlying kt=some (.int .i64))(l:List ME)(n:Int){α:Type}(f:Option (Nat × Value)→Sem α)(h:Hp)(K:α→Prop)(H:prun P (f (mfind l n 0)) h K):prun P (Instr.findKey kt (.int .i64 n) (l.map meOf) >>= f) h K:=by
 refine prun_bind _ _ _ _ ?_
 unfold Instr.findKey
 refine run_underlying' hk _ _ _ ?_
 rw[findNow_me]
 exact H
theorem hrun_find{P:Program}{kt:TypeId}(hk:P.underlying kt=some (.int .i64))(l:List ME)(n:Int){α:Type}(f:Option (Nat × Value)→Sem α)(h:Hp)(K:α→Hp→Prop)(H:hrun P (f (mfind l n 0)) h K):hrun P (Instr.findKey kt (.int .i64 n) (l.map meOf) >>= f) h K:=by
 refine hrun_bind _ _ _ _ ?_
 unfold Instr.findKey
 refine hun_underlying hk _ _ _ ?_
 rw[findNow_me]
 exact H
theorem prun_checkKey{P:Program}{kt:TypeId}(hk:P.underlying kt=some (.int .i64))(b:Bool)(n:Int){α:Type}(f:Unit→Sem α)(h:Hp)(K:α→Prop)(H:prun P (f ()) h K):prun P (Instr.checkKey b 10000 kt (.int .i64 n) >>= f) h K:=by
 refine prun_bind _ _ _ _ ?_
 show prun P (Instr.checkKey b (9999+1) kt (.int .i64 n)) h _
 unfold Instr.checkKey
 refine run_underlying' hk _ _ _ ?_
 exact H
theorem hrun_checkKey{P:Program}{kt:TypeId}(hk:P.underlying kt=some (.int .i64))(b:Bool)(n:Int){α:Type}(f:Unit→Sem α)(h:Hp)(K:α→Hp→Prop)(H:hrun P (f ()) h K):hrun P (Instr.checkKey b 10000 kt (.int .i64 n) >>= f) h K:=by
 refine hrun_bind _ _ _ _ ?_
 show hrun P (Instr.checkKey b (9999+1) kt (.int .i64 n)) h _
 unfold Instr.checkKey
 refine hun_underlying hk _ _ _ ?_
 exact H
theorem run_zeroValue'{P:Program}{t:TypeId}{d:TypeInfo}{z:Value}(h:P.info? t=some d)(hz:d.zero=some z){α:Type}(f:Value→Sem α)(hh:Hp)(K:α→Prop)(H:prun P (f z) hh K):prun P (zeroValue t >>= f) hh K:=
 prun_bind _ _ _ _ (by
  unfold zeroValue;refine run_typeInfo' h _ _ _ ?_
  rw[hz];exact H)
theorem lkQ_sound{P:Program}{t:TypeId}{m k:Value}{ok:Bool}{h:Hp}{K:Value→Prop}(H:lkQ P t m k ok h K):prun P (Instr.lookup t m k ok) h K:=by
 unfold lkQ at H
 split at H
 ·rename_i et mo n hm
  obtain⟨kt,d,z,hu,hk,hi,hz⟩:=intMap_spec hm
  obtain⟨l,c,hat,H⟩:=H
  obtain⟨v,hv,H⟩:=exTy_spec _ _ H
  have hzo:zeroOf P et=z:=by simp[zeroOf,hi,hz]
  have main:∀ (b:Bool) (F:Value→Prop),F (lkRes ok v (mhas l n))→prun P (do
   Instr.checkKey b 10000 kt (.int .i64 n)
   let (v,ok') ← match ← Instr.findKey kt (.int .i64 n) (l.map meOf) with
    | some (_,v)=>pure (v,true)
    | none=>pure (← zeroValue et,false)
   pure (if ok then .tuple #[v,.bool ok'] else v):Sem Value) h F:=by
   intro b F hF
   refine prun_checkKey hk _ _ _ _ _ ?_
   refine prun_find hk l n _ _ _ ?_
   have hg:=mfind_get l n 0
   cases hf:mfind l n 0 with
   | some p=>
     obtain⟨i,v'⟩:=p
     rw[hf]at hg
     have hg:mget l n=some v':=hg.symm
     have e1:v'=v:=by rw[hg]at hv;exact hv
     have e2:mhas l n=true:=by simp[mhas,hg]
     subst e1
     rw[e2]at hF
     cases ok <;> exact hF
   | none=>
     rw[hf]at hg
     have hg:mget l n=none:=hg.symm
     have e1:zeroOf P et=v:=by rw[hg]at hv;exact hv
     have e2:mhas l n=false:=by simp[mhas,hg]
     rw[e2,← e1,hzo]at hF
     refine run_zeroValue' hi hz _ _ _ ?_
     cases ok <;> exact hF
  unfold Instr.lookup
  refine run_underlying' hu _ _ _ ?_
  cases mo with
  | none=>
    have hat:l = []:=hat
    subst hat
    exact main _ _ H
  | some r=>
    have hat:h[r]? = some (mapO l c):=hat
    show prun P (getObj r >>= _) h K
    refine prun_bind _ _ _ _ ?_
    show prun P (.getObj r .pure) h _
    simp only[prun,hat,mapO]
    exact main _ _ H
 ·exact H.elim
theorem idxQ_sound{P:Program}{t:TypeId}{x i:Value}{h:Hp}{K:Value→Prop}(H:idxQ P t x i K):prun P (Instr.index t x i) h K:=by
 unfold idxQ at H
 split at H
 ·rename_i n e cs kk k hu
  split at H
  ·rename_i s hsz hty hpl
   obtain⟨d,hd,hds⟩:=Option.map_eq_some_iff.1 hsz
   obtain⟨j,rfl,hj,y,hy,hk⟩:=H
   unfold Instr.index
   show prun P (underlying t >>= _) h K
   refine run_underlying' hu _ _ _ ?_
   show prun P (if 0≤(j:Int)∧(j:Int)<n then _ else _) h K
   rw[if_pos ⟨by omega,by omega⟩]
   refine run_sizeOf' hd _ _ _ ?_
   rw[hds,Nat.mul_one,Int.toNat_natCast]
   unfold part isAgg
   cases hue:P.underlying e with
   | none=>rw[hue]at hpl;cases hpl
   | some de=>
     rw[hue]at hpl
     refine prun_bind _ _ _ _ (run_underlying' hue _ _ _ ?_)
     cases de <;> first | (cases hpl;done) | (show prun P (match cs[j]? with | some v=>pure v | none=>stuck "part: no such cell") h _;rw[hy];exact hk)
  ·exact H.elim
 ·rename_i s kk k hu
  obtain⟨j,b,rfl,hb,hk⟩:=H
  unfold Instr.index
  show prun P (underlying t >>= _) h K
  refine run_underlying' hu _ _ _ ?_
  show prun P (match (if 0≤(j:Int) then s[(j:Int).toNat]? else none) with | some b=>pure (.int .u8 b.toNat) | none=>_) h K
  rw[if_pos (by omega),Int.toNat_natCast,hb]
  exact hk
 ·exact H.elim
theorem lenQ_sound{P:Program}{t:TypeId}{o:Oper}{x:Operand}{c:Call}{st:St}{h:Hp}{K:Value→Prop}(ho:o.op=.call c)(hc:c.callee=.builtin .len)(ha:c.args.toList = [x])(ht:c.argTypes.toList = [t])(H:lenQ P t o x st h K):prun P (execOp st.ev o) h (nextQ K):=by
 unfold lenQ at H
 split at H
 ·rename_i mo hx
  split at H
  ·rename_i et hm
   obtain⟨kt,d,z,hu,hk,hi,hz⟩:=intMap_spec hm
   obtain⟨l,cl,hat,H⟩:=H
   have ea:c.args = #[x]:=Array.toList_inj.1 ha
   have et':c.argTypes = #[t]:=Array.toList_inj.1 ht
   simp only[execOp,ho,resolve,hc]
   have pb:∀ {α β:Type} (x:α) (f:α→Sem β),(pure x >>= f:Sem β)=f x:=fun _ _=>rfl
   simp only[pb,invoke,builtin,ea,et',List.map_toArray,List.map_cons,List.map_nil]
   refine prun_value _ _ _ ?_
   show prun P (Builtin.len_ #[t] _ #[st.ev x]) h K
   rw[hx]
   unfold Builtin.len_
   refine run_underlying' hu _ _ _ ?_
   cases mo with
   | none=>have hat:l = []:=hat;subst hat;exact H
   | some r=>
     have hat:h[r]? = some (mapO l cl):=hat
     show prun P (getObj r >>= _) h K
     refine prun_bind _ _ _ _ ?_
     show prun P (.getObj r .pure) h _
     simp only[prun,hat,mapO]
     show K (.int .i64 (((l.map meOf).toArray.size:Nat):Int))
     rw[show(l.map meOf).toArray.size=l.length by simp]
     exact H
  ·exact H.elim
 ·exact H
theorem opQ_sound{P:Program}{o:Oper}{st:St}{h:Hp}{K:Value→Prop}(hst:st.fine)(H:opQ P o st h K) :
 ∃ v,K v∧∀ w:World,Sub h w.heap→(execOp st.ev o).run P w=.ok (.value v) w:=by
 have main:prun P (execOp st.ev o) h (nextQ K):=by
  unfold opQ at H
  split at H
  ·rename_i x ho;simp only[execOp,ho];exact H
  ·rename_i x ho;simp only[execOp,ho];exact H
  ·rename_i t a ho;simp only[execOp,ho];exact prun_value _ _ _ (ldQ_sound H)
  ·rename_i x ho;exact nilQ_sound ho H
  ·rename_i t x i ho;simp only[execOp,ho];exact prun_value _ _ _ (ixQ_sound H)
  ·rename_i t x lo hi mx ho;simp only[execOp,ho];exact prun_value _ _ _ (slQ_sound H)
  ·rename_i c a b ho;exact pickQ_sound hst ho H
  ·rename_i op t x y t' ho;exact binQ_sound ho H
  ·rename_i t m k ok ho;simp only[execOp,ho];exact prun_value _ _ _ (lkQ_sound H)
  ·rename_i t x i ho;simp only[execOp,ho];exact prun_value _ _ _ (idxQ_sound H)
  ·rename_i c ho
   split at H
   ·rename_i x t hc ha ht;exact lenQ_sound ho hc ha ht H
   ·exact H
  ·exact H
 obtain⟨n,hk,hr⟩:=prun_sound _ _ _ main
 cases n <;> first | exact(hk:False).elim | skip
 rename_i v
 exact⟨v,hk,hr⟩
theorem hrun_value{P:Program}(s:Sem Value)(h:Hp)(K:Value→Hp→Prop)(H:hrun P s h K):hrun P (do pure (Next.value (← s)):Sem Next) h (nextM K):=
 hrun_bind s _ h _ (hrun_mono s h _ _ (fun _ _ hk=>hk) H)
theorem hrun_storeCells{P:Program}(a:Addr):∀ (vs:List Value) (i:Nat) (h:Hp) (K:Hp→Prop),stCells a i vs h K→hrun P (storeCells a vs i) h (fun _ h'=>K h')
 | [],i,h,K,H=>H
 | v::r,i,h,K,H=>by
   unfold stCells at H
   split at H
   ·rename_i hok
    obtain⟨⟨h1,h2⟩,h3⟩:=H
    show hrun P (do store (a.add i) v;storeCells a r (i+1)) h _
    refine hrun_bind _ _ _ _ ?_
    have:=hrun_storeCells (P:=P) a r (i+1) _ K h3
    cases v <;> first | (exact⟨h1,h2,this⟩) | (cases hok)
   ·exact H.elim
theorem stM_sound{P:Program}{t:TypeId}{v x:Value}{h:Hp}{K:Hp→Prop}(H:stM P t v x h K):hrun P (Instr.storeAt t v x) h (fun _ h'=>K h'):=by
 unfold stM at H
 split at H
 ·rename_i a hs
  show hrun P (storeVar t a x) h _
  unfold storeVar
  cases hi:P.info? t with
  | none=>rw[hi]at hs;simp at hs
  | some d=>
    rw[hi]at hs
    have hs':d.size=x.cells.size:=by simpa using hs
    refine hun_sizeOf hi _ _ _ ?_
    rw[if_neg (by simp[hs'])]
    exact hrun_storeCells a _ 0 h K H
 ·exact H.elim
theorem hrun_loadCells{P:Program}{h:Hp}(a:Addr):∀ (vs:List Value) (i:Nat) (acc:Array Value) (K:Array Value→Hp→Prop),(∀ j v,vs[j]? = some v→hY h (a.add (i+j))=some v)→K (acc++vs.toArray) h →
 hrun P (loadCellsFrom a i vs.length acc) h K
 | [],i,acc,K,H,hk=>by show K acc h;simpa using hk
 | v::r,i,acc,K,H,hk=>by
   simp only[List.length_cons,loadCellsFrom]
   refine hrun_bind _ _ _ _ ?_
   have h0:hY h (a.add i)=some v:=H 0 v (by simp)
   simp only[load,hrun,h0]
   exact hrun_loadCells a r (i+1) (acc.push v) K (fun j u hu=>by have:=H (j+1) u (by simpa using hu);rwa[show i+1+j=i+(j+1) by omega]) (by simpa using hk)
theorem hrun_firstCells{P:Program}{h:Hp}{b:Option Addr}{l c n size:Nat}{vs:List Value}{K:Array Value→Hp→Prop}(hn:vs.length=n*size)(hr:RdC h b vs)(hk:K vs.toArray h) :
 hrun P (Builtin.firstCells size n (.slice b l c)) h K:=by
 cases b with
 | some a=>
   show hrun P (loadCells a (n*size)) h K
   unfold loadCells
   rw[← hn]
   refine hrun_loadCells a vs 0 #[] K (fun j v hv=>?_) (by simpa using hk)
   obtain⟨a',e,hc⟩:=hr j v hv
   cases e
   simpa using hc
 | none=>
   have:vs = []:=by
    cases vs with
    | nil=>rfl
    | cons v r=>obtain⟨_,e,_⟩:=hr 0 v (by simp);cases e
   subst this
   exact hk
theorem hrun_stAll{P:Program}{b:Option Addr}{off:Nat}{l:List Value}{h:Hp}{K:Hp→Prop}{F:Unit→Hp→Prop}(H:stAll b off l h K)(hF:∀ h',K h'→F () h') :
 hrun P (match b with | some a=>storeCells (a.add off) l | none=>pure ()) h F:=by
 cases b with
 | some a=>exact hrun_mono _ _ _ _ (fun _ _ hk=>hF _ hk) (hrun_storeCells _ l 0 h K H)
 | none=>exact hF _ H
theorem fits{need cap by_:Nat}(hlt:cap<need)(hb:need*by_≤140737488355328):¬ Builtin.nextslicecap need cap*by_ > 2 ^ 48:=by
 have:=growslice_fits hlt hb
 omega
theorem elOk_spec{P:Program}{e:TypeId}(h:elOk P e=true):∃ d z,P.info? e=some d∧d.zero=some z∧z.cells.size=d.size∧(∀ v∈z.cells.toList,cellOk v=true)∧0<d.size∧0<d.bytes:=by
 unfold elOk at h
 split at h
 ·rename_i d hd
  split at h
  ·rename_i z hz
   simp only[Bool.and_eq_true,beq_iff_eq,Array.all_eq_true',decide_eq_true_eq]at h
   exact⟨d,z,hd,hz,h.1.1.1,fun v hv=>h.1.1.2 v (by simpa using hv),h.1.2,h.2⟩
  ·cases h
 ·cases h
theorem appC_sound{P:Program}{t t' ty e e':TypeId}(hu:P.underlying t=some (.slice e))(hu':P.underlying t'=some (.slice e'))(hel:elOk P e=true){s x:Sl}{h:Hp}{K:Sl→Hp→Prop}
 (H:AppC e (szOf P e) (byOf P e) (zcOf P e) s x h K):hrun P (Builtin.append_ #[t,t'] ty #[.slice s.base s.len s.cap,.slice x.base x.len x.cap]) h (fun v h'=>∃ r:Sl,v=.slice r.base r.len r.cap∧K r h'):=by
 obtain⟨d,z,hd,hz,hzs,_,hpos,hby⟩:=elOk_spec hel
 have e1:szOf P e=d.size:=by simp[szOf,hd]
 have e2:byOf P e=d.bytes:=by simp[byOf,hd]
 have e3:zcOf P e=z.cells:=by simp[zcOf,zeroOf,hd,hz]
 rw[e1,e2,e3]at H
 obtain⟨news,hn,hr,hb,hlt,hin,hgr⟩:=H
 unfold Builtin.append_
 show hrun P (underlying t >>= _) h _
 refine hun_underlying hu _ _ _ ?_
 refine hun_sizeOf hd _ _ _ ?_
 refine hun_underlying hu' _ _ _ ?_
 show hrun P (if s.len+x.len≤s.cap then _ else _) h _
 by_cases hc:s.len+x.len≤s.cap
 ·rw[if_pos hc]
  refine hrun_bind _ _ _ _ (hrun_firstCells hn hr ?_)
  have:=hrun_stAll (P:=P) (F:=fun _ h'=>K ⟨s.base,s.len+x.len,s.cap⟩ h') (hin hc) (fun _ hk=>hk)
  cases hbse:s.base with
  | some a=>
    rw[hbse]at this
    refine hrun_bind _ _ _ _ (hrun_mono _ _ _ _ (fun _ h' hk=>?_) this)
    exact⟨_,rfl,hk⟩
  | none=>
    rw[hbse]at this
    exact⟨⟨none,s.len+x.len,s.cap⟩,rfl,this⟩
 ·rw[if_neg hc]
  obtain⟨olds,ho,hro,hk⟩:=hgr (by omega)
  have hmax:¬ ((s.len+x.len:Nat):Int) > IntKind.i64.max:=by simp[IntKind.max,IntKind.bits,IntKind.signed];omega
  refine hun_typeInfo hd _ _ _ ?_
  rw[if_neg (fun g=>hmax g.1)]
  refine hun_typeInfo hd _ _ _ ?_
  rw[if_neg (fits (by omega) hb)]
  show hrun P (choose (.appendCap (s.len+x.len) s.cap e) >>= _) h _
  refine hrun_bind _ _ _ _ ?_
  intro tt
  show hrun P _ h _
  refine hun_typeInfo hd _ _ _ ?_
  refine hrun_bind _ _ _ _ ?_
  generalize hcap:(if (Question.appendCap (s.len+x.len) s.cap e).forced=true then 0 else (Question.appendCap (s.len+x.len) s.cap e).cut tt)=cc
  have hcc:s.len+x.len≤cc∧cc<9223372036854775808:=by
   subst hcap
   have hp:0<2 ^ 63-(s.len+x.len):=by omega
   have:=Nat.mod_lt tt hp
   simp only[Question.forced,Bool.false_eq_true,if_false,Question.cut]
   omega
  have ask:∀ (n:Nat) (F:Unit→Hp→Prop),F () h→hrun P (askRoom n) h F:=by
   intro n F hF;unfold askRoom;split <;> exact hF
  refine ask _ _ ?_
  refine hrun_bind _ _ _ _ (hrun_firstCells ho hro ?_)
  refine hrun_bind _ _ _ _ (hrun_firstCells hn hr ?_)
  refine hun_zeroValue hd hz _ _ _ ?_
  exact⟨_,rfl,hk cc hcc.1 hcc.2⟩
theorem appS_sound{P:Program}{t t' ty e:TypeId}(hu:P.underlying t=some (.slice e))(hu':P.underlying t'=some .string)(hel:elOk P e=true){s:Sl}{x:ByteArray}{h:Hp}{K:Sl→Hp→Prop}
 (H:AppS e (szOf P e) (byOf P e) (zcOf P e) s x h K):hrun P (Builtin.append_ #[t,t'] ty #[.slice s.base s.len s.cap,.string x]) h (fun v h'=>∃ r:Sl,v=.slice r.base r.len r.cap∧K r h'):=by
 obtain⟨d,z,hd,hz,hzs,_,hpos,hby⟩:=elOk_spec hel
 have e1:szOf P e=d.size:=by simp[szOf,hd]
 have e2:byOf P e=d.bytes:=by simp[byOf,hd]
 have e3:zcOf P e=z.cells:=by simp[zcOf,zeroOf,hd,hz]
 rw[e1,e2,e3]at H
 obtain⟨hb,hlt,hin,hgr⟩:=H
 unfold Builtin.append_
 show hrun P (underlying t >>= _) h _
 refine hun_underlying hu _ _ _ ?_
 refine hun_sizeOf hd _ _ _ ?_
 refine hun_underlying hu' _ _ _ ?_
 show hrun P (if s.len+x.size≤s.cap then _ else _) h _
 by_cases hc:s.len+x.size≤s.cap
 ·rw[if_pos hc]
  have:=hrun_stAll (P:=P) (F:=fun _ h'=>K ⟨s.base,s.len+x.size,s.cap⟩ h') (hin hc) (fun _ hk=>hk)
  cases hbse:s.base with
  | some a=>
    rw[hbse]at this
    refine hrun_bind _ _ _ _ ?_
    show hrun P (storeCells (a.add (s.len*d.size)) ((x.extract 0 x.size).data.map fun b=>Value.int .u8 b.toNat).toList >>= fun _=>pure (Value.slice (some a) (s.len+x.size) s.cap)) h _
    refine hrun_bind _ _ _ _ (hrun_mono _ _ _ _ (fun _ h' hk=>?_) this)
    exact⟨⟨some a,s.len+x.size,s.cap⟩,rfl,hk⟩
  | none=>
    rw[hbse]at this
    exact⟨⟨none,s.len+x.size,s.cap⟩,rfl,this⟩
 ·rw[if_neg hc]
  obtain⟨olds,ho,hro,hk⟩:=hgr (by omega)
  have hmax:¬ ((s.len+x.size:Nat):Int) > IntKind.i64.max:=by simp[IntKind.max,IntKind.bits,IntKind.signed];omega
  refine hun_typeInfo hd _ _ _ ?_
  rw[if_neg (fun g=>hmax g.1)]
  refine hun_typeInfo hd _ _ _ ?_
  rw[if_neg (fits (by omega) hb)]
  show hrun P (choose (.appendCap (s.len+x.size) s.cap e) >>= _) h _
  refine hrun_bind _ _ _ _ ?_
  intro tt
  show hrun P _ h _
  refine hun_typeInfo hd _ _ _ ?_
  refine hrun_bind _ _ _ _ ?_
  generalize hcap:(if (Question.appendCap (s.len+x.size) s.cap e).forced=true then 0 else (Question.appendCap (s.len+x.size) s.cap e).cut tt)=cc
  have hcc:s.len+x.size≤cc∧cc<9223372036854775808:=by
   subst hcap
   have hp:0<2 ^ 63-(s.len+x.size):=by omega
   have:=Nat.mod_lt tt hp
   simp only[Question.forced,Bool.false_eq_true,if_false,Question.cut]
   omega
  have ask:∀ (n:Nat) (F:Unit→Hp→Prop),F () h→hrun P (askRoom n) h F:=by
   intro n F hF;unfold askRoom;split <;> exact hF
  refine ask _ _ ?_
  refine hrun_bind _ _ _ _ (hrun_firstCells ho hro ?_)
  refine hun_zeroValue hd hz _ _ _ ?_
  exact⟨_,rfl,hk cc hcc.1 hcc.2⟩
theorem appZ_sound{P:Program}{t t' ty e:TypeId}{k k':IntKind}(hu:P.underlying t=some (.slice e))(hu':P.underlying t'=some (.int k'))(hel:elOk P e=true){s:Sl}{n:Int}{h:Hp}{K:Sl→Hp→Prop}
 (H:AppZ e (szOf P e) (byOf P e) (zcOf P e) s n h K):hrun P (Builtin.append_ #[t,t'] ty #[.slice s.base s.len s.cap,.int k n]) h (fun v h'=>∃ r:Sl,v=.slice r.base r.len r.cap∧K r h'):=by
 obtain⟨d,z,hd,hz,hzs,_,hpos,hby⟩:=elOk_spec hel
 have e1:szOf P e=d.size:=by simp[szOf,hd]
 have e2:byOf P e=d.bytes:=by simp[byOf,hd]
 have e3:zcOf P e=z.cells:=by simp[zcOf,zeroOf,hd,hz]
 rw[e1,e2,e3]at H
 obtain⟨h0,hb,hlt,hnb,hn63,hin,hgr⟩:=H
 have hwrap:IntKind.i64.wrap n=n:=IntWalk.i64_in n ⟨by omega,by omega⟩
 unfold Builtin.append_
 show hrun P (underlying t >>= _) h _
 refine hun_underlying hu _ _ _ ?_
 refine hun_sizeOf hd _ _ _ ?_
 refine hun_underlying hu' _ _ _ ?_
 show hrun P (if IntKind.i64.wrap n<0 then _ else _) h _
 rw[hwrap,if_neg (by omega)]
 refine hun_typeInfo hd _ _ _ ?_
 have hnb':n*(d.bytes:Int)=((n.toNat*d.bytes:Nat):Int):=by rw[Int.natCast_mul,Int.toNat_of_nonneg h0]
 rw[if_neg (by rw[hnb'];omega)]
 show hrun P (if s.len+n.toNat≤s.cap then _ else _) h _
 have app:∀ (F:Array Value→Hp→Prop),F (Builtin.zeroCells z.cells n.toNat) h→hrun P (if (!true)=true then Builtin.firstCells d.size n.toNat (.int k n) else if n.toNat*d.size=0 then pure #[] else do pure (Builtin.zeroCells (← zeroValue e).cells n.toNat)) h F:=by
  intro F hF
  rw[if_neg (by simp)]
  by_cases hz0:n.toNat*d.size=0
  ·rw[if_pos hz0]
   have:Builtin.zeroCells z.cells n.toNat = #[]:=by unfold Builtin.zeroCells;rw[hzs,hz0];simp
   rw[this]at hF;exact hF
  ·rw[if_neg hz0]
   exact hun_zeroValue hd hz _ _ _ hF
 by_cases hc:s.len+n.toNat≤s.cap
 ·rw[if_pos hc]
  refine hrun_bind _ _ _ _ (app _ ?_)
  have:=hrun_stAll (P:=P) (F:=fun _ h'=>K ⟨s.base,s.len+n.toNat,s.cap⟩ h') (hin hc) (fun _ hk=>hk)
  cases hbse:s.base with
  | some a=>
    rw[hbse]at this
    refine hrun_bind _ _ _ _ (hrun_mono _ _ _ _ (fun _ h' hk=>?_) this)
    exact⟨_,rfl,hk⟩
  | none=>
    rw[hbse]at this
    exact⟨⟨none,s.len+n.toNat,s.cap⟩,rfl,this⟩
 ·rw[if_neg hc]
  obtain⟨olds,ho,hro,hk⟩:=hgr (by omega)
  have hmax:¬ ((s.len+n.toNat:Nat):Int) > IntKind.i64.max:=by simp[IntKind.max,IntKind.bits,IntKind.signed];omega
  refine hun_typeInfo hd _ _ _ ?_
  rw[if_neg (fun g=>hmax g.1)]
  refine hun_typeInfo hd _ _ _ ?_
  rw[if_neg (fits (by omega) hb)]
  show hrun P (choose (.appendCap (s.len+n.toNat) s.cap e) >>= _) h _
  refine hrun_bind _ _ _ _ ?_
  intro tt
  show hrun P _ h _
  refine hun_typeInfo hd _ _ _ ?_
  refine hrun_bind _ _ _ _ ?_
  generalize hcap:(if (Question.appendCap (s.len+n.toNat) s.cap e).forced=true then 0 else (Question.appendCap (s.len+n.toNat) s.cap e).cut tt)=cc
  have hcc:s.len+n.toNat≤cc∧cc<9223372036854775808:=by
   subst hcap
   have hp:0<2 ^ 63-(s.len+n.toNat):=by omega
   have:=Nat.mod_lt tt hp
   simp only[Question.forced,Bool.false_eq_true,if_false,Question.cut]
   omega
  have ask:∀ (n:Nat) (F:Unit→Hp→Prop),F () h→hrun P (askRoom n) h F:=by
   intro n F hF;unfold askRoom;split <;> exact hF
  refine ask _ _ ?_
  refine hrun_bind _ _ _ _ (hrun_firstCells ho hro ?_)
  refine hrun_bind _ _ _ _ (app _ ?_)
  refine hun_zeroValue hd hz _ _ _ ?_
  exact⟨_,rfl,hk cc hcc.1 hcc.2⟩
theorem appM_sound{P:Program}{t t' ty:TypeId}{s x:Value}{h:Hp}{K:Value→Hp→Prop}(H:appM P t t' s x h K):hrun P (Builtin.append_ #[t,t'] ty #[s,x]) h K:=by
 unfold appM at H
 split at H
 ·rename_i hu hu'
  split at H
  ·rename_i hel
   have:=appC_sound (ty:=ty) hu hu' hel H
   refine hrun_mono _ _ _ _ ?_ this
   rintro _ h' ⟨r,rfl,hk⟩;exact hk
  ·exact H.elim
 ·rename_i kk n hu hu'
  split at H
  ·rename_i hel
   have:=appZ_sound (k:=kk) (ty:=ty) hu hu' hel H
   refine hrun_mono _ _ _ _ ?_ this
   rintro _ h' ⟨r,rfl,hk⟩;exact hk
  ·exact H.elim
 ·rename_i hu hu'
  split at H
  ·rename_i hel
   have:=appS_sound (ty:=ty) hu hu' hel H
   refine hrun_mono _ _ _ _ ?_ this
   rintro _ h' ⟨r,rfl,hk⟩;exact hk
  ·exact H.elim
 ·exact H.elim
theorem mkM_sound{P:Program}{t:TypeId}{l c:Value}{h:Hp}{K:Value→Hp→Prop}(H:mkM P t l c h K):hrun P (Instr.makeSlice t l c) h K:=by
 unfold mkM at H
 split at H
 ·rename_i e k l k' c hu
  split at H
  ·rename_i hel
   obtain⟨d,z,hd,hz,hzs,_,hpos,hby⟩:=elOk_spec hel
   have e2:byOf P e=d.bytes:=by simp[byOf,hd]
   have e3:zcOf P e=z.cells:=by simp[zcOf,zeroOf,hd,hz]
   rw[e2,e3]at H
   obtain⟨h0,hlc,hb,hc63,hk⟩:=H
   unfold Instr.makeSlice
   refine hun_underlying hu _ _ _ ?_
   show hrun P (typeInfo e >>= _) h _
   refine hun_typeInfo hd _ _ _ ?_
   have hwl:IntKind.i64.wrap l=l:=IntWalk.i64_in l ⟨by omega,by omega⟩
   have hwc:IntKind.i64.wrap c=c:=IntWalk.i64_in c ⟨by omega,by omega⟩
   have hcb:(d.bytes:Int)*c=((c.toNat*d.bytes:Nat):Int):=by rw[Int.natCast_mul,Int.toNat_of_nonneg (by omega),Int.mul_comm]
   have htl:∀ (A B:Sem Value),hrun P B h K→hrun P (if ((decide (c<0) || decide ((d.bytes:Int)*c > 2 ^ 48)) || decide (l<0) || decide (l > c))=true then A else B) h K:=by
    intro A B hB
    rw[if_neg]
    ·exact hB
    ·simp only[Bool.or_eq_true,decide_eq_true_eq,not_or]
     rw[hcb]
     refine⟨⟨⟨by omega,by omega⟩,by omega⟩,by omega⟩
   simp only[hwl,hwc]
   refine htl _ _ ?_
   have ask:∀ (n:Nat) (F:Unit→Hp→Prop),F () h→hrun P (askRoom n) h F:=by
    intro n F hF;unfold askRoom;split <;> exact hF
   refine hrun_bind _ _ _ _ (ask _ _ ?_)
   refine hun_sizeOf hd _ _ _ ?_
   by_cases hn:c.toNat*d.size=0
   ·rw[if_pos hn]
    have:(Builtin.zeroCells z.cells c.toNat)=(Array.range (c.toNat*d.size)).map (fun i=>(#[]:Array Value)[i % (#[]:Array Value).size]!):=by
     unfold Builtin.zeroCells;rw[hzs,hn];simp
    rw[this]at hk
    exact hk
   ·rw[if_neg hn]
    refine hun_zeroValue hd hz _ _ _ ?_
    unfold Builtin.zeroCells at hk
    rw[hzs]at hk
    rw[← hzs]
    rw[← hzs]at hk
    exact hk
  ·exact H.elim
 ·exact H.elim
theorem ptrEq_sound{P:Program}{t:TypeId}{x y:Value}{F:Prop}{h:Hp}(H:ptrEqM P t x y F):F∧∃ p,x=.pointer p∧y=.pointer p∧∀ K:Bool→Hp→Prop,K true h→hrun P (Op.equal t x y) h K:=by
 unfold ptrEqM at H
 split at H
 ·rename_i e p q hu
  split at H
  ·rename_i hi
   obtain⟨d,hd⟩:=Option.isSome_iff_exists.1 hi
   obtain⟨rfl,hF⟩:=H
   refine⟨hF,p,rfl,rfl,fun K hK=>?_⟩
   unfold Op.equal
   show hrun P (Op.equalIn (9999+1) t (.pointer p) (.pointer p)) h K
   unfold Op.equalIn
   refine hun_underlying hu _ _ _ ?_
   cases p with
   | none=>exact hK
   | some a=>
     have same:∀ F:Bool→Hp→Prop,F true h→hrun P (sameAddr a a) h F:=by
      intro F hF
      unfold sameAddr
      rw[if_pos (by simp)]
      show F (a == a) h
      have:(a == a)=true:=by simp
      rw[this];exact hF
     refine hun_sizeOf hd _ _ _ ?_
     by_cases hz:d.size≠0
     ·rw[if_pos hz];exact same _ hK
     ·rw[if_neg hz,if_pos (by simp)];exact hK
  ·exact H.elim
 ·exact H.elim
theorem cvM_sound{P:Program}{src dst:TypeId}{x:Value}{w:World}{K:Value→Hp→Prop}(H:cvM P src dst x w.heap K):∃ v w',(convert src dst x).run P w=.ok v w'∧Same w w'∧K v w'.heap:=by
 unfold cvM at H
 split at H
 ·rename_i e e' b l c hs hd
  split at H
  ·rename_i hsd he
   obtain⟨a,rfl,hk⟩:=H
   refine hrun_sound _ w _ ?_
   unfold convert
   refine hun_underlying hs _ _ _ ?_
   refine hun_underlying hd _ _ _ ?_
   show hrun P (underlying e' >>= _) _ K
   refine hun_underlying he _ _ _ ?_
   show hrun P (match src == dst,TypeDesc.int IntKind.u8 with | true,.int .u8=>(do markStringish a;pure (Value.slice (some a) l c)) | _,_=>unsupported (.noEntry "convert/other")) _ K
   rw[hsd]
   unfold hstr at hk
   refine hrun_bind _ _ _ _ ?_
   unfold markStringish
   refine hrun_bind _ _ _ _ ?_
   show hrun P (match hshape w.heap a.block with | some (_,n)=>freeze { block:=a.block,off:=n } 1 | _=>pure ()) _ _
   cases hsh:hshape w.heap a.block with
   | none=>rw[hsh]at hk;exact hk
   | some p=>rw[hsh]at hk;exact hk
  ·exact H.elim
 ·rename_i e b l c hs hd
  split at H
  ·rename_i he
   obtain⟨bs,hl,hr,hk⟩:=H
   subst hl
   refine⟨_,w,?_,.refl w,hk⟩
   cases b with
   | some a=>
     refine run_convert_bytes_back w src dst e a c bs hs he hd fun j hj=>?_
     obtain⟨a',e1,hc⟩:=hr j (.int .u8 (bs[j].toNat:Int)) (by simp[hj])
     cases e1
     exact hc
   | none=>
     have:bs = []:=by
      cases bs with
      | nil=>rfl
      | cons v r=>obtain⟨_,e,_⟩:=hr 0 _ (by simp;rfl);cases e
     subst this
     rw[run_convert_bytes_string w src dst e none _ c hs he hd]
     rfl
  ·exact H.elim
 ·exact H.elim
theorem mfind_lt:∀ (l:List ME) (k:Int) (i j:Nat) (v:Value),mfind l k i=some (j,v) →∃ q,j=i+q∧∃ e,l[q]? = some e∧e.1=k∧∀ w,mset l k w=l.set q (k,w,e.2.2)
 | [],_,_,_,_,h=>by cases h
 | e::r,k,i,j,v,h=>by
   unfold mfind at h
   by_cases he:e.1=k
   ·rw[if_pos he]at h
    cases h
    exact⟨0,rfl,e,rfl,he,fun w=>by simp[mset,he]⟩
   ·rw[if_neg he]at h
    obtain⟨q,hq,e',h1,h2,h3⟩:=mfind_lt r k (i+1) j v h
    exact⟨q+1,by omega,e',by simpa using h1,h2,fun w=>by simp[mset,he,h3 w]⟩
theorem hrun_getMap{P:Program}{r:Nat}{h:Hp}{l:List ME}{c:Nat}(hr:h[r]? = some (mapO l c)){α:Type}(f:Obj→Sem α)(K:α→Hp→Prop)(H:hrun P (f (.map (l.map meOf).toArray c)) h K):hrun P (getObj r >>= f) h K:=by
 refine hrun_bind _ _ _ _ ?_
 show hrun P (.getObj r .pure) h _
 simp only[hrun,hr,mapO]
 exact H
theorem hrun_setMap{P:Program}{r:Nat}{h:Hp}{l:List ME}{c:Nat}(hr:h[r]? = some (mapO l c))(o:Obj)(K:Unit→Hp→Prop)(H:K () (h.setIfInBounds r o)):hrun P (setObj r o) h K:=by
 show hrun P (.setObj r o (.pure ())) h K
 simp only[hrun,hr,mapO]
 exact H
theorem updM_sound{P:Program}{t:TypeId}{m k v:Value}{h:Hp}{K:Hp→Prop}(H:updM P t m k v h K):hrun P (Instr.mapUpdate t m k v) h (fun _ h'=>K h'):=by
 unfold updM at H
 split at H
 ·rename_i et mo n hm
  obtain⟨kt,d,z,hu,hk,hi,hz⟩:=intMap_spec hm
  obtain⟨r,l,c,rfl,hr,H⟩:=H
  unfold Instr.mapUpdate
  refine hun_underlying hu _ _ _ ?_
  refine hrun_getMap hr _ _ ?_
  refine hrun_checkKey hk _ _ _ _ _ ?_
  show hrun P (Instr.findKey kt (.int .i64 n) (l.map meOf) >>= _) h _
  refine hrun_find hk l n _ _ _ ?_
  have hg:=mfind_get l n 0
  unfold mput at H
  cases hf:mfind l n 0 with
  | some p=>
    obtain⟨i,v'⟩:=p
    rw[hf]at hg
    have e2:mhas l n=true:=by simp[mhas,← hg]
    rw[if_pos e2]at H
    obtain⟨q,rfl,e,h1,h2,h3⟩:=mfind_lt _ _ _ _ _ hf
    rw[Nat.zero_add]
    have hkey:(((l.map meOf).toArray[q]?).map (·.key)).getD (.int .i64 n)=.int .i64 n:=by simp[h1,meOf,h2]
    show hrun P (Instr.keyThatStays ((((l.map meOf).toArray[q]?).map (·.key)).getD (.int .i64 n)) (.int .i64 n) >>= _) h _
    rw[hkey]
    refine hrun_bind _ _ _ _ ?_
    have ks:Instr.keyThatStays (.int .i64 n) (.int .i64 n)=(pure (.int .i64 n):Sem Value):=by
     unfold Instr.keyThatStays
     have:Instr.sameBits 10000 (.int .i64 n) (.int .i64 n)=true:=by
      show Instr.sameBits (9999+1) (.int .i64 n) (.int .i64 n)=true
      simp[Instr.sameBits]
     rw[if_pos this]
    rw[ks]
    refine hrun_setMap hr _ _ ?_
    have:mapO (mset l n v) c=.map ((l.map meOf).toArray.modify q fun e=>{ e with key := .int .i64 n,val:=v }) c:=by
     unfold mapO
     rw[h3 v]
     congr 1
     apply Array.ext_getElem?
     intro j
     rw[Array.getElem?_modify]
     by_cases hj:q=j
     ·subst hj
      have hlt:=(List.getElem?_eq_some_iff.1 h1).1
      have he:=(List.getElem?_eq_some_iff.1 h1).2
      simp[meOf,hlt,he]
     ·simp[hj,List.getElem?_set]
    rw[← this];exact H
  | none=>
    rw[hf]at hg
    have e2:mhas l n=false:=by simp[mhas,← hg]
    rw[if_neg (by simp[e2])]at H
    refine hrun_setMap hr _ _ ?_
    have:mapO (l ++ [(n,v,c)]) (c+1)=.map ((l.map meOf).toArray.push { key := .int .i64 n,val:=v,born:=c }) (c+1):=by
     unfold mapO;simp[meOf]
    rw[← this];exact H
 ·exact H.elim
theorem map_eraseIdx'{α β:Type}(f:α→β):∀ (l:List α) (q:Nat),(l.eraseIdx q).map f=(l.map f).eraseIdx q
 | [],_=>rfl
 | _::_,0=>rfl
 | a::r,q+1=>by simp[map_eraseIdx' f r q]
theorem delM_sound{P:Program}{t t' ty:TypeId}{m k:Value}{h:Hp}{K:Hp→Prop}(H:delM P t m k h K):hrun P (Builtin.delete_ #[t,t'] ty #[m,k]) h (fun v h'=>v=.tuple #[]∧K h'):=by
 unfold delM at H
 split at H
 ·rename_i et mo n hm
  obtain⟨kt,d,z,hu,hk,hi,hz⟩:=intMap_spec hm
  obtain⟨r,l,c,rfl,hr,H⟩:=H
  unfold Builtin.delete_
  refine hun_underlying hu _ _ _ ?_
  refine hrun_getMap hr _ _ ?_
  refine hrun_checkKey hk _ _ _ _ _ ?_
  show hrun P (Instr.findKey kt (.int .i64 n) (l.map meOf) >>= _) h _
  refine hrun_find hk l n _ _ _ ?_
  have key:∀ (l:List ME) (i:Nat),match mfind l n i with | some (j,_)=>(∃ q,j=i+q∧q<l.length∧mdel l n=l.eraseIdx q) | none=>mdel l n=l:=by
   intro l
   induction l with
   | nil=>intro i;simp[mfind,mdel]
   | cons e r ih=>
     intro i
     unfold mfind
     by_cases he:e.1=n
     ·rw[if_pos he];exact⟨0,rfl,by simp,by simp[mdel,he]⟩
     ·rw[if_neg he]
      have:=ih (i+1)
      have hm:mdel (e::r) n=e::mdel r n:=by simp[mdel,he]
      cases hf:mfind r n (i+1) with
      | some p=>
        rw[hf]at this
        obtain⟨q,h1,h2,h3⟩:=this
        exact⟨q+1,by omega,by simpa using h2,by rw[hm,h3];rfl⟩
      | none=>
        rw[hf]at this
        show mdel (e::r) n=e::r
        rw[hm,show mdel r n=r from this]
  have kk:=key l 0
  cases hf:mfind l n 0 with
  | some p=>
    obtain⟨i,v'⟩:=p
    rw[hf]at kk
    obtain⟨q,rfl,h2,h3⟩:=kk
    rw[Nat.zero_add]
    refine hrun_bind _ _ _ _ (hrun_setMap hr _ _ ?_)
    have:mapO (mdel l n) c=.map ((l.map meOf).toArray.eraseIdxIfInBounds q) c:=by
     unfold mapO;rw[h3];congr 1
     simp[Array.eraseIdxIfInBounds,h2,map_eraseIdx']
    rw[← this];exact⟨rfl,H⟩
  | none=>
    rw[hf]at kk
    refine hrun_bind _ _ _ _ (hrun_setMap hr _ _ ?_)
    have:mapO (mdel l n) c=.map (l.map meOf).toArray c:=by unfold mapO;rw[show mdel l n=l from kk]
    rw[← this];exact⟨rfl,H⟩
 ·exact H.elim
theorem rangeM_sound{P:Program}{t:TypeId}{m:Value}{h:Hp}{K:Value→Hp→Prop}(H:rangeM P t m h K):hrun P (Instr.range t m) h K:=by
 unfold rangeM at H
 split at H
 ·rename_i et mo hm
  obtain⟨kt,d,z,hu,hk,hi,hz⟩:=intMap_spec hm
  obtain⟨r,l,c,rfl,hr,H⟩:=H
  unfold Instr.range
  refine hun_underlying hu _ _ _ ?_
  refine hrun_getMap hr _ _ ?_
  exact H
 ·exact H.elim
theorem stepM_sound{P:Program}{ty:TypeId}{it:Value}{h:Hp}{K:Value→Hp→Prop}(H:stepM it h K):hrun P (Instr.next it false ty) h K:=by
 unfold stepM at H
 split at H
 ·obtain⟨r,m,c,seen,l,rfl,hr,hm,hb,H0,H1⟩:=H
  unfold Instr.next
  refine hrun_bind _ _ _ _ ?_
  show hrun P (.getObj r .pure) h _
  simp only[hrun,hr]
  show hrun P (getObj m >>= _) h K
  refine hrun_getMap hm _ _ ?_
  have hnot:¬ ((!seen.isEmpty && !((l.map meOf).toArray).isEmpty && ((l.map meOf).toArray).all (fun e=>decide (e.born ≥ c)))=true):=by
   intro hh
   simp only[Bool.and_eq_true]at hh
   cases l with
   | nil=>simp at hh
   | cons e r=>
     have h1:=hb e (by simp)
     have h2:=hh.2
     simp[meOf]at h2
     omega
  show hrun P (if _ then _ else _) h K
  rw[if_neg hnot]
  have hold:(((l.map meOf).toArray).filter fun e=>!seen.contains e.born).filter (fun e=>decide (e.born<c))=((l.map meOf).toArray).filter fun e=>!seen.contains e.born:=by
   rw[Array.filter_eq_self]
   intro e he
   rw[Array.mem_filter]at he
   obtain⟨x,hx,rfl⟩:=List.mem_map.1 (List.mem_toArray.1 he.1)
   exact decide_eq_true (hb x hx)
  have hnew:(((l.map meOf).toArray).filter fun e=>!seen.contains e.born).filter (fun e=>decide (e.born ≥ c)) = #[]:=by
   rw[Array.filter_eq_empty_iff]
   intro e he
   rw[Array.mem_filter]at he
   obtain⟨x,hx,rfl⟩:=List.mem_map.1 (List.mem_toArray.1 he.1)
   have:=hb x hx
   simp[meOf];omega
  simp only[hold,hnew,Array.append_empty]
  generalize hL:((l.map meOf).toArray).filter (fun e=>!seen.contains e.born)=L
  have hmem:∀ e∈L,∃ x∈l,meOf x=e∧x.2.2 ∉ seen:=by
   intro e he
   rw[← hL,Array.mem_filter]at he
   obtain⟨x,hx,rfl⟩:=List.mem_map.1 (List.mem_toArray.1 he.1)
   exact⟨x,hx,rfl,by simpa [meOf] using he.2⟩
  by_cases hLe:L.isEmpty=true
  ·have hLe':L = #[]:=by simpa using hLe
   subst hLe'
   have hall:∀ e∈l,e.2.2∈seen:=by
    intro e he
    have:=(Array.filter_eq_empty_iff.1 hL) (meOf e) (List.mem_toArray.2 (List.mem_map.2 ⟨e,he,rfl⟩))
    simpa [meOf] using this
   have hc0:(if (#[]:Array MapEntry).isEmpty=true then #[none] else #[])++(#[]:Array MapEntry).map some=(#[none]:Array (Option MapEntry)):=by simp
   rw[hc0]
   refine hrun_bind _ _ _ _ ?_
   intro t
   have:(if (Question.mapNext (#[none]:Array (Option MapEntry)).size).forced=true then 0 else (Question.mapNext (#[none]:Array (Option MapEntry)).size).cut t)=0:=by
    rw[if_pos (by simp[Question.forced])]
   rw[this]
   exact H0 hall
  ·rw[if_neg hLe,Array.empty_append]
   refine hrun_bind _ _ _ _ ?_
   intro t
   show hrun P _ h _
   generalize hq:(if (Question.mapNext (L.map some).size).forced=true then 0 else (Question.mapNext (L.map some).size).cut t)=q
   have hsz:0<L.size:=by
    rcases Nat.eq_zero_or_pos L.size with h0 | h0
    ·exfalso;exact hLe (by simpa using Array.eq_empty_of_size_eq_zero h0)
    ·exact h0
   have hlt:q<L.size:=by
    subst hq
    split
    ·exact hsz
    ·simp only[Question.cut,Array.size_map];exact Nat.mod_lt _ hsz
   have hget:(L.map some)[q]? = some (some L[q]):=by simp[hlt]
   obtain⟨x,hx,hxe,hns⟩:=hmem L[q] (Array.getElem_mem hlt)
   show hrun P (match (L.map some)[q]? with | some (some e)=>_ | some none=>_ | none=>_) h K
   rw[hget]
   show hrun P (setObj r _ >>= _) h K
   refine hrun_bind _ _ _ _ ?_
   show hrun P (.setObj r _ (.pure ())) h _
   simp only[hrun,hr]
   have:=H1 x.1 x.2.1 x.2.2 hx hns
   rw[← hxe]
   exact this
 ·exact H.elim
theorem entM_sound{P:Program}{t:TyS}{it:Value}{h:Hp}{K:Value→Hp→Prop}(H:entM t it h K):hrun P (Instr.entry it) h K:=by
 unfold entM at H
 split at H
 ·obtain⟨r,m,c,since,seen,l,n,v,b,rfl,hr,hs,hm,hmem,huniq,H⟩:=H
  obtain⟨v',rfl,hk⟩:=exTy_spec _ _ H
  unfold Instr.entry
  refine hrun_bind _ _ _ _ ?_
  show hrun P (.getObj r .pure) h _
  simp only[hrun,hr,hs]
  show hrun P (getObj m >>= _) h K
  refine hrun_getMap hm _ _ ?_
  show hrun P (if (c != c)=true then _ else _) h K
  rw[if_neg (by simp)]
  have hf:((l.map meOf).toArray).find? (fun e=>e.born == b)=some (meOf (n,v,b)):=by
   rw[List.find?_toArray]
   clear hm hk H
   induction l with
   | nil=>cases hmem
   | cons e r ih=>
     rw[List.map_cons]
     by_cases he:e.2.2=b
     ·have:=huniq e (by simp) he
      rw[List.find?_cons_of_pos (by simpa [meOf] using he),this]
     ·rw[List.find?_cons_of_neg (by simpa [meOf] using he)]
      rcases List.mem_cons.1 hmem with h | h
      ·exact absurd (by rw[← h]) he
      ·exact ih h fun e' h'=>huniq e' (by simp[h'])
  simp only[hf]
  exact hk
 ·exact H.elim
theorem copyM_sound{P:Program}{t t' ty:TypeId}{d s:Value}{h:Hp}{K:Value→Hp→Prop}(H:copyM P t t' d s h K):hrun P (Builtin.copy_ #[t,t'] ty #[d,s]) h K:=by
 unfold copyM at H
 split at H
 ·rename_i e e' b l c b' l' c' hu hu'
  split at H
  ·rename_i hel
   obtain⟨di,z,hd,hz,hzs,_,hpos,hby⟩:=elOk_spec hel
   have e1:szOf P e=di.size:=by simp[szOf,hd]
   rw[e1]at H
   obtain⟨news,hn,hr,hk⟩:=H
   unfold Builtin.copy_
   refine hun_underlying hu _ _ _ ?_
   show hrun P (Builtin.lenOf (.slice b' l' c') >>= _) h K
   refine hrun_bind _ _ _ _ ?_
   show hrun P (sizeOf e >>= _) h K
   refine hun_sizeOf hd _ _ _ ?_
   refine hrun_bind _ _ _ _ (hrun_firstCells (n:=Nat.min l' l) (vs:=news) hn hr ?_)
   cases b with
   | none=>exact hk
   | some a=>
     have hk':stCells (a.add 0) 0 news h (fun h'=>K (.int .i64 (((min l' l:Nat)):Int)) h'):=hk
     have ha:a.add 0=a:=by unfold Addr.add;simp
     rw[ha]at hk'
     refine hrun_bind _ _ _ _ (hrun_mono _ _ _ _ (fun _ h' hh=>?_) (hrun_storeCells a news 0 h _ hk'))
     exact hh
  ·exact H.elim
 ·exact H.elim
theorem opM_sound{P:Program}{o:Oper}{st:St}{a:Act}{w:World}{K:Value→Hp→Prop}(hev:a.eval=st.ev){ops:Array Oper}(H:opM P ops o st w.heap K)
 {next:Act→World→Prop} {Q:Exit→Act→World→Prop} (hn:∀ v w',Same w w'→K v w'.heap→next (a.put o.dst v) w'):o.wp P a w next Q:=by
 have run:hrun P (execOp st.ev o) w.heap (nextM K)→o.wp P a w next Q:=by
  intro h
  obtain⟨n,w',hr,hs,hk⟩:=hrun_sound _ w _ h
  unfold Oper.wp
  rw[hev,hr]
  cases n <;> first | exact hn _ _ hs hk | exact(hk:False).elim
 unfold opM at H
 split at H
 ·rename_i t ad x ho
  refine run ?_
  simp only[execOp,ho]
  exact hrun_bind _ _ _ _ (hrun_mono _ _ _ _ (fun _ _ hk=>hk) (stM_sound H))
 ·rename_i t l c ho
  refine run ?_
  simp only[execOp,ho]
  exact hrun_value _ _ _ (mkM_sound H)
 ·rename_i t m k x ho
  refine run ?_
  simp only[execOp,ho]
  exact hrun_bind _ _ _ _ (hrun_mono _ _ _ _ (fun _ _ hk=>hk) (updM_sound H))
 ·rename_i t x ho
  refine run ?_
  simp only[execOp,ho]
  exact hrun_value _ _ _ (rangeM_sound H)
 ·rename_i it ho
  refine run ?_
  simp only[execOp,ho]
  exact hrun_value _ _ _ (stepM_sound H)
 ·rename_i it ho
  refine run ?_
  simp only[execOp,ho]
  exact hrun_value _ _ _ (entM_sound H)
 ·rename_i src dst x ho
  obtain⟨v,w',hr,hs,hk⟩:=cvM_sound H
  have:(execOp st.ev o).run P w=.ok (.value v) w':=by
   simp only[execOp,ho,Sem.run_bind,hr]
   rfl
  unfold Oper.wp
  rw[hev,this]
  exact hn v w' hs hk
 ·rename_i t x y t' ho
  refine run ?_
  obtain⟨hk,p,hx,hy,hF⟩:=ptrEq_sound H
  simp only[execOp,ho]
  refine hrun_value _ _ _ ?_
  rw[hx,hy]at hF ⊢
  exact hrun_bind _ _ _ _ (show hrun P (binOp .eql t (.pointer p) (.pointer p)) w.heap K from hrun_bind _ _ _ _ (hF _ hk))
 ·rename_i t x y t' ho
  refine run ?_
  obtain⟨hk,p,hx,hy,hF⟩:=ptrEq_sound H
  simp only[execOp,ho]
  refine hrun_value _ _ _ ?_
  rw[hx,hy]at hF ⊢
  exact hrun_bind _ _ _ _ (show hrun P (binOp .neq t (.pointer p) (.pointer p)) w.heap K from hrun_bind _ _ _ _ (hF _ hk))
 ·rename_i c ho
  split at H
  ·rename_i s x t t' hc ha ht
   refine run ?_
   have ea:c.args = #[s,x]:=Array.toList_inj.1 ha
   have et:c.argTypes = #[t,t']:=Array.toList_inj.1 ht
   simp only[execOp,ho,resolve,hc]
   have pb:∀ {α β:Type} (x:α) (f:α→Sem β),(pure x >>= f:Sem β)=f x:=fun _ _=>rfl
   simp only[pb,invoke,builtin,ea,et,List.map_toArray,List.map_cons,List.map_nil]
   exact hrun_value _ _ _ (appM_sound H)
  ·rename_i s x t t' hc ha ht
   refine run ?_
   have ea:c.args = #[s,x]:=Array.toList_inj.1 ha
   have et:c.argTypes = #[t,t']:=Array.toList_inj.1 ht
   simp only[execOp,ho,resolve,hc]
   have pb:∀ {α β:Type} (x:α) (f:α→Sem β),(pure x >>= f:Sem β)=f x:=fun _ _=>rfl
   simp only[pb,invoke,builtin,ea,et,List.map_toArray,List.map_cons,List.map_nil]
   exact hrun_value _ _ _ (copyM_sound H)
  ·rename_i m k t t' hc ha ht
   refine run ?_
   have ea:c.args = #[m,k]:=Array.toList_inj.1 ha
   have et:c.argTypes = #[t,t']:=Array.toList_inj.1 ht
   simp only[execOp,ho,resolve,hc]
   have pb:∀ {α β:Type} (x:α) (f:α→Sem β),(pure x >>= f:Sem β)=f x:=fun _ _=>rfl
   simp only[pb,invoke,builtin,ea,et,List.map_toArray,List.map_cons,List.map_nil]
   refine hrun_value _ _ _ (hrun_mono _ _ _ _ ?_ (delM_sound H))
   rintro _ h' ⟨rfl,hk⟩;exact hk
  ·rename_i f hc
   unfold callM at H
   split at H
   ·rename_i k first captured hf
    obtain⟨hok,hcall⟩:=H
    have hrun':(execOp st.ev o).run P w=.ok (.enter k (first++c.args.map st.ev++captured)) w:=by
     unfold okFn at hok
     split at hok
     ·rename_i fn hfn
      simp only[Bool.and_eq_true,Bool.not_eq_true']at hok
      have hb:fn.body.isNone=false:=by cases hbd:fn.body <;> simp_all
      simp only[execOp,ho,resolve,hc,hf,Deferred.ofValue]
      show(callFunc k (first++c.args.map st.ev++captured)).run P w=_
      unfold callFunc
      show(match P.funcs[k]? with | none=>stuck "call: no such function" | some fn=>_:Sem Next).run P w=_
      rw[hfn]
      simp only[hok.1,Bool.false_eq_true,if_false,hb]
      rfl
     ·cases hok
    unfold Oper.wp
    rw[hev,hrun']
    show Calls P k _ w _
    refine(hcall w rfl).mono ?_
    rintro e w' ⟨v,rfl,hs,hres⟩
    exact hn _ _ hs (resEx_spec _ _ _ hres)
   ·exact H.elim
  ·exact run H
 ·exact run H
end Go.Proofs.YtdpdkpfnfllipaaGreatDoor

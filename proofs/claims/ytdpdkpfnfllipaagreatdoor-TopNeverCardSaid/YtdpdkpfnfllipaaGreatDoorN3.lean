/- A part of the proof, no condition. -/
import Derived.StillTail
import Derived.Test.YtdpdkpfnfllipaaGreatDoorN2
set_option linter.unusedVariables false
set_option linter.unusedSimpArgs false
namespace Go.Proofs.YtdpdkpfnfllipaaGreatDoor
structure Fr where
 n:Nat
 M:List Nat
 env0:Nat→Value
structure Ag(fr:Fr)(st:St)(a:Act):Prop where
 size:a.tmps.size=fr.n
 defers:a.defers = []
 env:∀ i,a.tmps.getD i undef=st.env i
 fine:st.fine
 kept:∀ i,i ∉ fr.M→st.env i=fr.env0 i
theorem Ag.eval{fr:Fr}{st:St}{a:Act}(h:Ag fr st a):a.eval=st.ev:=by
 funext x
 cases x <;> first | rfl | exact h.env _
theorem Ag.get{fr:Fr}{st:St}{a:Act}(h:Ag fr st a){d:Nat}(hd:d<fr.n):a.tmps[d]? = some (st.env d):=by
 have:=h.env d
 have hs:=h.size
 simp[hs,hd]at this
 simp[hs,hd,this]
theorem Ag.put{fr:Fr}{st:St}{a:Act}(h:Ag fr st a){d:Option Tmp}(hd:∀ x,d=some x→x<fr.n∧x∈fr.M){v:Value}{k:Option Bool}(hk:∀ b,k=some b→v=.bool b):Ag fr (st.put d v k) (a.put d v):=by
 cases d with
 | none=>exact h
 | some x=>
   obtain⟨hx,hM⟩:=hd x rfl
   refine⟨by simp[Act.put,h.size],h.defers,fun i=>?_,fun t b hb=>?_,fun i hi=>?_⟩
   ·by_cases hi:i=x
    ·subst hi;simp[Act.put,St.put,upd,h.size,hx]
    ·have:=h.env i
     simp[Act.put,St.put,upd,hi,Array.getElem?_setIfInBounds_ne (Ne.symm hi)]at this ⊢
     exact this
   ·by_cases hi:t=x
    ·subst hi;simp[St.put,upd]at hb ⊢;exact hk b hb
    ·simp[St.put,upd,hi]at hb ⊢;exact h.fine t b hb
   ·have hne:i≠x:=fun e=>hi (e ▸ hM)
    simp[St.put,upd,hne];exact h.kept i hi
theorem Ag.know{fr:Fr}{st:St}{a:Act}(h:Ag fr st a){d:Nat}{b:Bool}(hd:st.env d=.bool b):Ag fr (st.know d b) a:=by
 have he:(st.know d b).env=st.env:=by
  funext i;by_cases hi:i=d
  ·subst hi;simp[St.know,upd,hd]
  ·simp[St.know,upd,hi]
 refine⟨h.size,h.defers,fun i=>by rw[he];exact h.env i,fun t c hc=>?_,fun i hi=>by rw[he];exact h.kept i hi⟩
 rw[he]
 by_cases hi:t=d
 ·subst hi;simp[St.know,upd]at hc;subst hc;exact hd
 ·simp[St.know,upd,hi]at hc;exact h.fine t c hc
def guardVC(ops:Array Oper)(o:Oper)(st:St)(A B:St→Prop):Prop:=
 match o.guard with
 | none=>A st
 | some (j,want)=>
   match (ops[j]?).bind (·.dst) with
   | none=>False
   | some d=>
     match st.kn d with
     | some b=>(match b,want with | true,true=>A st | false,false=>A st | true,false=>B st | false,true=>B st)
     | none=>
       match st.env d,want with
       | .bool b,true=>IfB b (A (st.know d true)) (B (st.know d false))
       | .bool b,false=>IfB b (B (st.know d true)) (A (st.know d false))
       | .tuple _,_=>B st
       | _,_=>False
def wfR(fr:Fr)(ops:Array Oper):Prop:=∀ (j:Nat) (o:Oper),ops[j]? = some o →∀ d,o.dst=some d→d<fr.n∧d∈fr.M
theorem guardVC_sound{fr:Fr}{ops:Array Oper}{o:Oper}{st:St}{a:Act}(hw:wfR fr ops)(ha:Ag fr st a){A B:St→Prop}(H:guardVC ops o st A B) :
 ∃ st',Ag fr st' a∧((Region.wanted o (yielded ops a.tmps)=true∧A st')∨(Region.wanted o (yielded ops a.tmps)=false∧B st')):=by
 unfold guardVC at H
 split at H
 ·rename_i hg
  exact⟨st,ha,.inl ⟨by simp[Region.wanted,hg],H⟩⟩
 ·rename_i j want hg
  split at H
  ·exact H.elim
  ·rename_i d hd
   have hdn:d<fr.n:=by
    cases hj:ops[j]? with
    | none=>simp[hj]at hd
    | some oj=>rw[hj]at hd;exact(hw j oj hj d hd).1
   have key:∀ b,st.env d=.bool b→Region.wanted o (yielded ops a.tmps)=(b == want):=by
    intro b hb
    have h1:a.tmps[d]? = some (.bool b):=by rw[ha.get hdn,hb]
    have:yielded ops a.tmps j=some b:=by
     unfold yielded;rw[hd]
     show(match a.tmps[d]? with | some (Value.bool b)=>some b | _=>none)=some b
     rw[h1]
    simp[Region.wanted,hg,this]
   split at H
   ·rename_i b hk
    have:=key b (ha.fine d b hk)
    refine⟨st,ha,?_⟩
    rw[this]
    cases b <;> cases want <;> simp_all
   ·split at H
    ·rename_i b hb
     have:=key b hb
     cases b
     ·exact⟨_,ha.know hb,.inr ⟨by rw[this];rfl,H.2 rfl⟩⟩
     ·exact⟨_,ha.know hb,.inl ⟨by rw[this];rfl,H.1 rfl⟩⟩
    ·rename_i b hb
     have:=key b hb
     cases b
     ·exact⟨_,ha.know hb,.inl ⟨by rw[this];rfl,H.2 rfl⟩⟩
     ·exact⟨_,ha.know hb,.inr ⟨by rw[this];rfl,H.1 rfl⟩⟩
    ·rename_i vs hb
     refine⟨st,ha,.inr ⟨?_,H⟩⟩
     have h1:a.tmps[d]? = some (.tuple vs):=by rw[ha.get hdn,hb]
     have:yielded ops a.tmps j=none:=by
      unfold yielded;rw[hd]
      show(match a.tmps[d]? with | some (Value.bool b)=>some b | _=>none)=none
      rw[h1]
     simp[Region.wanted,hg,this]
    ·exact H.elim
def knOf(o:Oper)(st:St):Option Bool:=
 match o.op with
 | .move x | .assign x=>st.knOp x
 | .pick c a b=>(match st.knOp c with | some true=>st.knOp a | some false=>st.knOp b | none=>none)
 | _=>none
theorem knOp_ev{st:St}(hst:st.fine){x:Operand}{b:Bool}(h:st.knOp x=some b):st.ev x=.bool b:=by
 unfold St.knOp at h
 split at h
 ·exact hst _ _ h
 ·simp at h;subst h;rfl
 ·cases h
theorem opQ_kn{P:Program}{o:Oper}{st:St}{h:Hp}{K:Value→Prop}(hst:st.fine)(H:opQ P o st h K):opQ P o st h (fun v=>K v∧∀ b,knOf o st=some b→v=.bool b):=by
 have triv:knOf o st=none→opQ P o st h (fun v=>K v∧∀ b,knOf o st=some b→v=.bool b):=fun hn=>by
  have:(fun v=>K v∧∀ b,knOf o st=some b→v=.bool b)=K:=by funext v;simp[hn]
  rw[this];exact H
 rcases hk:knOf o st with _ | b0
 ·have:=triv hk;rw[hk]at this;exact this
 ·have hk':=hk
  unfold knOf at hk'
  split at hk'
  ·rename_i x ho
   unfold opQ at H ⊢
   simp only[ho]at H ⊢
   exact⟨H,fun b hb=>by cases hb;exact knOp_ev hst hk'⟩
  ·rename_i x ho
   unfold opQ at H ⊢
   simp only[ho]at H ⊢
   exact⟨H,fun b hb=>by cases hb;exact knOp_ev hst hk'⟩
  ·rename_i c x y ho
   unfold opQ at H ⊢
   simp only[ho]at H ⊢
   unfold pickQ at H ⊢
   split at hk'
   ·rename_i hc;simp only[hc]at H ⊢;exact⟨H,fun b hb=>by cases hb;exact knOp_ev hst hk'⟩
   ·rename_i hc;simp only[hc]at H ⊢;exact⟨H,fun b hb=>by cases hb;exact knOp_ev hst hk'⟩
   ·cases hk'
  ·cases hk'
def opsVC(P:Program)(ops:Array Oper)(K:St→Hp→Prop):List Oper→St→Hp→Prop
 | [],st,h=>K st h
 | o::r,st,h=>guardVC ops o st (fun st=>opVC P ops o st h (fun v h'=>opsVC P ops K r (st.put o.dst v (knOf o st)) h')) (fun st=>opsVC P ops K r (st.put o.dst undef none) h)
theorem opVC_sound{P:Program}{ops:Array Oper}{o:Oper}{fr:Fr}{st:St}{a:Act}{w:World}{K:Value→Hp→Prop}(ha:Ag fr st a)(hd:∀ d,o.dst=some d→d<fr.n∧d∈fr.M)(H:opVC P ops o st w.heap K)
 {next:Act→World→Prop} {Q:Exit→Act→World→Prop} (hn:∀ v w',Same w w'→K v w'.heap→Ag fr (st.put o.dst v (knOf o st)) (a.put o.dst v)→next (a.put o.dst v) w'):o.wp P a w next Q:=by
 unfold opVC at H
 split at H
 ·obtain⟨v,⟨hk,hkn⟩,hr⟩:=opQ_sound ha.fine (opQ_kn ha.fine H)
  unfold Oper.wp
  rw[ha.eval,hr w (Sub.refl _)]
  exact hn v w (.refl w) hk (ha.put hd hkn)
 ·rename_i hq
  refine opM_sound ha.eval H fun v w' hs hk=>hn v w' hs hk (ha.put hd fun b hb=>?_)
  exfalso
  unfold knOf at hb
  unfold isQ at hq
  split at hb <;> simp_all
theorem opsVC_sound{P:Program}{fr:Fr}{ops:Array Oper}(hw:wfR fr ops){K:St→Hp→Prop}{Q:Exit→Act→World→Prop}{w0:World}
 (hQ:∀ st a w,Ag fr st a→Same w0 w→K st w.heap→Q .normal a w):∀ (l:List Oper),(∀ o∈l,∀ d,o.dst=some d→d<fr.n∧d∈fr.M) →∀ (st:St) (a:Act) (w:World),Ag fr st a→Same w0 w→opsVC P ops K l st w.heap→wpList P ops Q l a w
 | [],_,st,a,w,ha,hs,H=>hQ st a w ha hs H
 | o::r,hl,st,a,w,ha,hs,H=>by
   have hd:=hl o (by simp)
   have hr:∀ o∈r,∀ d,o.dst=some d→d<fr.n∧d∈fr.M:=fun o ho=>hl o (by simp[ho])
   obtain⟨st',ha',hcase⟩:=guardVC_sound hw ha H
   unfold wpList
   rcases hcase with ⟨hwt,H'⟩ | ⟨hwt,H'⟩
   ·rw[if_pos hwt]
    refine .inl (opVC_sound ha' hd H' fun v w' hs' hk hag=>?_)
    exact opsVC_sound hw hQ r hr _ _ w' hag (hs.trans hs') hk
   ·rw[if_neg (by simp[hwt])]
    exact opsVC_sound hw hQ r hr _ _ w (ha'.put hd (by simp)) hs H'
def isW(o:Oper):Bool:=
 match o.op with
 | .store .. => true
 | .mapUpdate .. => true
 | .call c=>(match c.callee with | .builtin .append=>true | _=>false)
 | _=>false
def headN(ops:Array Oper):Nat:=
 ((List.range ops.size).find? fun i=>((ops[i]?).map isW).getD false && Region.sinkB .any ops i && Region.chainB .any ops i).getD ops.size
def allOf:List Nat→(Nat→Prop)→Prop
 | [],_=>True
 | [i],f=>f i
 | i::r,f=>f i∧allOf r f
theorem allOf_spec:∀ (l:List Nat) (f:Nat→Prop),allOf l f →∀ i∈l,f i
 | [],_,_,_,h=>by cases h
 | [j],f,H,i,h=>by simp at h;subst h;exact H
 | j::k::r,f,H,i,h=>by
   rcases List.mem_cons.1 h with rfl | h'
   ·exact H.1
   ·exact allOf_spec (k::r) f H.2 i h'
def isL(o:Oper):Bool:=
 match o.op with
 | .load .. => true
 | _=>false
def takeable(P:Program)(bl:Bool)(ops:Array Oper)(listed:Array Bool)(i:Nat):Bool:=
 ((ops[i]?).map (fun o=>isQ P o && !(bl && isL o))).getD false && Region.free .any ops listed i
def anyVC(P:Program)(bl:Bool)(ops:Array Oper)(h0:Hp)(E:Hp→Prop)(hd:Nat)(K:St→Hp→Prop):Nat→Array Bool→St→Hp→Prop
 | 0,listed,st,h=>(match Region.seqB .any ops (ops.size-hd) hd listed with | true=>opsVC P ops K (ops.toList.drop hd) st h | false=>False)
 | f+1,listed,st,h=>
   match Region.ready .any ops listed with
   | []=>False
   | r::rs=>
     match (r::rs).find? (takeable P bl ops listed) with
     | some i=>
       (match ops[i]?,decide (i<hd) with
       | some o,true=>guardVC ops o st (fun st=>opQ P o st h0 (fun v=>anyVC P bl ops h0 E hd K f (listed.setIfInBounds i true) (st.put o.dst v (knOf o st)) h)) (fun st=>anyVC P bl ops h0 E hd K f (listed.setIfInBounds i true) (st.put o.dst undef none) h)
       | _,_=>False)
     | none=>allOf (r::rs) fun i=>
       (match ops[i]?,decide (i<hd) with
       | some o,true=>guardVC ops o st (fun st=>opVC P ops o st h (fun v h'=>E h'∧anyVC P bl ops h0 E hd K f (listed.setIfInBounds i true) (st.put o.dst v (knOf o st)) h')) (fun st=>anyVC P bl ops h0 E hd K f (listed.setIfInBounds i true) (st.put o.dst undef none) h)
       | _,_=>False)
def drawVC(P:Program)(ops:Array Oper)(st:St)(h:Hp)(K:St→Hp→Prop):Prop:=
 anyVC P false ops h (Ext h) (headN ops) K (headN ops) (Array.replicate ops.size false) st h
def looseVC(P:Program)(ops:Array Oper)(st:St)(h:Hp)(K:St→Hp→Prop):Prop:=
 ∃ hR:Hp,Sub hR h∧anyVC P false ops hR (Sub hR) (headN ops) K (headN ops) (Array.replicate ops.size false) st h
def blindVC(P:Program)(ops:Array Oper)(st:St)(h:Hp)(K:St→Hp→Prop):Prop:=
 anyVC P true ops #[] (fun _=>True) (headN ops) K (headN ops) (Array.replicate ops.size false) st h
def wpT(P:Program)(ops:Array Oper)(Q:Exit→Act→World→Prop)(S:World→Prop)(hd:Nat):Nat→Array Bool→Act→World→Prop
 | 0,listed,a,w=>(∀ j∈Region.ready .any ops listed,hd≤j)∧wpAny P .any ops Q (ops.size-hd) listed a w
 | f+1,listed,a,w=>Region.ready .any ops listed ≠ []∧∀ i∈Region.ready .any ops listed,i<hd∧wpOp P ops Q i (fun a' w'=>S w'∧wpT P ops Q S hd f (listed.setIfInBounds i true) a' w') a w
theorem wpAny_of_T{P:Program}{ops:Array Oper}{Q:Exit→Act→World→Prop}{S:World→Prop}{hd:Nat}:∀ (f:Nat) (listed:Array Bool) (a:Act) (w:World),wpT P ops Q S hd f listed a w→wpAny P .any ops Q (f+(ops.size-hd)) listed a w
 | 0,listed,a,w,H=>by rw[Nat.zero_add];exact H.2
 | f+1,listed,a,w,H=>by
   rw[Nat.add_right_comm]
   exact⟨fun h=>absurd h H.1,fun i hi=>wpOp_mono (fun a' w' h'=>wpAny_of_T f _ a' w' h'.2) (H.2 i hi).2⟩
theorem wpT_first{P:Program}{ops:Array Oper}{Q:Exit→Act→World→Prop}{S:World→Prop}{hd:Nat}{i:Nat}{oi:Oper}{v:Value}(hi:ops[i]? = some oi)(hihd:i<hd)
 (hsel:∀ (j:Nat) (o:Oper) cs b,ops[j]? = some o→o.op ≠ .select cs b) (hQ:∀ c a w,¬ Q (.panic c) a w)
 (hwait:∀ listed,HeadInv .any ops hd listed→listed.getD i true=false →∀ t,hd≤t→t ∉ Region.ready .any ops listed) :
 ∀ (f:Nat) (listed:Array Bool) (a:Act) (w:World),HeadInv .any ops hd listed →
   (∀ j oj,ops[j]? = some oj→j≠i→listed.getD j true=false→(∀ e∈oj.after,Region.binds .any e=true→e.on≠i)→oi.apart ops oj=true) →
   i∈Region.ready .any ops listed→YieldsIf P ops S oi v a→S w→wpT P ops Q S hd f (listed.setIfInBounds i true) (a.put oi.dst v) w→wpT P ops Q S hd (f+1) listed a w:=by
 intro f
 induction f with
 | zero=>
   intro listed a w inv _ hr hy hS H
   refine⟨fun h=>(by rw[h]at hr;cases hr),fun j hj=>?_⟩
   by_cases hji:j=i
   ·subst hji;exact⟨hihd,hy.wpOp hi hS ⟨hS,H⟩⟩
   ·exact(hwait listed inv (mem_ready.1 hr).1 j (H.1 j (ready_mono hj hji)) hj).elim
 | succ f ih=>
   intro listed a w inv hfree hr hy hS H
   refine⟨fun h=>(by rw[h]at hr;cases hr),fun j hj=>?_⟩
   by_cases hji:j=i
   ·subst hji;exact⟨hihd,hy.wpOp hi hS ⟨hS,H⟩⟩
   ·obtain⟨hjhd,h1⟩:=H.2 j (ready_mono hj hji)
    obtain⟨hjun,oj,hoj,hall⟩:=mem_ready.1 hj
    have hnot:∀ e∈oj.after,Region.binds .any e=true→e.on≠i:=fun e he hb heq=>by
     have h1:=hall e he hb
     have h0:=(mem_ready.1 hr).1
     rw[heq,getD_both h0]at h1
     cases h1
    have h2:=wpOp_putIf hoj (hfree j oj hoj hji hjun hnot) (fun cs b=>hsel i oi cs b hi) (fun cs b=>hsel j oj cs b hoj) (fun c a w h=>(hQ c _ w h).elim) hy h1
    have hfree':∀ k ok,ops[k]? = some ok→k≠i→(listed.setIfInBounds j true).getD k true=false →
     (∀ e∈ok.after,Region.binds .any e=true→e.on≠i)→oi.apart ops ok=true:=fun k ok hk hki hun hno=>by
     refine hfree k ok hk hki ?_ hno
     by_cases hjk:j=k
     ·subst hjk;exact hjun
     ·rw[getD_set_ne true hjk]at hun;exact hun
    refine⟨hjhd,wpOp_mono (fun a' w' h3=>⟨h3.2.1,ih (listed.setIfInBounds j true) a' w' (inv.set hj hjhd) hfree' (ready_mono hr (Ne.symm hji)) h3.1 h3.2.1 ?_⟩) h2⟩
    rw[Array.setIfInBounds_comm _ _ hji]
    exact h3.2.2
theorem wpOp_of{P:Program}{ops:Array Oper}{Q:Exit→Act→World→Prop}{i:Nat}{o:Oper}{K:Act→World→Prop}{a:Act}{w:World}(hi:ops[i]? = some o)
 (h:(Region.wanted o (yielded ops a.tmps)=true∧o.wp P a w K Q)∨(Region.wanted o (yielded ops a.tmps)=false∧K (a.put o.dst undef) w)):wpOp P ops Q i K a w:=by
 unfold wpOp
 simp only[hi]
 rcases h with ⟨h1,h2⟩ | ⟨h1,h2⟩
 ·rw[if_pos h1];exact .inl h2
 ·rw[if_neg (by simp[h1])];exact h2
theorem anyVC_sound{P:Program}{bl:Bool}{fr:Fr}{ops:Array Oper}(hw:wfR fr ops)(hns:Region.noSelect ops=true){K:St→Hp→Prop}{Q:Exit→Act→World→Prop}{w0:World}{h0:Hp}{E:Hp→Prop}{hd:Nat}(hE:∀ h',E h'→Sub h0 h')
 (hQp:∀ c a w,¬ Q (.panic c) a w)
 (hwait:∀ i<hd,∀ listed,HeadInv .any ops hd listed→listed.getD i true=false →∀ t,hd≤t→t ∉ Region.ready .any ops listed)
 (hQ:∀ st a w,Ag fr st a→Same w0 w→K st w.heap→Q .normal a w):∀ (f:Nat) (listed:Array Bool) (st:St) (a:Act) (w:World),HeadInv .any ops hd listed→Ag fr st a→Same w0 w→E w.heap →
  anyVC P bl ops h0 E hd K f listed st w.heap→wpT P ops Q (fun w=>E w.heap) hd f listed a w
 | 0,listed,st,a,w,inv,ha,hs,he,H=>by
   unfold anyVC at H
   split at H
   ·rename_i hseq
    refine⟨fun j hj=>seqB_ready hseq j hj,?_⟩
    have hl:(ops.toList.drop hd).length=ops.size-hd:=by simp
    have:=wpAny_of_seq (md := .any) (Q':=Q) (P:=P) (ops.toList.drop hd) hd listed a w (fun j=>by simp[List.getElem?_drop]) (by rw[hl];exact hseq)
     (opsVC_sound hw hQ _ (fun o ho d hd'=>by
      obtain⟨j,hj,hj2⟩:=List.mem_iff_getElem.1 (List.mem_of_mem_drop ho)
      exact hw j o (by rw[← hj2];simp at hj ⊢) d hd') st a w ha hs H)
    rwa[hl]at this
   ·exact H.elim
 | f+1,listed,st,a,w,inv,ha,hs,he,H=>by
   unfold anyVC at H
   split at H
   ·exact H.elim
   ·rename_i r rs hrd
    split at H
    ·rename_i i hfind
     split at H
     ·rename_i o hi hlt
      have hihd:i<hd:=by simpa using hlt
      have hir:i∈Region.ready .any ops listed:=by rw[hrd];exact List.mem_of_find?_eq_some hfind
      have htk:=List.find?_some hfind
      simp only[takeable,hi,Option.map_some,Option.getD_some,Bool.and_eq_true]at htk
      have hdst:=hw i o hi
      obtain⟨st',ha',hcase⟩:=guardVC_sound hw ha H
      have go:∀ v,YieldsIf P ops (fun w=>E w.heap) o v a→wpT P ops Q (fun w=>E w.heap) hd f (listed.setIfInBounds i true) (a.put o.dst v) w→wpT P ops Q (fun w=>E w.heap) hd (f+1) listed a w:=fun v hy hT=>
       wpT_first hi hihd (Region.noSelect_spec hns) hQp (hwait i hihd) f listed a w inv (Region.free_spec hi htk.2) hir hy he hT
      rcases hcase with ⟨hwt,H'⟩ | ⟨hwt,H'⟩
      ·obtain⟨v,⟨hk,hkn⟩,hr⟩:=opQ_sound ha'.fine (opQ_kn ha'.fine H')
       refine go v (.inl ⟨hwt,fun w' hw'=>by rw[ha'.eval];exact hr w' (hE _ hw')⟩) ?_
       exact anyVC_sound hw hns hE hQp hwait hQ f _ _ _ w (inv.set hir hihd) (ha'.put hdst hkn) hs he hk
      ·refine go undef (.inr ⟨hwt,rfl⟩) ?_
       exact anyVC_sound hw hns hE hQp hwait hQ f _ _ _ w (inv.set hir hihd) (ha'.put hdst (by simp)) hs he H'
     ·exact H.elim
    ·rw[← hrd]at H
     refine⟨by rw[hrd];simp,fun i hir=>?_⟩
     have H:=allOf_spec _ _ H i hir
     split at H
     ·rename_i o hi hlt
      have hihd:i<hd:=by simpa using hlt
      have hdst:=hw i o hi
      obtain⟨st',ha',hcase⟩:=guardVC_sound hw ha H
      refine⟨hihd,wpOp_of hi ?_⟩
      rcases hcase with ⟨hwt,H'⟩ | ⟨hwt,H'⟩
      ·refine .inl ⟨hwt,opVC_sound ha' hdst H' fun v w' hs' hk hag=>⟨hk.1,?_⟩⟩
       exact anyVC_sound hw hns hE hQp hwait hQ f _ _ _ w' (inv.set hir hihd) hag (hs.trans hs') hk.1 hk.2
      ·refine .inr ⟨hwt,he,?_⟩
       exact anyVC_sound hw hns hE hQp hwait hQ f _ _ _ w (inv.set hir hihd) (ha'.put hdst (by simp)) hs he H'
     ·exact H.elim
theorem anyC_sound{P:Program}{bl:Bool}{fr:Fr}{id:Nat}{ops:Array Oper}{h0:Hp}{E:Hp→Prop}(hE:∀ h',E h'→Sub h0 h')(hm:P.follows .mixedOrders=true)(hw:wfR fr ops)(hns:Region.noSelect ops=true){K:St→Hp→Prop}{Q:Exit→Act→World→Prop}
 (hQp:∀ c a w,¬ Q (.panic c) a w) {st:St} {a:Act} {w:World} (hQ:∀ st a w',Ag fr st a→Same w w'→K st w'.heap→Q .normal a w') (ha:Ag fr st a) (he:E w.heap) (H:anyVC P bl ops h0 E (headN ops) K (headN ops) (Array.replicate ops.size false) st w.heap):(Code.region id ops true).wp P Q a w:=by
 refine wp_region_any hm ?_
 have hle:headN ops≤ops.size:=by
  unfold headN
  cases hf:(List.range ops.size).find? _ with
  | none=>simp
  | some i=>have:=List.mem_of_find?_eq_some hf;simp at this ⊢;omega
 have hwait:∀ i<headN ops,∀ listed,HeadInv .any ops (headN ops) listed→listed.getD i true=false →∀ t,headN ops≤t→t ∉ Region.ready .any ops listed:=by
  intro i hi listed inv hun t ht htr
  by_cases hn:headN ops=ops.size
  ·obtain⟨_,o,ho,_⟩:=mem_ready.1 htr
   have:=(Array.getElem?_eq_some_iff.1 ho).1
   omega
  ·have hsc:Region.sinkB .any ops (headN ops)=true∧Region.chainB .any ops (headN ops)=true:=by
    unfold headN at hn ⊢
    cases hf:(List.range ops.size).find? _ with
    | none=>rw[hf]at hn;simp at hn
    | some k=>
      have:=List.find?_some hf
      simp only[Bool.and_eq_true]at this
      simp only[Option.getD_some]
      exact⟨this.1.2,this.2⟩
   exact tail_waits hsc.1 hsc.2 (by omega) inv _ i rfl hi hun t ht htr
 have inv0:HeadInv .any ops (headN ops) (Array.replicate ops.size false):=
  ⟨by simp,fun j oj _ hl=>(by rw[getD_replicate_false]at hl;cases hl),fun t _ ht=>getD_in (by simpa using ht) (getD_replicate_false _ _)⟩
 have:=wpAny_of_T _ _ _ _ (anyVC_sound (w0:=w) hw hns hE hQp hwait hQ (headN ops) _ st a { w with drawn:=w.drawn+1 } inv0 ha ⟨rfl,rfl,rfl⟩ he H)
 rwa[show headN ops+(ops.size-headN ops)=ops.size by omega]at this
theorem drawVC_sound{P:Program}{fr:Fr}{id:Nat}{ops:Array Oper}(hm:P.follows .mixedOrders=true)(hw:wfR fr ops)(hns:Region.noSelect ops=true){K:St→Hp→Prop}{Q:Exit→Act→World→Prop}
 (hQp:∀ c a w,¬ Q (.panic c) a w) {st:St} {a:Act} {w:World} (hQ:∀ st a w',Ag fr st a→Same w w'→K st w'.heap→Q .normal a w') (ha:Ag fr st a) (H:drawVC P ops st w.heap K):(Code.region id ops true).wp P Q a w:=
 anyC_sound (fun _ e=>e.sub) hm hw hns hQp hQ ha (Ext.refl _) H
theorem looseVC_sound{P:Program}{fr:Fr}{id:Nat}{ops:Array Oper}(hm:P.follows .mixedOrders=true)(hw:wfR fr ops)(hns:Region.noSelect ops=true){K:St→Hp→Prop}{Q:Exit→Act→World→Prop}
 (hQp:∀ c a w,¬ Q (.panic c) a w) {st:St} {a:Act} {w:World} (hQ:∀ st a w',Ag fr st a→Same w w'→K st w'.heap→Q .normal a w') (ha:Ag fr st a) (H:looseVC P ops st w.heap K):(Code.region id ops true).wp P Q a w:=by
 obtain⟨hR,hs,H⟩:=H
 exact anyC_sound (fun _ e=>e) hm hw hns hQp hQ ha hs H
theorem blindVC_sound{P:Program}{fr:Fr}{id:Nat}{ops:Array Oper}(hm:P.follows .mixedOrders=true)(hw:wfR fr ops)(hns:Region.noSelect ops=true){K:St→Hp→Prop}{Q:Exit→Act→World→Prop}
 (hQp:∀ c a w,¬ Q (.panic c) a w) {st:St} {a:Act} {w:World} (hQ:∀ st a w',Ag fr st a→Same w w'→K st w'.heap→Q .normal a w') (ha:Ag fr st a) (H:blindVC P ops st w.heap K):(Code.region id ops true).wp P Q a w:=
 anyC_sound (h0:=#[]) (E:=fun _=>True) (fun _ _=>⟨fun a v hc=>by simp[hY,Go.Proofs.YtdpdkpfnfllipaaGreatDoor.hw,World.cell?]at hc,fun r es c hm=>by simp at hm⟩) hm hw hns hQp hQ ha trivial H
def FT:List (Nat × Sh)→Type→Type
 | [],β=>β
 | (_,s)::L,β=>s.T→FT L β
def allFT{β:Type}:(L:List (Nat × Sh))→FT L β→St→(St→β→Prop)→Prop
 | [],f,st,k=>k st f
 | (i,s)::L,f,st,k=>∀ x:s.T,allFT L (f x) ⟨upd st.env i (s.inj x),upd st.kn i none⟩ k
def atFT{β:Type}:(L:List (Nat × Sh))→FT L β→St→(β→Prop)→Prop
 | [],f,_,k=>k f
 | (i,s)::L,f,st,k=>s.proj (st.env i) fun x=>atFT L (f x) st k
def setL(env:Nat→Value):List (Nat × Sh)→St→St
 | [],st=>st
 | (i,_)::L,st=>setL env L ⟨upd st.env i (env i),upd st.kn i none⟩
theorem at_all{β:Type}:∀ (L:List (Nat × Sh)) (f:FT L β) (st st0:St) (k:β→Prop) (k':St→β→Prop),atFT L f st k→allFT L f st0 k' →∃ b,k b∧k' (setL st.env L st0) b
 | [],f,_,_,_,_,h,h'=>⟨f,h,h'⟩
 | (i,s)::L,f,st,st0,k,k',h,h'=>by
   obtain⟨x,hx,h1⟩:=Sh.proj_spec _ _ _ h
   obtain⟨b,hb,hb'⟩:=at_all L (f x) st _ k k' h1 (h' x)
   refine⟨b,hb,?_⟩
   simp only[setL];rw[hx];exact hb'
def havoc(st:St)(ms:List Nat)(junk:Nat→Value):St:=
 ⟨fun i=>if ms.contains i=true then junk i else st.env i,fun i=>if ms.contains i=true then none else st.kn i⟩
theorem setL_env(env:Nat→Value):∀ (L:List (Nat × Sh)) (st:St),st.env=env→(setL env L st).env=env
 | [],_,h=>h
 | (i,s)::L,st,h=>setL_env env L _ (by
   funext j
   by_cases hj:j=i
   ·subst hj;simp[upd]
   ·simp[upd,hj,h])
theorem setL_kn(env:Nat→Value):∀ (L:List (Nat × Sh)) (st:St) (t:Nat) (b:Bool),(setL env L st).kn t=some b→st.kn t=some b
 | [],_,_,_,h=>h
 | (i,s)::L,st,t,b,h=>by
   have:=setL_kn env L _ t b h
   by_cases hj:t=i
   ·subst hj;simp[upd]at this
   ·simpa [upd,hj] using this
structure Ann where
 loop:Nat→Option (List (Nat × Sh))
 cut:Nat→Option (List (Nat × Sh))
 loose:Nat→Nat
def modsC:Code→List Nat
 | .region _ ops _=>ops.toList.filterMap (·.dst)
 | .seq a b=>modsC a++modsC b
 | .cond _ a b=>modsC a++modsC b
 | .block _ c=>modsC c
 | .loop c=>modsC c
 | .scope c=>modsC c
 | _=>[]
def nloops:Code→Nat
 | .seq a b=>nloops a+nloops b
 | .cond _ a b=>nloops a+nloops b
 | .block _ c=>nloops c
 | .loop c=>nloops c+1
 | .scope c=>nloops c
 | _=>0
def firstReg:Code→Option Nat
 | .region id _ _=>some id
 | .seq a b=>(firstReg a).or (firstReg b)
 | .block _ c=>firstReg c
 | .loop c=>firstReg c
 | .scope c=>firstReg c
 | _=>none
def trivC:Code→Bool
 | .label _ | .skip=>true
 | _=>false
def vcCode(P:Program)(A:Ann):Code→Nat→(Exit→St→Hp→Prop)→St→Hp→Prop
 | .skip,_,Q=>Q .normal
 | .label _,_,Q=>Q .normal
 | .ret,_,Q=>Q .ret
 | .exit id,_,Q=>Q (.exit id)
 | .seq a b,n,Q=>fun st h=>
   match (match trivC a with | true=>none | false=>(firstReg b).bind A.cut:Option (List (Nat × Sh))) with
   | none=>vcCode P A a n (fun e st' h'=>match e with | .normal=>vcCode P A b (n+nloops a) Q st' h' | e=>Q e st' h') st h
   | some L=>∃ J:FT L (Hp→Prop),vcCode P A a n (fun e st' h'=>match e with | .normal=>atFT L J st' (fun J'=>J' h') | e=>Q e st' h') st h∧
    ∀ junk:Nat→Value,allFT L J (havoc st (modsC a) junk) (fun st' J'=>∀ h':Hp,J' h'→vcCode P A b (n+nloops a) Q st' h')
 | .cond c x y,n,Q=>fun st h=>
   match st.knOp c with
   | some true=>vcCode P A x n Q st h
   | some false=>vcCode P A y (n+nloops x) Q st h
   | none=>match c,st.ev c with
     | .tmp t,.bool b=>IfB b (vcCode P A x n Q (st.know t true) h) (vcCode P A y (n+nloops x) Q (st.know t false) h)
     | _,_=>False
 | .block id c,n,Q=>vcCode P A c n (fun e st h=>match e with | .exit i=>(match decide (i=id) with | true=>Q .normal st h | false=>Q (.exit i) st h) | e=>Q e st h)
 | .scope c,n,Q=>vcCode P A c n Q
 | .region id ops false,_,Q=>fun st h=>
   match A.loose id with
   | 9=>False
   | _=>opsVC P ops (fun st' h'=>Q .normal st' h') ops.toList st h
 | .region id ops true,_,Q=>fun st h=>
   match A.loose id with
   | 0=>drawVC P ops st h (fun st' h'=>Q .normal st' h')
   | 1=>looseVC P ops st h (fun st' h'=>Q .normal st' h')
   | 9=>False
   | _=>blindVC P ops st h (fun st' h'=>Q .normal st' h')
 | .loop c,n,Q=>fun st h=>
   match A.loop n with
   | none=>False
   | some L=>∃ (I:FT L (Nat→Hp→Prop)) (m0:Nat),atFT L I st (fun I'=>I' m0 h)∧
    ∀ junk:Nat→Value,allFT L I (havoc st (modsC c) junk) (fun st' I'=>∀ (m:Nat) (h':Hp),I' m h' →
      vcCode P A c (n+1) (fun e st'' h''=>match e with | .normal=>atFT L I st'' (fun I''=>∃ m',m'<m∧I'' m' h'') | e=>Q e st'' h'') st' h')
 | _,_,_=>fun _ _=>False
def wfC(n:Nat)(c:Code):Bool:=(modsC c).all fun d=>decide (d<n)
def nsC:Code→Bool
 | .region _ ops _=>Region.noSelect ops
 | .seq a b=>nsC a && nsC b
 | .cond _ a b=>nsC a && nsC b
 | .block _ c=>nsC c
 | .loop c=>nsC c
 | .scope c=>nsC c
 | _=>true
def Qw(fr:Fr)(w0:World)(Q:Exit→St→Hp→Prop):Exit→Act→World→Prop
 | .panic _,_,_=>False
 | .outgrown,_,_=>False
 | .goto _,_,_=>False
 | e,a,w=>∃ st,Ag fr st a∧Same w0 w∧Q e st w.heap
theorem Ag.sub{fr:Fr}{st:St}{a:Act}(h:Ag fr st a)(M:List Nat):Ag ⟨fr.n,M,st.env⟩ st a:=⟨h.size,h.defers,h.env,h.fine,fun _ _=>rfl⟩
theorem Ag.back{fr:Fr}{st st':St}{a a':Act}{M:List Nat}(h:Ag fr st a)(hM:∀ i∈M,i∈fr.M)(h':Ag ⟨fr.n,M,st.env⟩ st' a'):Ag fr st' a':=
 ⟨h'.size,h'.defers,h'.env,h'.fine,fun i hi=>(h'.kept i (fun hm=>hi (hM i hm))).trans (h.kept i hi)⟩
theorem Ag.land{fr:Fr}{st st':St}{a a':Act}{M:List Nat}(L:List (Nat × Sh))(h:Ag fr st a)(hM:∀ i∈M,i∈fr.M)(h':Ag ⟨fr.n,M,st.env⟩ st' a'):Ag fr (setL st'.env L (havoc st M st'.env)) a':=by
 have he:(havoc st M st'.env).env=st'.env:=by
  funext i
  simp only[havoc]
  split
  ·rfl
  ·rename_i hc
   exact(h'.kept i (by simpa using hc)).symm
 have hb:=h.back hM h'
 have hs:=setL_env st'.env L _ he
 refine⟨hb.size,hb.defers,fun i=>by rw[hs];exact hb.env i,fun t b ht=>?_,fun i hi=>by rw[hs];exact hb.kept i hi⟩
 have h1:=setL_kn _ L _ t b ht
 rw[hs]
 simp only[havoc]at h1
 split at h1
 ·cases h1
 ·rename_i hc
  rw[h'.kept t (by simpa using hc)]
  exact h.fine t b h1
theorem wfR_of{n:Nat}{M:List Nat}{env0:Nat→Value}{ops:Array Oper}(hM:∀ d∈ops.toList.filterMap (·.dst),d<n∧d∈M):wfR ⟨n,M,env0⟩ ops:=by
 intro j o hj d hd
 exact hM d (List.mem_filterMap.2 ⟨o,Array.mem_toList_iff.2 (Array.mem_of_getElem? hj),hd⟩)
theorem vcCode_sound{P:Program}{A:Ann}(hm:P.follows .mixedOrders=true):∀ (c:Code) (n:Nat) (fr:Fr) (w0:World) (Q:Exit→St→Hp→Prop) (st:St) (a:Act) (w:World),
 (∀ d∈modsC c,d<fr.n∧d∈fr.M)→nsC c=true→Ag fr st a→Same w0 w→vcCode P A c n Q st w.heap→c.wp P (Qw fr w0 Q) a w:=by
 intro c
 induction c with
 | skip=>exact fun n fr w0 Q st a w _ _ ha hs H=>wp_skip ⟨st,ha,hs,H⟩
 | label l=>exact fun n fr w0 Q st a w _ _ ha hs H=>wp_label ⟨st,ha,hs,H⟩
 | ret=>exact fun n fr w0 Q st a w _ _ ha hs H=>wp_ret ⟨st,ha,hs,H⟩
 | exit id=>exact fun n fr w0 Q st a w _ _ ha hs H=>wp_exit ⟨st,ha,hs,H⟩
 | goto l=>exact fun n fr w0 Q st a w _ _ ha hs H=>(H:False).elim
 | refuse w=>exact fun n fr w0 Q st a w _ _ ha hs H=>(H:False).elim
 | rangeFunc f p as b=>exact fun n fr w0 Q st a w _ _ ha hs H=>(H:False).elim
 | region id ops draw=>
   intro n fr w0 Q st a w hM hns ha hs H
   have hw:wfR fr ops:=wfR_of hM
   cases draw with
   | false=>
     unfold vcCode at H
     split at H
     ·exact H.elim
     refine wp_region_list (opsVC_sound (w0:=w0) hw (K:=fun st' h'=>Q .normal st' h') (fun st' a' w' ha' hs' hk=>⟨st',ha',hs',hk⟩) _ (fun o ho=>?_) st a w ha hs H)
     obtain⟨j,hj,hj2⟩:=List.mem_iff_getElem.1 ho
     exact hw j o (by rw[← hj2];simp)
   | true=>
     unfold vcCode at H
     split at H
     ·exact drawVC_sound hm hw hns (fun _ _ _ h=>h) (fun st' a' w' ha' hs' hk=>⟨st',ha',hs.trans hs',hk⟩) ha H
     ·exact looseVC_sound hm hw hns (fun _ _ _ h=>h) (fun st' a' w' ha' hs' hk=>⟨st',ha',hs.trans hs',hk⟩) ha H
     ·exact H.elim
     ·exact blindVC_sound hm hw hns (fun _ _ _ h=>h) (fun st' a' w' ha' hs' hk=>⟨st',ha',hs.trans hs',hk⟩) ha H
 | seq x y ihx ihy=>
   intro n fr w0 Q st a w hM hns ha hs H
   have hMx:∀ d∈modsC x,d<fr.n∧d∈fr.M:=fun d hd=>hM d (List.mem_append.2 (.inl hd))
   have hMy:∀ d∈modsC y,d<fr.n∧d∈fr.M:=fun d hd=>hM d (List.mem_append.2 (.inr hd))
   simp only[nsC,Bool.and_eq_true]at hns
   unfold vcCode at H
   split at H
   ·refine wp_seq (wp_mono (ihx n fr w0 _ st a w hMx hns.1 ha hs H) ?_)
    intro e a' w' hq
    cases e <;> first
     | (obtain⟨st',ha',hs',hk⟩:=hq;exact ihy _ fr w0 Q st' a' w' hMy hns.2 ha' hs' hk)
     | exact hq
   ·rename_i L _
    obtain⟨J,H1,H2⟩:=H
    refine wp_seq (wp_mono (ihx n ⟨fr.n,modsC x,st.env⟩ w0 _ st a w (fun d hd=>⟨(hMx d hd).1,hd⟩) hns.1 (ha.sub _) hs H1) ?_)
    intro e a' w' hq
    cases e
    case normal=>
     obtain⟨st',ha',hs',hk⟩:=hq
     obtain⟨J',hJ,hy⟩:=at_all L J st' _ _ _ hk (H2 st'.env)
     exact ihy _ fr w0 Q _ a' w' hMy hns.2 (ha.land L (fun d hd=>(hMx d hd).2) ha') hs' (hy _ hJ)
    case exit id=>obtain⟨st',ha',hs',hk⟩:=hq;exact⟨st',ha.back (fun d hd=>(hMx d hd).2) ha',hs',hk⟩
    case ret=>obtain⟨st',ha',hs',hk⟩:=hq;exact⟨st',ha.back (fun d hd=>(hMx d hd).2) ha',hs',hk⟩
    all_goals exact hq
 | cond c x y ihx ihy=>
   intro n fr w0 Q st a w hM hns ha hs H
   have hMx:∀ d∈modsC x,d<fr.n∧d∈fr.M:=fun d hd=>hM d (List.mem_append.2 (.inl hd))
   have hMy:∀ d∈modsC y,d<fr.n∧d∈fr.M:=fun d hd=>hM d (List.mem_append.2 (.inr hd))
   simp only[nsC,Bool.and_eq_true]at hns
   unfold vcCode at H
   split at H
   ·rename_i hk
    exact wp_cond_true (by rw[ha.eval];exact knOp_ev ha.fine hk) (ihx _ fr w0 Q st a w hMx hns.1 ha hs H)
   ·rename_i hk
    exact wp_cond_false (by rw[ha.eval];exact knOp_ev ha.fine hk) (ihy _ fr w0 Q st a w hMy hns.2 ha hs H)
   ·clear ‹st.knOp c=none›
    split at H
    ·rename_i t b hb
     refine wp_cond_split (t:=b) (by rw[ha.eval];exact hb) (fun e=>?_) (fun e=>?_)
     ·exact ihx _ fr w0 Q _ a w hMx hns.1 (ha.know (by subst e;exact hb)) hs (H.1 e)
     ·exact ihy _ fr w0 Q _ a w hMy hns.2 (ha.know (by subst e;exact hb)) hs (H.2 e)
    ·exact H.elim
 | block id c ih=>
   intro n fr w0 Q st a w hM hns ha hs H
   refine wp_block (wp_mono (ih n fr w0 _ st a w hM hns ha hs H) ?_)
   intro e a' w' hq
   cases e
   case exit i=>
    obtain⟨st',ha',hs',hk⟩:=hq
    by_cases he:i=id
    ·simp only[he,decide_true]at hk
     show Exit.inBlock id _ (.exit i) a' w'
     simp only[Exit.inBlock,if_pos he]
     exact⟨st',ha',hs',hk⟩
    ·simp only[he,decide_false]at hk
     simp only[Exit.inBlock,if_neg he]
     exact⟨st',ha',hs',hk⟩
   all_goals exact hq
 | scope c ih=>
   intro n fr w0 Q st a w hM hns ha hs H
   refine wp_scope_straight (wp_mono (ih n fr w0 Q st a w hM hns ha hs H) ?_)
   intro e a' w' hq
   cases e <;> exact hq
 | loop c ih=>
   intro n fr w0 Q st a w hM hns ha hs H
   unfold vcCode at H
   split at H
   ·exact H.elim
   ·rename_i L _
    obtain⟨I,m0,H0,H1⟩:=H
    refine wp_mono (wp_loop_ghost (Q:=Qw ⟨fr.n,modsC c,st.env⟩ w0 Q) (fun m a' w'=>∃ st',Ag ⟨fr.n,modsC c,st.env⟩ st' a'∧Same w0 w'∧atFT L I st' (fun I'=>I' m w'.heap)) m0 ⟨st,ha.sub _,hs,H0⟩ ?_) ?_
    ·rintro m a' w' ⟨st',ha',hs',hat⟩
     obtain⟨I',hI,hc⟩:=at_all L I st' _ _ _ hat (H1 st'.env)
     have hag:Ag ⟨fr.n,modsC c,st.env⟩ (setL st'.env L (havoc st (modsC c) st'.env)) a':=(ha.sub (modsC c)).land L (fun i hi=>hi) ha'
     refine wp_mono (ih (n+1) ⟨fr.n,modsC c,st.env⟩ w0 _ _ a' w' (fun d hd=>⟨(hM d hd).1,hd⟩) hns hag hs' (hc _ _ hI)) ?_
     intro e a'' w'' hq
     cases e
     case normal=>
      obtain⟨st'',ha'',hs'',hk⟩:=hq
      obtain⟨x,hx,m',hm',hI'⟩:∃ x:Unit,True∧∃ m',m'<m∧atFT L I st'' (fun I'=>I' m' w''.heap):=by
       refine⟨(),trivial,?_⟩
       have:∀ (L:List (Nat × Sh)) (f:FT L (Nat→Hp→Prop)),atFT L f st'' (fun I''=>∃ m',m'<m∧I'' m' w''.heap) →∃ m',m'<m∧atFT L f st'' (fun I'=>I' m' w''.heap):=by
        intro L
        induction L with
        | nil=>exact fun f h=>h
        | cons p L ihL=>
          obtain⟨i,s⟩:=p
          intro f h
          have key:∀ {F G:s.T→Prop},(∀ x,F x →∃ m',m'<m∧atFT L (f x) st'' (fun I'=>I' m' w''.heap))→s.proj (st''.env i) F →∃ m',m'<m∧s.proj (st''.env i) (fun x=>atFT L (f x) st'' (fun I'=>I' m' w''.heap)):=by
           intro F G hF hp
           obtain⟨x,hx,hfx⟩:=Sh.proj_spec _ _ _ hp
           obtain⟨m',h1,h2⟩:=hF x hfx
           refine⟨m',h1,?_⟩
           rw[hx]
           cases s <;> first | exact h2 | (simp only[Sh.inj,Sh.proj,if_true];exact h2)
          exact key (G:=fun _=>True) (fun x hx=>ihL (f x) hx) h
       exact this L I hk
      exact⟨m',hm',st'',ha'',hs'',hI'⟩
     all_goals exact hq
    ·intro e a' w' hq
     cases e
     case panic=>exact hq
     case outgrown=>exact hq
     case goto=>exact hq
     all_goals (obtain⟨st',ha',hs',hk⟩:=hq;exact⟨st',ha.back (fun d hd=>(hM d hd).2) ha',hs',hk⟩)
def resVC(P:Program)(st:St)(h:Hp):List ResultVar→(List Value→Prop)→Prop
 | [],K=>K []
 | .tmp t::r,K=>resVC P st h r (fun vs=>K (st.env t::vs))
 | .cell a t::r,K=>ldQ P t (st.env a) h (fun v=>resVC P st h r (fun vs=>K (v::vs)))
def retVal:List Value→Value
 | [v]=>v
 | vs=>.tuple vs.toArray
def env0(args:List Value):Nat→Value:=fun i=>args.getD i undef
def vcFunc(P:Program)(fn:Func)(c:Code)(A:Ann)(args:List Value)(h:Hp)(R:Value→Hp→Prop):Prop:=
 vcCode P A c 0 (fun e st h=>match e with
  | .normal=>resVC P st h fn.results.toList (fun vs=>R (retVal vs) h)
  | .ret=>resVC P st h fn.results.toList (fun vs=>R (retVal vs) h)
  | _=>False) ⟨env0 args,fun _=>none⟩ h
theorem prun_det{P:Program}{α:Type}(s:Sem α):∀ (h:Hp) (K:α→Prop),prun P s h K →∃ a,K a∧prun P s h (fun x=>x=a):=by
 induction s with
 | pure a=>exact fun h K H=>⟨a,H,rfl⟩
 | load m a k ih=>
   intro h K H
   simp only[prun]at H ⊢
   split at H
   ·exact ih _ _ _ H
   ·exact H.elim
 | getObj r k ih=>
   intro h K H
   simp only[prun]at H ⊢
   split at H
   ·exact ih _ _ _ H
   ·exact H.elim
 | program k ih=>exact fun h K H=>ih _ _ _ H
 | mark m k ih=>exact fun h K H=>ih _ _ H
 | _=>exact fun _ _ h=>(h:False).elim
def resSem(tmps:Array Value):ResultVar→Sem Value
 | .tmp t=>pure (tmps.getD t undef)
 | .cell a t=>do loadVar t (← asAddr (tmps.getD a undef))
theorem resVC_sound{P:Program}{st:St}{h:Hp}{tmps:Array Value}(ht:∀ i,tmps.getD i undef=st.env i):∀ (l:List ResultVar) (K:List Value→Prop),resVC P st h l K →
 ∃ vs,K vs∧vs.length=l.length∧prun P (l.mapM (resSem tmps)) h (fun x=>x=vs)
 | [],K,H=>⟨[],H,rfl,by rw[List.mapM_nil];rfl⟩
 | .tmp t::r,K,H=>by
   obtain⟨vs,hk,hl,hp⟩:=resVC_sound ht r _ H
   refine⟨st.env t::vs,hk,by simp[hl],?_⟩
   rw[List.mapM_cons]
   show prun P (List.mapM _ r >>= _) h _
   refine prun_bind _ _ _ _ (prun_mono _ _ _ _ ?_ hp)
   rintro _ rfl
   rw[← ht]
   rfl
 | .cell a t::r,K,H=>by
   have H:ldQ P t (st.env a) h (fun v=>resVC P st h r (fun vs=>K (v::vs))):=H
   have H2:prun P (resSem tmps (.cell a t)) h (fun v=>resVC P st h r (fun vs=>K (v::vs))):=by
    have H1:prun P (Instr.loadAt t (st.env a)) h (fun v=>resVC P st h r (fun vs=>K (v::vs))):=ldQ_sound H
    show prun P (do loadVar t (← asAddr (tmps.getD a undef)):Sem Value) h _
    rw[ht]
    unfold ldQ at H
    split at H
    ·rename_i hv _;rw[hv]at H1 ⊢;exact H1
    ·exact H.elim
   obtain⟨v,hv,hrun⟩:=prun_det _ _ _ H2
   obtain⟨vs,hk,hl,hp⟩:=resVC_sound ht r _ hv
   refine⟨v::vs,hk,by simp[hl],?_⟩
   rw[List.mapM_cons]
   refine prun_bind _ _ _ _ (prun_mono _ _ _ _ ?_ hrun)
   rintro _ rfl
   refine prun_bind _ _ _ _ (prun_mono _ _ _ _ ?_ hp)
   rintro _ rfl
   rfl
theorem results_run{P:Program}{fn:Func}{st:St}{h:Hp}{tmps:Array Value}(ht:∀ i,tmps.getD i undef=st.env i){R:Value→Prop}(H:resVC P st h fn.results.toList (fun vs=>R (retVal vs))) :
 ∃ v,R v∧∀ w:World,w.heap=h→(results fn tmps).run P w=.ok v w:=by
 obtain⟨vs,hk,_,hp⟩:=resVC_sound ht _ _ H
 refine⟨retVal vs,hk,fun w hw=>?_⟩
 have hp':prun P (results fn tmps) h (fun x=>x=retVal vs):=by
  unfold results
  have e:∀ f:ResultVar→Sem Value,f=resSem tmps→fn.results.mapM f=List.toArray <$> (fn.results.toList.mapM (resSem tmps)):=by
   rintro _ rfl;exact Array.mapM_eq_mapM_toList
  rw[e _ (by funext r;cases r <;> rfl)]
  refine prun_bind _ _ _ _ ?_
  show prun P (fn.results.toList.mapM (resSem tmps) >>= fun x=>pure x.toArray) h _
  refine prun_bind _ _ _ _ (prun_mono _ _ _ _ ?_ hp)
  intro vs' hvs
  rw[hvs]
  show(if h:vs.toArray.size=1 then vs.toArray[0] else .tuple vs.toArray)=retVal vs
  match vs with
  | []=>rfl
  | [v]=>rfl
  | v::u::r=>rw[dif_neg (by simp)];rfl
 obtain⟨x,rfl,hr⟩:=prun_sound _ _ _ hp'
 exact hr w (by rw[hw];exact Sub.refl _)
theorem vc_sound{P:Program}{f:FuncId}{fn:Func}{c:Code}(A:Ann)(hf:P.funcs[f]? = some fn)(hb:fn.body=some c)(hok:okFn P f=true)(hm:P.follows .mixedOrders=true)
 (hw:wfC fn.ntmps c=true) (hns:nsC c=true) {args:List Value} (hargs:decide (args.length≤fn.ntmps)=true) {h:Hp} {R:Value→Hp→Prop} (H:vcFunc P fn c A args h R):HC P f args.toArray h R:=by
 refine⟨hok,fun w hwh=>calls_of_wp hf hb ?_⟩
 subst hwh
 let a0:Act:={ tmps:=args.toArray++Array.replicate (fn.ntmps-args.toArray.size) undef,defers:=[] }
 have hlen:args.length≤fn.ntmps:=by simpa using hargs
 have ha:Ag ⟨fn.ntmps,modsC c,env0 args⟩ ⟨env0 args,fun _=>none⟩ a0:=by
  refine⟨by simp[a0];omega,rfl,fun i=>?_,fun t b hb=>(by cases hb),fun _ _=>rfl⟩
  simp only[a0,env0]
  by_cases hi:i<args.length
  ·simp[Array.getD_eq_getD_getElem?,Array.getElem?_append,hi]
  ·simp[Array.getD_eq_getD_getElem?,Array.getElem?_append,hi,Array.getElem?_replicate]
   split <;> rfl
 refine wp_mono (vcCode_sound hm c 0 ⟨fn.ntmps,modsC c,env0 args⟩ w _ _ a0 w (fun d hd=>⟨by simpa using List.all_eq_true.1 hw d hd,hd⟩) hns ha (.refl w) H) ?_
 intro e a w' hq
 cases e
 case normal=>
  obtain⟨st,hag,hs,hk⟩:=hq
  obtain⟨v,hR,hr⟩:=results_run (R:=fun v=>R v w'.heap) hag.env hk
  exact⟨hag.defers,v,hr w' rfl,v,rfl,hs,hR⟩
 case ret=>
  obtain⟨st,hag,hs,hk⟩:=hq
  obtain⟨v,hR,hr⟩:=results_run (R:=fun v=>R v w'.heap) hag.env hk
  exact⟨hag.defers,v,hr w' rfl,v,rfl,hs,hR⟩
 case exit=>obtain⟨_,_,_,hk⟩:=hq;exact hk.elim
 all_goals exact hq.elim
def bodyOf(fn:Func):Code:=fn.body.getD .skip
def fnOk(P:Program)(f:FuncId)(fn:Func)(n:Nat):Bool:=
 okFn P f && P.follows .mixedOrders && wfC fn.ntmps (bodyOf fn) && nsC (bodyOf fn) && fn.body.isSome && decide (n≤fn.ntmps)
theorem vc_fn{P:Program}{f:FuncId}{fn:Func}(A:Ann)(hf:P.funcs[f]? = some fn)(args:List Value)(hall:fnOk P f fn args.length=true){h:Hp}{R:Value→Hp→Prop}{V:Prop}
 (e:vcFunc P fn (bodyOf fn) A args h R=V) (H:V):HC P f args.toArray h R:=by
 simp only[fnOk,Bool.and_eq_true]at hall
 obtain⟨⟨⟨⟨⟨h1,h2⟩,h3⟩,h4⟩,h5⟩,h6⟩:=hall
 have hb:fn.body=some (bodyOf fn):=by
  unfold bodyOf
  cases hbd:fn.body with
  | none=>rw[hbd]at h5;cases h5
  | some c=>rfl
 exact vc_sound A hf hb h1 h2 h3 h4 h6 (e ▸ H)
def nw(h:Hp):Addr:=⟨h.size,0,none⟩
def alc(h:Hp)(c:List Value)(t:Nat):Hp:=h.push (.cells c.toArray t (0,0))
abbrev Lt(v:Hp)(K:Hp→Prop):Prop:=K v
def annOfD(loops cuts:List (Nat × List (Nat × Sh)))(loose blind dead:List Nat):Ann:=
 ⟨fun n=>(loops.find? (fun p=>p.1 == n)).map (·.2),fun n=>(cuts.find? (fun p=>p.1 == n)).map (·.2),fun n=>match loose.contains n,blind.contains n,dead.contains n with
  | _,_,true=>9
  | true,_,false=>1
  | false,true,false=>2
  | false,false,false=>0⟩
def annOfB(loops cuts:List (Nat × List (Nat × Sh)))(loose blind:List Nat):Ann:=annOfD loops cuts loose blind []
def annOfL(loops cuts:List (Nat × List (Nat × Sh)))(loose:List Nat):Ann:=annOfB loops cuts loose []
def annOf(loops cuts:List (Nat × List (Nat × Sh))):Ann:=annOfL loops cuts []
end Go.Proofs.YtdpdkpfnfllipaaGreatDoor

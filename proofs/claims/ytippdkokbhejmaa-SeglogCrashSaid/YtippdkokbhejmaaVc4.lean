/-
  The fourth part of the reckoner: guards, regions (those too that leave their order open), code, loops.
-/
import Derived.Test.YtippdkokbhejmaaVc3
import Derived.StillTail
namespace Go.Proofs.Ytippdkokbhejmaa
set_option linter.unusedVariables false
set_option linter.unusedSimpArgs false

/-! ### The frame -/
structure Fr where
  n : Nat
  M : List Nat
  env0 : Nat → Value
structure Ag (fr : Fr) (st : St) (a : Act) : Prop where
  size : a.tmps.size = fr.n
  defers : a.defers = []
  env : ∀ i, a.tmps.getD i undef = st.env i
  fine : st.fine
  kept : ∀ i, i ∉ fr.M → st.env i = fr.env0 i
theorem Ag.eval {fr : Fr} {st : St} {a : Act} (h : Ag fr st a) : a.eval = st.ev := by
  funext x
  cases x <;> first | rfl | exact h.env _
theorem Ag.get {fr : Fr} {st : St} {a : Act} (h : Ag fr st a) {d : Nat} (hd : d < fr.n) : a.tmps[d]? = some (st.env d) := by
  have := h.env d
  have hs := h.size
  simp [hs, hd] at this
  simp [hs, hd, this]
theorem Ag.put {fr : Fr} {st : St} {a : Act} (h : Ag fr st a) {d : Option Tmp} (hd : ∀ x, d = some x → x < fr.n ∧ x ∈ fr.M) {v : Value} {k : Option Bool} (hk : ∀ b, k = some b → v = .bool b) : Ag fr (st.put d v k) (a.put d v) := by
  cases d with
  | none => exact h
  | some x =>
    obtain ⟨hx, hM⟩ := hd x rfl
    refine ⟨by simp [Act.put, h.size], h.defers, fun i => ?_, fun t b hb => ?_, fun i hi => ?_⟩
    · by_cases hi : i = x
      · subst hi; simp [Act.put, St.put, upd, h.size, hx]
      · have := h.env i
        simp [Act.put, St.put, upd, hi, Array.getElem?_setIfInBounds_ne (Ne.symm hi)] at this ⊢
        exact this
    · by_cases hi : t = x
      · subst hi; simp [St.put, upd] at hb ⊢; exact hk b hb
      · simp [St.put, upd, hi] at hb ⊢; exact h.fine t b hb
    · have hne : i ≠ x := fun e => hi (e ▸ hM)
      simp [St.put, upd, hne]; exact h.kept i hi
theorem Ag.know {fr : Fr} {st : St} {a : Act} (h : Ag fr st a) {d : Nat} {b : Bool} (hd : st.env d = .bool b) : Ag fr (st.know d b) a := by
  have he : (st.know d b).env = st.env := by
    funext i; by_cases hi : i = d
    · subst hi; simp [St.know, upd, hd]
    · simp [St.know, upd, hi]
  refine ⟨h.size, h.defers, fun i => by rw [he]; exact h.env i, fun t c hc => ?_, fun i hi => by rw [he]; exact h.kept i hi⟩
  rw [he]
  by_cases hi : t = d
  · subst hi; simp [St.know, upd] at hc; subst hc; exact hd
  · simp [St.know, upd, hi] at hc; exact h.fine t c hc

/-! ### Guards -/
def guardVC (ops : Array Oper) (o : Oper) (st : St) (A B : St → Prop) : Prop :=
  match o.guard with
  | none => A st
  | some (j, want) =>
    match (ops[j]?).bind (·.dst) with
    | none => False
    | some d =>
      match st.kn d with
      | some b => (match b, want with | true, true => A st | false, false => A st | true, false => B st | false, true => B st)
      | none =>
        match st.env d, want with
        | .bool b, true => IfB b (A (st.know d true)) (B (st.know d false))
        | .bool b, false => IfB b (B (st.know d true)) (A (st.know d false))
        | .tuple _, _ => B st
        | _, _ => False
def wfR (fr : Fr) (ops : Array Oper) : Prop := ∀ (j : Nat) (o : Oper), ops[j]? = some o → ∀ d, o.dst = some d → d < fr.n ∧ d ∈ fr.M
theorem guardVC_sound {fr : Fr} {ops : Array Oper} {o : Oper} {st : St} {a : Act} (hw : wfR fr ops) (ha : Ag fr st a) {A B : St → Prop} (H : guardVC ops o st A B) :
    ∃ st', Ag fr st' a ∧ ((Region.wanted o (yielded ops a.tmps) = true ∧ A st') ∨ (Region.wanted o (yielded ops a.tmps) = false ∧ B st')) := by
  unfold guardVC at H
  split at H
  · rename_i hg
    exact ⟨st, ha, .inl ⟨by simp [Region.wanted, hg], H⟩⟩
  · rename_i j want hg
    split at H
    · exact H.elim
    · rename_i d hd
      have hdn : d < fr.n := by
        cases hj : ops[j]? with
        | none => simp [hj] at hd
        | some oj => rw [hj] at hd; exact (hw j oj hj d hd).1
      have key : ∀ b, st.env d = .bool b → Region.wanted o (yielded ops a.tmps) = (b == want) := by
        intro b hb
        have h1 : a.tmps[d]? = some (.bool b) := by rw [ha.get hdn, hb]
        have : yielded ops a.tmps j = some b := by
          unfold yielded; rw [hd]
          show (match a.tmps[d]? with | some (Value.bool b) => some b | _ => none) = some b
          rw [h1]
        simp [Region.wanted, hg, this]
      split at H
      · rename_i b hk
        have := key b (ha.fine d b hk)
        refine ⟨st, ha, ?_⟩
        rw [this]
        cases b <;> cases want <;> simp_all
      · split at H
        · rename_i b hb
          have := key b hb
          cases b
          · exact ⟨_, ha.know hb, .inr ⟨by rw [this]; rfl, H.2 rfl⟩⟩
          · exact ⟨_, ha.know hb, .inl ⟨by rw [this]; rfl, H.1 rfl⟩⟩
        · rename_i b hb
          have := key b hb
          cases b
          · exact ⟨_, ha.know hb, .inl ⟨by rw [this]; rfl, H.2 rfl⟩⟩
          · exact ⟨_, ha.know hb, .inr ⟨by rw [this]; rfl, H.1 rfl⟩⟩
        · rename_i vs hb
          refine ⟨st, ha, .inr ⟨?_, H⟩⟩
          have h1 : a.tmps[d]? = some (.tuple vs) := by rw [ha.get hdn, hb]
          have : yielded ops a.tmps j = none := by
            unfold yielded; rw [hd]
            show (match a.tmps[d]? with | some (Value.bool b) => some b | _ => none) = none
            rw [h1]
          simp [Region.wanted, hg, this]
        · exact H.elim

/-- what is known of the value that an operation yields. -/
def knOf (o : Oper) (st : St) : Option Bool :=
  match o.op with
  | .move x | .assign x => st.knOp x
  | .pick c a b => (match st.knOp c with | some true => st.knOp a | some false => st.knOp b | none => none)
  | _ => none
theorem knOp_ev {st : St} (hst : st.fine) {x : Operand} {b : Bool} (h : st.knOp x = some b) : st.ev x = .bool b := by
  unfold St.knOp at h
  split at h
  · exact hst _ _ h
  · simp at h; subst h; rfl
  · cases h
theorem opQ_kn {P : Program} {o : Oper} {st : St} {h : Hp} {K : Value → Prop} (hst : st.fine) (H : opQ P o st h K) : opQ P o st h (fun v => K v ∧ ∀ b, knOf o st = some b → v = .bool b) := by
  have triv : knOf o st = none → opQ P o st h (fun v => K v ∧ ∀ b, knOf o st = some b → v = .bool b) := fun hn => by
    have : (fun v => K v ∧ ∀ b, knOf o st = some b → v = .bool b) = K := by funext v; simp [hn]
    rw [this]; exact H
  rcases hk : knOf o st with _ | b0
  · have := triv hk; rw [hk] at this; exact this
  · have hk' := hk
    unfold knOf at hk'
    split at hk'
    · rename_i x ho
      unfold opQ at H ⊢
      simp only [ho] at H ⊢
      exact ⟨H, fun b hb => by cases hb; exact knOp_ev hst hk'⟩
    · rename_i x ho
      unfold opQ at H ⊢
      simp only [ho] at H ⊢
      exact ⟨H, fun b hb => by cases hb; exact knOp_ev hst hk'⟩
    · rename_i c x y ho
      unfold opQ at H ⊢
      simp only [ho] at H ⊢
      unfold pickQ at H ⊢
      split at hk'
      · rename_i hc; simp only [hc] at H ⊢; exact ⟨H, fun b hb => by cases hb; exact knOp_ev hst hk'⟩
      · rename_i hc; simp only [hc] at H ⊢; exact ⟨H, fun b hb => by cases hb; exact knOp_ev hst hk'⟩
      · cases hk'
    · cases hk'

/-! ### A region in the text's order -/
def opsVC (P : Program) (ops : Array Oper) (K : St → Hp → Prop) : List Oper → St → Hp → Prop
  | [], st, h => K st h
  | o :: r, st, h => guardVC ops o st (fun st => opVC P o st h (fun v h' => opsVC P ops K r (st.put o.dst v (knOf o st)) h')) (fun st => opsVC P ops K r (st.put o.dst undef none) h)
theorem opVC_sound {P : Program} {o : Oper} {fr : Fr} {st : St} {a : Act} {w : World} {K : Value → Hp → Prop} (ha : Ag fr st a) (hd : ∀ d, o.dst = some d → d < fr.n ∧ d ∈ fr.M) (H : opVC P o st w.heap K)
    {next : Act → World → Prop} {Q : Exit → Act → World → Prop} (hn : ∀ v w', Same w w' → K v w'.heap → Ag fr (st.put o.dst v (knOf o st)) (a.put o.dst v) → next (a.put o.dst v) w') : o.wp P a w next Q := by
  unfold opVC at H
  split at H
  · obtain ⟨v, ⟨hk, hkn⟩, hr⟩ := opQ_sound ha.fine (opQ_kn ha.fine H)
    unfold Oper.wp
    rw [ha.eval, hr w (fun _ _ h => h)]
    exact hn v w (.refl w) hk (ha.put hd hkn)
  · rename_i hq
    refine opM_sound ha.eval H fun v w' hs hk => hn v w' hs hk (ha.put hd fun b hb => ?_)
    exfalso
    unfold knOf at hb
    unfold isQ at hq
    split at hb <;> simp_all
theorem opsVC_sound {P : Program} {fr : Fr} {ops : Array Oper} (hw : wfR fr ops) {K : St → Hp → Prop} {Q : Exit → Act → World → Prop} {w0 : World}
    (hQ : ∀ st a w, Ag fr st a → Same w0 w → K st w.heap → Q .normal a w) : ∀ (l : List Oper), (∀ o ∈ l, ∀ d, o.dst = some d → d < fr.n ∧ d ∈ fr.M) → ∀ (st : St) (a : Act) (w : World), Ag fr st a → Same w0 w → opsVC P ops K l st w.heap → wpList P ops Q l a w
  | [], _, st, a, w, ha, hs, H => hQ st a w ha hs H
  | o :: r, hl, st, a, w, ha, hs, H => by
    have hd := hl o (by simp)
    have hr : ∀ o ∈ r, ∀ d, o.dst = some d → d < fr.n ∧ d ∈ fr.M := fun o ho => hl o (by simp [ho])
    obtain ⟨st', ha', hcase⟩ := guardVC_sound hw ha H
    unfold wpList
    rcases hcase with ⟨hwt, H'⟩ | ⟨hwt, H'⟩
    · rw [if_pos hwt]
      refine .inl (opVC_sound ha' hd H' fun v w' hs' hk hag => ?_)
      exact opsVC_sound hw hQ r hr _ _ w' hag (hs.trans hs') hk
    · rw [if_neg (by simp [hwt])]
      exact opsVC_sound hw hQ r hr _ _ w (ha'.put hd (by simp)) hs H'

/-! ### A region that leaves its order open -/
def isW (o : Oper) : Bool :=
  match o.op with
  | .store .. => true
  | .call c => (match c.callee with | .builtin .append => true | _ => false)
  | _ => false
def headN (ops : Array Oper) : Nat :=
  ((List.range ops.size).find? fun i => ((ops[i]?).map isW).getD false && Region.sinkB .any ops i && Region.chainB .any ops i).getD ops.size
def allOf : List Nat → (Nat → Prop) → Prop
  | [], _ => True
  | [i], f => f i
  | i :: r, f => f i ∧ allOf r f
theorem allOf_spec : ∀ (l : List Nat) (f : Nat → Prop), allOf l f → ∀ i ∈ l, f i
  | [], _, _, _, h => by cases h
  | [j], f, H, i, h => by simp at h; subst h; exact H
  | j :: k :: r, f, H, i, h => by
    rcases List.mem_cons.1 h with rfl | h'
    · exact H.1
    · exact allOf_spec (k :: r) f H.2 i h'
def isL (o : Oper) : Bool :=
  match o.op with
  | .load .. => true
  | _ => false
def takeable (P : Program) (bl : Bool) (ops : Array Oper) (listed : Array Bool) (i : Nat) : Bool :=
  ((ops[i]?).map (fun o => isQ P o && !(bl && isL o))).getD false && Region.free .any ops listed i
def anyVC (P : Program) (bl : Bool) (ops : Array Oper) (h0 : Hp) (E : Hp → Prop) (hd : Nat) (K : St → Hp → Prop) : Nat → Array Bool → St → Hp → Prop
  | 0, listed, st, h => (match Region.seqB .any ops (ops.size - hd) hd listed with | true => opsVC P ops K (ops.toList.drop hd) st h | false => False)
  | f + 1, listed, st, h =>
    match Region.ready .any ops listed with
    | [] => False
    | r :: rs =>
      match (r :: rs).find? (takeable P bl ops listed) with
      | some i =>
        (match ops[i]?, decide (i < hd) with
        | some o, true => guardVC ops o st (fun st => opQ P o st h0 (fun v => anyVC P bl ops h0 E hd K f (listed.setIfInBounds i true) (st.put o.dst v (knOf o st)) h)) (fun st => anyVC P bl ops h0 E hd K f (listed.setIfInBounds i true) (st.put o.dst undef none) h)
        | _, _ => False)
      | none => allOf (r :: rs) fun i =>
        (match ops[i]?, decide (i < hd) with
        | some o, true => guardVC ops o st (fun st => opVC P o st h (fun v h' => E h' ∧ anyVC P bl ops h0 E hd K f (listed.setIfInBounds i true) (st.put o.dst v (knOf o st)) h')) (fun st => anyVC P bl ops h0 E hd K f (listed.setIfInBounds i true) (st.put o.dst undef none) h)
        | _, _ => False)
def drawVC (P : Program) (ops : Array Oper) (st : St) (h : Hp) (K : St → Hp → Prop) : Prop :=
  anyVC P false ops h (Ext h) (headN ops) K (headN ops) (Array.replicate ops.size false) st h
/-- where calls change what is there, but nothing that the region reads. -/
def looseVC (P : Program) (ops : Array Oper) (st : St) (h : Hp) (K : St → Hp → Prop) : Prop :=
  ∃ hR : Hp, Sub hR h ∧ anyVC P false ops hR (Sub hR) (headN ops) K (headN ops) (Array.replicate ops.size false) st h

/-- nothing is read ahead: loads take their turns. -/
def blindVC (P : Program) (ops : Array Oper) (st : St) (h : Hp) (K : St → Hp → Prop) : Prop :=
  anyVC P true ops #[] (fun _ => True) (headN ops) K (headN ops) (Array.replicate ops.size false) st h

def wpT (P : Program) (ops : Array Oper) (Q : Exit → Act → World → Prop) (S : World → Prop) (hd : Nat) : Nat → Array Bool → Act → World → Prop
  | 0, listed, a, w => (∀ j ∈ Region.ready .any ops listed, hd ≤ j) ∧ wpAny P .any ops Q (ops.size - hd) listed a w
  | f + 1, listed, a, w => Region.ready .any ops listed ≠ [] ∧ ∀ i ∈ Region.ready .any ops listed, i < hd ∧ wpOp P ops Q i (fun a' w' => S w' ∧ wpT P ops Q S hd f (listed.setIfInBounds i true) a' w') a w
theorem wpAny_of_T {P : Program} {ops : Array Oper} {Q : Exit → Act → World → Prop} {S : World → Prop} {hd : Nat} : ∀ (f : Nat) (listed : Array Bool) (a : Act) (w : World), wpT P ops Q S hd f listed a w → wpAny P .any ops Q (f + (ops.size - hd)) listed a w
  | 0, listed, a, w, H => by rw [Nat.zero_add]; exact H.2
  | f + 1, listed, a, w, H => by
    rw [Nat.add_right_comm]
    exact ⟨fun h => absurd h H.1, fun i hi => wpOp_mono (fun a' w' h' => wpAny_of_T f _ a' w' h'.2) (H.2 i hi).2⟩

theorem wpT_first {P : Program} {ops : Array Oper} {Q : Exit → Act → World → Prop} {S : World → Prop} {hd : Nat} {i : Nat} {oi : Oper} {v : Value} (hi : ops[i]? = some oi) (hihd : i < hd)
    (hsel : ∀ (j : Nat) (o : Oper) cs b, ops[j]? = some o → o.op ≠ .select cs b) (hQ : ∀ c a w, ¬ Q (.panic c) a w)
    (hwait : ∀ listed, HeadInv .any ops hd listed → listed.getD i true = false → ∀ t, hd ≤ t → t ∉ Region.ready .any ops listed) :
    ∀ (f : Nat) (listed : Array Bool) (a : Act) (w : World), HeadInv .any ops hd listed →
      (∀ j oj, ops[j]? = some oj → j ≠ i → listed.getD j true = false → (∀ e ∈ oj.after, Region.binds .any e = true → e.on ≠ i) → oi.apart ops oj = true) →
      i ∈ Region.ready .any ops listed → YieldsIf P ops S oi v a → S w → wpT P ops Q S hd f (listed.setIfInBounds i true) (a.put oi.dst v) w → wpT P ops Q S hd (f + 1) listed a w := by
  intro f
  induction f with
  | zero =>
    intro listed a w inv _ hr hy hS H
    refine ⟨fun h => (by rw [h] at hr; cases hr), fun j hj => ?_⟩
    by_cases hji : j = i
    · subst hji; exact ⟨hihd, hy.wpOp hi hS ⟨hS, H⟩⟩
    · exact (hwait listed inv (mem_ready.1 hr).1 j (H.1 j (ready_mono hj hji)) hj).elim
  | succ f ih =>
    intro listed a w inv hfree hr hy hS H
    refine ⟨fun h => (by rw [h] at hr; cases hr), fun j hj => ?_⟩
    by_cases hji : j = i
    · subst hji; exact ⟨hihd, hy.wpOp hi hS ⟨hS, H⟩⟩
    · obtain ⟨hjhd, h1⟩ := H.2 j (ready_mono hj hji)
      obtain ⟨hjun, oj, hoj, hall⟩ := mem_ready.1 hj
      have hnot : ∀ e ∈ oj.after, Region.binds .any e = true → e.on ≠ i := fun e he hb heq => by
        have h1 := hall e he hb
        have h0 := (mem_ready.1 hr).1
        rw [heq, getD_both h0] at h1
        cases h1
      have h2 := wpOp_putIf hoj (hfree j oj hoj hji hjun hnot) (fun cs b => hsel i oi cs b hi) (fun cs b => hsel j oj cs b hoj) (fun c a w h => (hQ c _ w h).elim) hy h1
      have hfree' : ∀ k ok, ops[k]? = some ok → k ≠ i → (listed.setIfInBounds j true).getD k true = false →
          (∀ e ∈ ok.after, Region.binds .any e = true → e.on ≠ i) → oi.apart ops ok = true := fun k ok hk hki hun hno => by
        refine hfree k ok hk hki ?_ hno
        by_cases hjk : j = k
        · subst hjk; exact hjun
        · rw [getD_set_ne true hjk] at hun; exact hun
      refine ⟨hjhd, wpOp_mono (fun a' w' h3 => ⟨h3.2.1, ih (listed.setIfInBounds j true) a' w' (inv.set hj hjhd) hfree' (ready_mono hr (Ne.symm hji)) h3.1 h3.2.1 ?_⟩) h2⟩
      rw [Array.setIfInBounds_comm _ _ hji]
      exact h3.2.2

theorem wpOp_of {P : Program} {ops : Array Oper} {Q : Exit → Act → World → Prop} {i : Nat} {o : Oper} {K : Act → World → Prop} {a : Act} {w : World} (hi : ops[i]? = some o)
    (h : (Region.wanted o (yielded ops a.tmps) = true ∧ o.wp P a w K Q) ∨ (Region.wanted o (yielded ops a.tmps) = false ∧ K (a.put o.dst undef) w)) : wpOp P ops Q i K a w := by
  unfold wpOp
  simp only [hi]
  rcases h with ⟨h1, h2⟩ | ⟨h1, h2⟩
  · rw [if_pos h1]; exact .inl h2
  · rw [if_neg (by simp [h1])]; exact h2

theorem anyVC_sound {P : Program} {bl : Bool} {fr : Fr} {ops : Array Oper} (hw : wfR fr ops) (hns : Region.noSelect ops = true) {K : St → Hp → Prop} {Q : Exit → Act → World → Prop} {w0 : World} {h0 : Hp} {E : Hp → Prop} {hd : Nat} (hE : ∀ h', E h' → Sub h0 h')
    (hQp : ∀ c a w, ¬ Q (.panic c) a w)
    (hwait : ∀ i < hd, ∀ listed, HeadInv .any ops hd listed → listed.getD i true = false → ∀ t, hd ≤ t → t ∉ Region.ready .any ops listed)
    (hQ : ∀ st a w, Ag fr st a → Same w0 w → K st w.heap → Q .normal a w) : ∀ (f : Nat) (listed : Array Bool) (st : St) (a : Act) (w : World), HeadInv .any ops hd listed → Ag fr st a → Same w0 w → E w.heap →
      anyVC P bl ops h0 E hd K f listed st w.heap → wpT P ops Q (fun w => E w.heap) hd f listed a w
  | 0, listed, st, a, w, inv, ha, hs, he, H => by
    unfold anyVC at H
    split at H
    · rename_i hseq
      refine ⟨fun j hj => seqB_ready hseq j hj, ?_⟩
      have hl : (ops.toList.drop hd).length = ops.size - hd := by simp
      have := wpAny_of_seq (md := .any) (Q' := Q) (P := P) (ops.toList.drop hd) hd listed a w (fun j => by simp [List.getElem?_drop]) (by rw [hl]; exact hseq)
        (opsVC_sound hw hQ _ (fun o ho d hd' => by
          obtain ⟨j, hj, hj2⟩ := List.mem_iff_getElem.1 (List.mem_of_mem_drop ho)
          exact hw j o (by rw [← hj2]; simp at hj ⊢) d hd') st a w ha hs H)
      rwa [hl] at this
    · exact H.elim
  | f + 1, listed, st, a, w, inv, ha, hs, he, H => by
    unfold anyVC at H
    split at H
    · exact H.elim
    · rename_i r rs hrd
      split at H
      · rename_i i hfind
        split at H
        · rename_i o hi hlt
          have hihd : i < hd := by simpa using hlt
          have hir : i ∈ Region.ready .any ops listed := by rw [hrd]; exact List.mem_of_find?_eq_some hfind
          have htk := List.find?_some hfind
          simp only [takeable, hi, Option.map_some, Option.getD_some, Bool.and_eq_true] at htk
          have hdst := hw i o hi
          obtain ⟨st', ha', hcase⟩ := guardVC_sound hw ha H
          have go : ∀ v, YieldsIf P ops (fun w => E w.heap) o v a → wpT P ops Q (fun w => E w.heap) hd f (listed.setIfInBounds i true) (a.put o.dst v) w → wpT P ops Q (fun w => E w.heap) hd (f + 1) listed a w := fun v hy hT =>
            wpT_first hi hihd (Region.noSelect_spec hns) hQp (hwait i hihd) f listed a w inv (Region.free_spec hi htk.2) hir hy he hT
          rcases hcase with ⟨hwt, H'⟩ | ⟨hwt, H'⟩
          · obtain ⟨v, ⟨hk, hkn⟩, hr⟩ := opQ_sound ha'.fine (opQ_kn ha'.fine H')
            refine go v (.inl ⟨hwt, fun w' hw' => by rw [ha'.eval]; exact hr w' (hE _ hw')⟩) ?_
            exact anyVC_sound hw hns hE hQp hwait hQ f _ _ _ w (inv.set hir hihd) (ha'.put hdst hkn) hs he hk
          · refine go undef (.inr ⟨hwt, rfl⟩) ?_
            exact anyVC_sound hw hns hE hQp hwait hQ f _ _ _ w (inv.set hir hihd) (ha'.put hdst (by simp)) hs he H'
        · exact H.elim
      · rw [← hrd] at H
        refine ⟨by rw [hrd]; simp, fun i hir => ?_⟩
        have H := allOf_spec _ _ H i hir
        split at H
        · rename_i o hi hlt
          have hihd : i < hd := by simpa using hlt
          have hdst := hw i o hi
          obtain ⟨st', ha', hcase⟩ := guardVC_sound hw ha H
          refine ⟨hihd, wpOp_of hi ?_⟩
          rcases hcase with ⟨hwt, H'⟩ | ⟨hwt, H'⟩
          · refine .inl ⟨hwt, opVC_sound ha' hdst H' fun v w' hs' hk hag => ⟨hk.1, ?_⟩⟩
            exact anyVC_sound hw hns hE hQp hwait hQ f _ _ _ w' (inv.set hir hihd) hag (hs.trans hs') hk.1 hk.2
          · refine .inr ⟨hwt, he, ?_⟩
            exact anyVC_sound hw hns hE hQp hwait hQ f _ _ _ w (inv.set hir hihd) (ha'.put hdst (by simp)) hs he H'
        · exact H.elim

theorem anyC_sound {P : Program} {bl : Bool} {fr : Fr} {id : Nat} {ops : Array Oper} {h0 : Hp} {E : Hp → Prop} (hE : ∀ h', E h' → Sub h0 h') (hm : P.follows .mixedOrders = true) (hw : wfR fr ops) (hns : Region.noSelect ops = true) {K : St → Hp → Prop} {Q : Exit → Act → World → Prop}
    (hQp : ∀ c a w, ¬ Q (.panic c) a w) {st : St} {a : Act} {w : World} (hQ : ∀ st a w', Ag fr st a → Same w w' → K st w'.heap → Q .normal a w') (ha : Ag fr st a) (he : E w.heap) (H : anyVC P bl ops h0 E (headN ops) K (headN ops) (Array.replicate ops.size false) st w.heap) : (Code.region id ops true).wp P Q a w := by
  refine wp_region_any hm ?_
  have hle : headN ops ≤ ops.size := by
    unfold headN
    cases hf : (List.range ops.size).find? _ with
    | none => simp
    | some i => have := List.mem_of_find?_eq_some hf; simp at this ⊢; omega
  have hwait : ∀ i < headN ops, ∀ listed, HeadInv .any ops (headN ops) listed → listed.getD i true = false → ∀ t, headN ops ≤ t → t ∉ Region.ready .any ops listed := by
    intro i hi listed inv hun t ht htr
    by_cases hn : headN ops = ops.size
    · obtain ⟨_, o, ho, _⟩ := mem_ready.1 htr
      have := (Array.getElem?_eq_some_iff.1 ho).1
      omega
    · have hsc : Region.sinkB .any ops (headN ops) = true ∧ Region.chainB .any ops (headN ops) = true := by
        unfold headN at hn ⊢
        cases hf : (List.range ops.size).find? _ with
        | none => rw [hf] at hn; simp at hn
        | some k =>
          have := List.find?_some hf
          simp only [Bool.and_eq_true] at this
          simp only [Option.getD_some]
          exact ⟨this.1.2, this.2⟩
      exact tail_waits hsc.1 hsc.2 (by omega) inv _ i rfl hi hun t ht htr
  have inv0 : HeadInv .any ops (headN ops) (Array.replicate ops.size false) :=
    ⟨by simp, fun j oj _ hl => (by rw [getD_replicate_false] at hl; cases hl), fun t _ ht => getD_in (by simpa using ht) (getD_replicate_false _ _)⟩
  have := wpAny_of_T _ _ _ _ (anyVC_sound (w0 := w) hw hns hE hQp hwait hQ (headN ops) _ st a { w with drawn := w.drawn + 1 } inv0 ha ⟨rfl, rfl, rfl⟩ he H)
  rwa [show headN ops + (ops.size - headN ops) = ops.size by omega] at this

theorem drawVC_sound {P : Program} {fr : Fr} {id : Nat} {ops : Array Oper} (hm : P.follows .mixedOrders = true) (hw : wfR fr ops) (hns : Region.noSelect ops = true) {K : St → Hp → Prop} {Q : Exit → Act → World → Prop}
    (hQp : ∀ c a w, ¬ Q (.panic c) a w) {st : St} {a : Act} {w : World} (hQ : ∀ st a w', Ag fr st a → Same w w' → K st w'.heap → Q .normal a w') (ha : Ag fr st a) (H : drawVC P ops st w.heap K) : (Code.region id ops true).wp P Q a w :=
  anyC_sound (fun _ e => e.sub) hm hw hns hQp hQ ha (Ext.refl _) H
theorem looseVC_sound {P : Program} {fr : Fr} {id : Nat} {ops : Array Oper} (hm : P.follows .mixedOrders = true) (hw : wfR fr ops) (hns : Region.noSelect ops = true) {K : St → Hp → Prop} {Q : Exit → Act → World → Prop}
    (hQp : ∀ c a w, ¬ Q (.panic c) a w) {st : St} {a : Act} {w : World} (hQ : ∀ st a w', Ag fr st a → Same w w' → K st w'.heap → Q .normal a w') (ha : Ag fr st a) (H : looseVC P ops st w.heap K) : (Code.region id ops true).wp P Q a w := by
  obtain ⟨hR, hs, H⟩ := H
  exact anyC_sound (fun _ e => e) hm hw hns hQp hQ ha hs H
theorem blindVC_sound {P : Program} {fr : Fr} {id : Nat} {ops : Array Oper} (hm : P.follows .mixedOrders = true) (hw : wfR fr ops) (hns : Region.noSelect ops = true) {K : St → Hp → Prop} {Q : Exit → Act → World → Prop}
    (hQp : ∀ c a w, ¬ Q (.panic c) a w) {st : St} {a : Act} {w : World} (hQ : ∀ st a w', Ag fr st a → Same w w' → K st w'.heap → Q .normal a w') (ha : Ag fr st a) (H : blindVC P ops st w.heap K) : (Code.region id ops true).wp P Q a w :=
  anyC_sound (h0 := #[]) (E := fun _ => True) (fun _ _ a v hc => by simp [hcell, Go.Proofs.Ytippdkokbhejmaa.hw, World.cell?] at hc) hm hw hns hQp hQ ha trivial H

end Go.Proofs.Ytippdkokbhejmaa

/-
  The fifth part of the reckoner: code, loops, cuts, functions.
-/
import Derived.Test.YtippdkokbhejmaaVc4
namespace Go.Proofs.Ytippdkokbhejmaa
set_option linter.unusedVariables false
set_option linter.unusedSimpArgs false

/-- functions of the listed slots' values. -/
def FT : List (Nat × Sh) → Type → Type
  | [], β => β
  | (_, s) :: L, β => s.T → FT L β
def allFT {β : Type} : (L : List (Nat × Sh)) → FT L β → St → (St → β → Prop) → Prop
  | [], f, st, k => k st f
  | (i, s) :: L, f, st, k => ∀ x : s.T, allFT L (f x) ⟨upd st.env i (s.inj x), upd st.kn i none⟩ k
def atFT {β : Type} : (L : List (Nat × Sh)) → FT L β → St → (β → Prop) → Prop
  | [], f, _, k => k f
  | (i, s) :: L, f, st, k => s.proj (st.env i) fun x => atFT L (f x) st k
def setL (env : Nat → Value) : List (Nat × Sh) → St → St
  | [], st => st
  | (i, _) :: L, st => setL env L ⟨upd st.env i (env i), upd st.kn i none⟩
theorem at_all {β : Type} : ∀ (L : List (Nat × Sh)) (f : FT L β) (st st0 : St) (k : β → Prop) (k' : St → β → Prop), atFT L f st k → allFT L f st0 k' → ∃ b, k b ∧ k' (setL st.env L st0) b
  | [], f, _, _, _, _, h, h' => ⟨f, h, h'⟩
  | (i, s) :: L, f, st, st0, k, k', h, h' => by
    obtain ⟨x, hx, h1⟩ := Sh.proj_spec _ _ _ h
    obtain ⟨b, hb, hb'⟩ := at_all L (f x) st _ k k' h1 (h' x)
    refine ⟨b, hb, ?_⟩
    simp only [setL]; rw [hx]; exact hb'
def havoc (st : St) (ms : List Nat) (junk : Nat → Value) : St :=
  ⟨fun i => if ms.contains i = true then junk i else st.env i, fun i => if ms.contains i = true then none else st.kn i⟩
theorem setL_env (env : Nat → Value) : ∀ (L : List (Nat × Sh)) (st : St), st.env = env → (setL env L st).env = env
  | [], _, h => h
  | (i, s) :: L, st, h => setL_env env L _ (by
    funext j
    by_cases hj : j = i
    · subst hj; simp [upd]
    · simp [upd, hj, h])
theorem setL_kn (env : Nat → Value) : ∀ (L : List (Nat × Sh)) (st : St) (t : Nat) (b : Bool), (setL env L st).kn t = some b → st.kn t = some b
  | [], _, _, _, h => h
  | (i, s) :: L, st, t, b, h => by
    have := setL_kn env L _ t b h
    by_cases hj : t = i
    · subst hj; simp [upd] at this
    · simpa [upd, hj] using this

structure Ann where
  loop : Nat → Option (List (Nat × Sh))
  cut : Nat → Option (List (Nat × Sh))
  loose : Nat → Nat
def modsC : Code → List Nat
  | .region _ ops _ => ops.toList.filterMap (·.dst)
  | .seq a b => modsC a ++ modsC b
  | .cond _ a b => modsC a ++ modsC b
  | .block _ c => modsC c
  | .loop c => modsC c
  | .scope c => modsC c
  | _ => []
def nloops : Code → Nat
  | .seq a b => nloops a + nloops b
  | .cond _ a b => nloops a + nloops b
  | .block _ c => nloops c
  | .loop c => nloops c + 1
  | .scope c => nloops c
  | _ => 0
def firstReg : Code → Option Nat
  | .region id _ _ => some id
  | .seq a b => (firstReg a).or (firstReg b)
  | .block _ c => firstReg c
  | .loop c => firstReg c
  | .scope c => firstReg c
  | _ => none
def trivC : Code → Bool
  | .label _ | .skip => true
  | _ => false

def vcCode (P : Program) (A : Ann) : Code → Nat → (Exit → St → Hp → Prop) → St → Hp → Prop
  | .skip, _, Q => Q .normal
  | .label _, _, Q => Q .normal
  | .ret, _, Q => Q .ret
  | .exit id, _, Q => Q (.exit id)
  | .seq a b, n, Q => fun st h =>
    match (match trivC a with | true => none | false => (firstReg b).bind A.cut : Option (List (Nat × Sh))) with
    | none => vcCode P A a n (fun e st' h' => match e with | .normal => vcCode P A b (n + nloops a) Q st' h' | e => Q e st' h') st h
    | some L => ∃ J : FT L (Hp → Prop), vcCode P A a n (fun e st' h' => match e with | .normal => atFT L J st' (fun J' => J' h') | e => Q e st' h') st h ∧
        ∀ junk : Nat → Value, allFT L J (havoc st (modsC a) junk) (fun st' J' => ∀ h' : Hp, J' h' → vcCode P A b (n + nloops a) Q st' h')
  | .cond c x y, n, Q => fun st h =>
    match st.knOp c with
    | some true => vcCode P A x n Q st h
    | some false => vcCode P A y (n + nloops x) Q st h
    | none => match c, st.ev c with
      | .tmp t, .bool b => IfB b (vcCode P A x n Q (st.know t true) h) (vcCode P A y (n + nloops x) Q (st.know t false) h)
      | _, _ => False
  | .block id c, n, Q => vcCode P A c n (fun e st h => match e with | .exit i => (match decide (i = id) with | true => Q .normal st h | false => Q (.exit i) st h) | e => Q e st h)
  | .scope c, n, Q => vcCode P A c n Q
  | .region _ ops false, _, Q => fun st h => opsVC P ops (fun st' h' => Q .normal st' h') ops.toList st h
  | .region id ops true, _, Q => fun st h =>
    match A.loose id with
    | 0 => drawVC P ops st h (fun st' h' => Q .normal st' h')
    | 1 => looseVC P ops st h (fun st' h' => Q .normal st' h')
    | _ => blindVC P ops st h (fun st' h' => Q .normal st' h')
  | .loop c, n, Q => fun st h =>
    match A.loop n with
    | none => False
    | some L => ∃ (I : FT L (Nat → Hp → Prop)) (m0 : Nat), atFT L I st (fun I' => I' m0 h) ∧
        ∀ junk : Nat → Value, allFT L I (havoc st (modsC c) junk) (fun st' I' => ∀ (m : Nat) (h' : Hp), I' m h' →
          vcCode P A c (n + 1) (fun e st'' h'' => match e with | .normal => atFT L I st'' (fun I'' => ∃ m', m' < m ∧ I'' m' h'') | e => Q e st'' h'') st' h')
  | _, _, _ => fun _ _ => False

/-- every slot that code writes is one of the frame's. -/
def wfC (n : Nat) (c : Code) : Bool := (modsC c).all fun d => decide (d < n)
def nsC : Code → Bool
  | .region _ ops _ => Region.noSelect ops
  | .seq a b => nsC a && nsC b
  | .cond _ a b => nsC a && nsC b
  | .block _ c => nsC c
  | .loop c => nsC c
  | .scope c => nsC c
  | _ => true

def Qw (fr : Fr) (w0 : World) (Q : Exit → St → Hp → Prop) : Exit → Act → World → Prop
  | .panic _, _, _ => False
  | .outgrown, _, _ => False
  | .goto _, _, _ => False
  | e, a, w => ∃ st, Ag fr st a ∧ Same w0 w ∧ Q e st w.heap
theorem Qw.mono {fr : Fr} {w0 : World} {Q Q' : Exit → St → Hp → Prop} (h : ∀ e st h', Q e st h' → Q' e st h') : ∀ e a w, Qw fr w0 Q e a w → Qw fr w0 Q' e a w := by
  intro e a w hq
  cases e <;> first | exact hq | (obtain ⟨st, h1, h2, h3⟩ := hq; exact ⟨st, h1, h2, h _ _ _ h3⟩)
theorem Ag.sub {fr : Fr} {st : St} {a : Act} (h : Ag fr st a) (M : List Nat) : Ag ⟨fr.n, M, st.env⟩ st a := ⟨h.size, h.defers, h.env, h.fine, fun _ _ => rfl⟩
theorem Ag.back {fr : Fr} {st st' : St} {a a' : Act} {M : List Nat} (h : Ag fr st a) (hM : ∀ i ∈ M, i ∈ fr.M) (h' : Ag ⟨fr.n, M, st.env⟩ st' a') : Ag fr st' a' :=
  ⟨h'.size, h'.defers, h'.env, h'.fine, fun i hi => (h'.kept i (fun hm => hi (hM i hm))).trans (h.kept i hi)⟩
theorem Ag.land {fr : Fr} {st st' : St} {a a' : Act} {M : List Nat} (L : List (Nat × Sh)) (h : Ag fr st a) (hM : ∀ i ∈ M, i ∈ fr.M) (h' : Ag ⟨fr.n, M, st.env⟩ st' a') : Ag fr (setL st'.env L (havoc st M st'.env)) a' := by
  have he : (havoc st M st'.env).env = st'.env := by
    funext i
    simp only [havoc]
    split
    · rfl
    · rename_i hc
      exact (h'.kept i (by simpa using hc)).symm
  have hb := h.back hM h'
  have hs := setL_env st'.env L _ he
  refine ⟨hb.size, hb.defers, fun i => by rw [hs]; exact hb.env i, fun t b ht => ?_, fun i hi => by rw [hs]; exact hb.kept i hi⟩
  have h1 := setL_kn _ L _ t b ht
  rw [hs]
  simp only [havoc] at h1
  split at h1
  · cases h1
  · rename_i hc
    rw [h'.kept t (by simpa using hc)]
    exact h.fine t b h1

theorem wfR_of {n : Nat} {M : List Nat} {env0 : Nat → Value} {ops : Array Oper} (hM : ∀ d ∈ ops.toList.filterMap (·.dst), d < n ∧ d ∈ M) : wfR ⟨n, M, env0⟩ ops := by
  intro j o hj d hd
  exact hM d (List.mem_filterMap.2 ⟨o, Array.mem_toList_iff.2 (Array.mem_of_getElem? hj), hd⟩)

theorem vcCode_sound {P : Program} {A : Ann} (hm : P.follows .mixedOrders = true) : ∀ (c : Code) (n : Nat) (fr : Fr) (w0 : World) (Q : Exit → St → Hp → Prop) (st : St) (a : Act) (w : World),
    (∀ d ∈ modsC c, d < fr.n ∧ d ∈ fr.M) → nsC c = true → Ag fr st a → Same w0 w → vcCode P A c n Q st w.heap → c.wp P (Qw fr w0 Q) a w := by
  intro c
  induction c with
  | skip => exact fun n fr w0 Q st a w _ _ ha hs H => wp_skip ⟨st, ha, hs, H⟩
  | label l => exact fun n fr w0 Q st a w _ _ ha hs H => wp_label ⟨st, ha, hs, H⟩
  | ret => exact fun n fr w0 Q st a w _ _ ha hs H => wp_ret ⟨st, ha, hs, H⟩
  | exit id => exact fun n fr w0 Q st a w _ _ ha hs H => wp_exit ⟨st, ha, hs, H⟩
  | goto l => exact fun n fr w0 Q st a w _ _ ha hs H => (H : False).elim
  | refuse w => exact fun n fr w0 Q st a w _ _ ha hs H => (H : False).elim
  | rangeFunc f p as b => exact fun n fr w0 Q st a w _ _ ha hs H => (H : False).elim
  | region id ops draw =>
    intro n fr w0 Q st a w hM hns ha hs H
    have hw : wfR fr ops := wfR_of hM
    cases draw with
    | false =>
      refine wp_region_list (opsVC_sound (w0 := w0) hw (K := fun st' h' => Q .normal st' h') (fun st' a' w' ha' hs' hk => ⟨st', ha', hs', hk⟩) _ (fun o ho => ?_) st a w ha hs H)
      obtain ⟨j, hj, hj2⟩ := List.mem_iff_getElem.1 ho
      exact hw j o (by rw [← hj2]; simp)
    | true =>
      unfold vcCode at H
      split at H
      · exact drawVC_sound hm hw hns (fun _ _ _ h => h) (fun st' a' w' ha' hs' hk => ⟨st', ha', hs.trans hs', hk⟩) ha H
      · exact looseVC_sound hm hw hns (fun _ _ _ h => h) (fun st' a' w' ha' hs' hk => ⟨st', ha', hs.trans hs', hk⟩) ha H
      · exact blindVC_sound hm hw hns (fun _ _ _ h => h) (fun st' a' w' ha' hs' hk => ⟨st', ha', hs.trans hs', hk⟩) ha H
  | seq x y ihx ihy =>
    intro n fr w0 Q st a w hM hns ha hs H
    have hMx : ∀ d ∈ modsC x, d < fr.n ∧ d ∈ fr.M := fun d hd => hM d (List.mem_append.2 (.inl hd))
    have hMy : ∀ d ∈ modsC y, d < fr.n ∧ d ∈ fr.M := fun d hd => hM d (List.mem_append.2 (.inr hd))
    simp only [nsC, Bool.and_eq_true] at hns
    unfold vcCode at H
    split at H
    · refine wp_seq (wp_mono (ihx n fr w0 _ st a w hMx hns.1 ha hs H) ?_)
      intro e a' w' hq
      cases e <;> first
        | (obtain ⟨st', ha', hs', hk⟩ := hq; exact ihy _ fr w0 Q st' a' w' hMy hns.2 ha' hs' hk)
        | exact hq
    · rename_i L _
      obtain ⟨J, H1, H2⟩ := H
      refine wp_seq (wp_mono (ihx n ⟨fr.n, modsC x, st.env⟩ w0 _ st a w (fun d hd => ⟨(hMx d hd).1, hd⟩) hns.1 (ha.sub _) hs H1) ?_)
      intro e a' w' hq
      cases e
      case normal =>
        obtain ⟨st', ha', hs', hk⟩ := hq
        obtain ⟨J', hJ, hy⟩ := at_all L J st' _ _ _ hk (H2 st'.env)
        exact ihy _ fr w0 Q _ a' w' hMy hns.2 (ha.land L (fun d hd => (hMx d hd).2) ha') hs' (hy _ hJ)
      case exit id => obtain ⟨st', ha', hs', hk⟩ := hq; exact ⟨st', ha.back (fun d hd => (hMx d hd).2) ha', hs', hk⟩
      case ret => obtain ⟨st', ha', hs', hk⟩ := hq; exact ⟨st', ha.back (fun d hd => (hMx d hd).2) ha', hs', hk⟩
      all_goals exact hq
  | cond c x y ihx ihy =>
    intro n fr w0 Q st a w hM hns ha hs H
    have hMx : ∀ d ∈ modsC x, d < fr.n ∧ d ∈ fr.M := fun d hd => hM d (List.mem_append.2 (.inl hd))
    have hMy : ∀ d ∈ modsC y, d < fr.n ∧ d ∈ fr.M := fun d hd => hM d (List.mem_append.2 (.inr hd))
    simp only [nsC, Bool.and_eq_true] at hns
    unfold vcCode at H
    split at H
    · rename_i hk
      exact wp_cond_true (by rw [ha.eval]; exact knOp_ev ha.fine hk) (ihx _ fr w0 Q st a w hMx hns.1 ha hs H)
    · rename_i hk
      exact wp_cond_false (by rw [ha.eval]; exact knOp_ev ha.fine hk) (ihy _ fr w0 Q st a w hMy hns.2 ha hs H)
    · clear ‹st.knOp c = none›
      split at H
      · rename_i t b hb
        refine wp_cond_split (t := b) (by rw [ha.eval]; exact hb) (fun e => ?_) (fun e => ?_)
        · exact ihx _ fr w0 Q _ a w hMx hns.1 (ha.know (by subst e; exact hb)) hs (H.1 e)
        · exact ihy _ fr w0 Q _ a w hMy hns.2 (ha.know (by subst e; exact hb)) hs (H.2 e)
      · exact H.elim
  | block id c ih =>
    intro n fr w0 Q st a w hM hns ha hs H
    refine wp_block (wp_mono (ih n fr w0 _ st a w hM hns ha hs H) ?_)
    intro e a' w' hq
    cases e
    case exit i =>
      obtain ⟨st', ha', hs', hk⟩ := hq
      by_cases he : i = id
      · simp only [he, decide_true] at hk
        show Exit.inBlock id _ (.exit i) a' w'
        simp only [Exit.inBlock, if_pos he]
        exact ⟨st', ha', hs', hk⟩
      · simp only [he, decide_false] at hk
        simp only [Exit.inBlock, if_neg he]
        exact ⟨st', ha', hs', hk⟩
    all_goals exact hq
  | scope c ih =>
    intro n fr w0 Q st a w hM hns ha hs H
    refine wp_scope_straight (wp_mono (ih n fr w0 Q st a w hM hns ha hs H) ?_)
    intro e a' w' hq
    cases e <;> exact hq
  | loop c ih =>
    intro n fr w0 Q st a w hM hns ha hs H
    unfold vcCode at H
    split at H
    · exact H.elim
    · rename_i L _
      obtain ⟨I, m0, H0, H1⟩ := H
      refine wp_mono (wp_loop_ghost (Q := Qw ⟨fr.n, modsC c, st.env⟩ w0 Q) (fun m a' w' => ∃ st', Ag ⟨fr.n, modsC c, st.env⟩ st' a' ∧ Same w0 w' ∧ atFT L I st' (fun I' => I' m w'.heap)) m0 ⟨st, ha.sub _, hs, H0⟩ ?_) ?_
      · rintro m a' w' ⟨st', ha', hs', hat⟩
        obtain ⟨I', hI, hc⟩ := at_all L I st' _ _ _ hat (H1 st'.env)
        have hag : Ag ⟨fr.n, modsC c, st.env⟩ (setL st'.env L (havoc st (modsC c) st'.env)) a' := (ha.sub (modsC c)).land L (fun i hi => hi) ha'
        refine wp_mono (ih (n + 1) ⟨fr.n, modsC c, st.env⟩ w0 _ _ a' w' (fun d hd => ⟨(hM d hd).1, hd⟩) hns hag hs' (hc _ _ hI)) ?_
        intro e a'' w'' hq
        cases e
        case normal =>
          obtain ⟨st'', ha'', hs'', hk⟩ := hq
          obtain ⟨x, hx, m', hm', hI'⟩ : ∃ x : Unit, True ∧ ∃ m', m' < m ∧ atFT L I st'' (fun I' => I' m' w''.heap) := by
            refine ⟨(), trivial, ?_⟩
            have : ∀ (L : List (Nat × Sh)) (f : FT L (Nat → Hp → Prop)), atFT L f st'' (fun I'' => ∃ m', m' < m ∧ I'' m' w''.heap) → ∃ m', m' < m ∧ atFT L f st'' (fun I' => I' m' w''.heap) := by
              intro L
              induction L with
              | nil => exact fun f h => h
              | cons p L ihL =>
                obtain ⟨i, s⟩ := p
                intro f h
                have key : ∀ {F G : s.T → Prop}, (∀ x, F x → ∃ m', m' < m ∧ atFT L (f x) st'' (fun I' => I' m' w''.heap)) → s.proj (st''.env i) F → ∃ m', m' < m ∧ s.proj (st''.env i) (fun x => atFT L (f x) st'' (fun I' => I' m' w''.heap)) := by
                  intro F G hF hp
                  obtain ⟨x, hx, hfx⟩ := Sh.proj_spec _ _ _ hp
                  obtain ⟨m', h1, h2⟩ := hF x hfx
                  refine ⟨m', h1, ?_⟩
                  rw [hx]
                  cases s <;> first | exact h2 | (simp only [Sh.inj, Sh.proj, if_true]; exact h2)
                exact key (G := fun _ => True) (fun x hx => ihL (f x) hx) h
            exact this L I hk
          exact ⟨m', hm', st'', ha'', hs'', hI'⟩
        all_goals exact hq
      · intro e a' w' hq
        cases e
        case panic => exact hq
        case outgrown => exact hq
        case goto => exact hq
        all_goals (obtain ⟨st', ha', hs', hk⟩ := hq; exact ⟨st', ha.back (fun d hd => (hM d hd).2) ha', hs', hk⟩)

/-! ### Functions -/
def resVC (P : Program) (st : St) (h : Hp) : List ResultVar → (List Value → Prop) → Prop
  | [], K => K []
  | .tmp t :: r, K => resVC P st h r (fun vs => K (st.env t :: vs))
  | .cell a t :: r, K => ldQ P t (st.env a) h (fun v => resVC P st h r (fun vs => K (v :: vs)))
def retVal : List Value → Value
  | [v] => v
  | vs => .tuple vs.toArray
def env0 (args : List Value) : Nat → Value := fun i => args.getD i undef
def vcFunc (P : Program) (fn : Func) (c : Code) (A : Ann) (args : List Value) (h : Hp) (R : Value → Hp → Prop) : Prop :=
  vcCode P A c 0 (fun e st h => match e with
    | .normal => resVC P st h fn.results.toList (fun vs => R (retVal vs) h)
    | .ret => resVC P st h fn.results.toList (fun vs => R (retVal vs) h)
    | _ => False) ⟨env0 args, fun _ => none⟩ h

theorem prun_det {P : Program} {α : Type} (s : Sem α) : ∀ (h : Hp) (K : α → Prop), prun P s h K → ∃ a, K a ∧ prun P s h (fun x => x = a) := by
  induction s with
  | pure a => exact fun h K H => ⟨a, H, rfl⟩
  | load m a k ih =>
    intro h K H
    simp only [prun] at H ⊢
    split at H
    · exact ih _ _ _ H
    · exact H.elim
  | program k ih => exact fun h K H => ih _ _ _ H
  | mark m k ih => exact fun h K H => ih _ _ H
  | _ => exact fun _ _ h => (h : False).elim

def resSem (tmps : Array Value) : ResultVar → Sem Value
  | .tmp t => pure (tmps.getD t undef)
  | .cell a t => do loadVar t (← asAddr (tmps.getD a undef))
theorem resVC_sound {P : Program} {st : St} {h : Hp} {tmps : Array Value} (ht : ∀ i, tmps.getD i undef = st.env i) : ∀ (l : List ResultVar) (K : List Value → Prop), resVC P st h l K →
    ∃ vs, K vs ∧ vs.length = l.length ∧ prun P (l.mapM (resSem tmps)) h (fun x => x = vs)
  | [], K, H => ⟨[], H, rfl, by rw [List.mapM_nil]; rfl⟩
  | .tmp t :: r, K, H => by
    obtain ⟨vs, hk, hl, hp⟩ := resVC_sound ht r _ H
    refine ⟨st.env t :: vs, hk, by simp [hl], ?_⟩
    rw [List.mapM_cons]
    show prun P (List.mapM _ r >>= _) h _
    refine prun_bind _ _ _ _ (prun_mono _ _ _ _ ?_ hp)
    rintro _ rfl
    rw [← ht]
    rfl
  | .cell a t :: r, K, H => by
    have H : ldQ P t (st.env a) h (fun v => resVC P st h r (fun vs => K (v :: vs))) := H
    have H2 : prun P (resSem tmps (.cell a t)) h (fun v => resVC P st h r (fun vs => K (v :: vs))) := by
      have H1 : prun P (Instr.loadAt t (st.env a)) h (fun v => resVC P st h r (fun vs => K (v :: vs))) := ldQ_sound H
      show prun P (do loadVar t (← asAddr (tmps.getD a undef)) : Sem Value) h _
      rw [ht]
      unfold ldQ at H
      split at H
      · rename_i hv _; rw [hv] at H1 ⊢; exact H1
      · exact H.elim
    obtain ⟨v, hv, hrun⟩ := prun_det _ _ _ H2
    obtain ⟨vs, hk, hl, hp⟩ := resVC_sound ht r _ hv
    refine ⟨v :: vs, hk, by simp [hl], ?_⟩
    rw [List.mapM_cons]
    refine prun_bind _ _ _ _ (prun_mono _ _ _ _ ?_ hrun)
    rintro _ rfl
    refine prun_bind _ _ _ _ (prun_mono _ _ _ _ ?_ hp)
    rintro _ rfl
    rfl

theorem results_run {P : Program} {fn : Func} {st : St} {h : Hp} {tmps : Array Value} (ht : ∀ i, tmps.getD i undef = st.env i) {R : Value → Prop} (H : resVC P st h fn.results.toList (fun vs => R (retVal vs))) :
    ∃ v, R v ∧ ∀ w : World, w.heap = h → (results fn tmps).run P w = .ok v w := by
  obtain ⟨vs, hk, _, hp⟩ := resVC_sound ht _ _ H
  refine ⟨retVal vs, hk, fun w hw => ?_⟩
  have hp' : prun P (results fn tmps) h (fun x => x = retVal vs) := by
    unfold results
    have e : ∀ f : ResultVar → Sem Value, f = resSem tmps → fn.results.mapM f = List.toArray <$> (fn.results.toList.mapM (resSem tmps)) := by
      rintro _ rfl; exact Array.mapM_eq_mapM_toList
    rw [e _ (by funext r; cases r <;> rfl)]
    refine prun_bind _ _ _ _ ?_
    show prun P (fn.results.toList.mapM (resSem tmps) >>= fun x => pure x.toArray) h _
    refine prun_bind _ _ _ _ (prun_mono _ _ _ _ ?_ hp)
    intro vs' hvs
    rw [hvs]
    show (if h : vs.toArray.size = 1 then vs.toArray[0] else .tuple vs.toArray) = retVal vs
    match vs with
    | [] => rfl
    | [v] => rfl
    | v :: u :: r => rw [dif_neg (by simp)]; rfl
  obtain ⟨x, rfl, hr⟩ := prun_sound _ _ _ hp'
  exact hr w (by rw [hw]; exact fun _ _ h => h)

/-- **What a function's condition asks is enough.** -/
theorem vc_sound {P : Program} {f : FuncId} {fn : Func} {c : Code} (A : Ann) (hf : P.funcs[f]? = some fn) (hb : fn.body = some c) (hok : okFn P f = true) (hm : P.follows .mixedOrders = true)
    (hw : wfC fn.ntmps c = true) (hns : nsC c = true) {args : List Value} (hargs : decide (args.length ≤ fn.ntmps) = true) {h : Hp} {R : Value → Hp → Prop} (H : vcFunc P fn c A args h R) : HCalls P f args.toArray h R := by
  refine ⟨hok, fun w hwh => calls_of_wp hf hb ?_⟩
  subst hwh
  let a0 : Act := { tmps := args.toArray ++ Array.replicate (fn.ntmps - args.toArray.size) undef, defers := [] }
  have hlen : args.length ≤ fn.ntmps := by simpa using hargs
  have ha : Ag ⟨fn.ntmps, modsC c, env0 args⟩ ⟨env0 args, fun _ => none⟩ a0 := by
    refine ⟨by simp [a0]; omega, rfl, fun i => ?_, fun t b hb => (by cases hb), fun _ _ => rfl⟩
    simp only [a0, env0]
    by_cases hi : i < args.length
    · simp [Array.getD_eq_getD_getElem?, Array.getElem?_append, hi]
    · simp [Array.getD_eq_getD_getElem?, Array.getElem?_append, hi, Array.getElem?_replicate]
      split <;> rfl
  refine wp_mono (vcCode_sound hm c 0 ⟨fn.ntmps, modsC c, env0 args⟩ w _ _ a0 w (fun d hd => ⟨by simpa using List.all_eq_true.1 hw d hd, hd⟩) hns ha (.refl w) H) ?_
  intro e a w' hq
  cases e
  case normal =>
    obtain ⟨st, hag, hs, hk⟩ := hq
    obtain ⟨v, hR, hr⟩ := results_run (R := fun v => R v w'.heap) hag.env hk
    exact ⟨hag.defers, v, hr w' rfl, v, rfl, hs, hR⟩
  case ret =>
    obtain ⟨st, hag, hs, hk⟩ := hq
    obtain ⟨v, hR, hr⟩ := results_run (R := fun v => R v w'.heap) hag.env hk
    exact ⟨hag.defers, v, hr w' rfl, v, rfl, hs, hR⟩
  case exit => obtain ⟨_, _, _, hk⟩ := hq; exact hk.elim
  all_goals exact hq.elim

def bodyOf (fn : Func) : Code := fn.body.getD .skip
def fnOk (P : Program) (f : FuncId) (fn : Func) (n : Nat) : Bool :=
  okFn P f && P.follows .mixedOrders && wfC fn.ntmps (bodyOf fn) && nsC (bodyOf fn) && fn.body.isSome && decide (n ≤ fn.ntmps)
/-- the same, the side conditions by one Bool, the condition by an equation that the kernel checks. -/
theorem vc_fn {P : Program} {f : FuncId} {fn : Func} (A : Ann) (hf : P.funcs[f]? = some fn) (args : List Value) (hall : fnOk P f fn args.length = true) {h : Hp} {R : Value → Hp → Prop} {V : Prop}
    (e : vcFunc P fn (bodyOf fn) A args h R = V) (H : V) : HCalls P f args.toArray h R := by
  simp only [fnOk, Bool.and_eq_true] at hall
  obtain ⟨⟨⟨⟨⟨h1, h2⟩, h3⟩, h4⟩, h5⟩, h6⟩ := hall
  have hb : fn.body = some (bodyOf fn) := by
    unfold bodyOf
    cases hbd : fn.body with
    | none => rw [hbd] at h5; cases h5
    | some c => rfl
  exact vc_sound A hf hb h1 h2 h3 h4 h6 (e ▸ H)
/-- the address of the next block. -/
def nw (h : Hp) : Addr := ⟨h.size, 0, none⟩
/-- a new block. -/
def alc (h : Hp) (c : List Value) (t : Nat) : Hp := h.push (.cells c.toArray t (0, 0))
/-- a heap by another name. -/
abbrev Lt (v : Hp) (K : Hp → Prop) : Prop := K v
/-- the slots of loops and cuts. -/
def annOfB (loops cuts : List (Nat × List (Nat × Sh))) (loose blind : List Nat) : Ann :=
  ⟨fun n => (loops.find? (fun p => p.1 == n)).map (·.2), fun n => (cuts.find? (fun p => p.1 == n)).map (·.2), fun n => match loose.contains n, blind.contains n with
    | true, _ => 1
    | false, true => 2
    | false, false => 0⟩
def annOfL (loops cuts : List (Nat × List (Nat × Sh))) (loose : List Nat) : Ann := annOfB loops cuts loose []
def annOf (loops cuts : List (Nat × List (Nat × Sh))) : Ann := annOfL loops cuts []

end Go.Proofs.Ytippdkokbhejmaa

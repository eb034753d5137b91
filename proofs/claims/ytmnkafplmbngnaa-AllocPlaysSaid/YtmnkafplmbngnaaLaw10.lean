/-
  AllocNothing, AllocEven, AllocMarks (chapter 10).
-/
import Derived.Test.YtmnkafplmbngnaaAlloc
import Derived.Test.YtmnkafplmbngnaaBridge
namespace Go.Proofs.Ytmnkafplmbngnaa
set_option linter.unusedVariables false
set_option linter.unusedSimpArgs false

theorem freeL_count (zs : List (Bool × Nat)) : (freeL zs).length = zs.countP (fun z => !z.1) := by
  have e : (List.range zs.length).map (fun i => zs.getD i (true, 0)) = zs := by
    apply List.ext_getElem
    · simp
    · intro i h1 h2; simp at h1; simp [h1]
  conv => rhs; rw [← e]
  rw [List.countP_map, List.countP_eq_length_filter]
  rfl
theorem cnt_take {zs : List (Bool × Nat)} {k : Nat} (hk : k < zs.length) (ht : tk zs k = false) (w : Nat) : (freeL (zs.set k (true, w))).length + 1 = (freeL zs).length := by
  rw [freeL_count, freeL_count, List.countP_set hk]
  rw [tk_get hk] at ht
  have : 0 < zs.countP (fun z => !z.1) := List.countP_pos_iff.2 ⟨zs[k], List.getElem_mem hk, by simp [ht]⟩
  simp [ht]; omega
theorem cnt_free {zs : List (Bool × Nat)} {k : Nat} (hk : k < zs.length) (ht : tk zs k = true) (w : Nat) : (freeL (zs.set k (false, w))).length = (freeL zs).length + 1 := by
  rw [freeL_count, freeL_count, List.countP_set hk]
  rw [tk_get hk] at ht
  simp [ht]
theorem cnt_zero {zs : List (Bool × Nat)} (h : (freeL zs).length = 0) {i : Nat} (hi : i < zs.length) : tk zs i = true := by
  rw [freeL_count, List.countP_eq_zero] at h
  have := h zs[i] (List.getElem_mem hi)
  rw [tk_get hi]; simpa using this
theorem cnt_all {zs : List (Bool × Nat)} (h : ∀ i, i < zs.length → tk zs i = false) : (freeL zs).length = zs.length := by
  rw [freeL_count, List.countP_eq_length]
  intro z hz
  obtain ⟨i, hi, rfl⟩ := List.mem_iff_getElem.1 hz
  have := h i hi
  rw [tk_get hi] at this; simp [this]
theorem cnt_le (zs : List (Bool × Nat)) : (freeL zs).length ≤ zs.length := freeUp_le _ _
theorem new_tk {n i : Nat} (hi : i < n) : tk (List.replicate n (false, 0)) i = false := by rw [tk_get (by simpa using hi)]; simp
theorem new_wr (n i : Nat) : wr (List.replicate n (false, 0)) i = 0 := by
  unfold wr
  by_cases hi : i < n
  · simp [hi]
  · simp [hi]
def tkV (zs : List (Bool × Nat)) : List Value := zs.map fun z => .bool z.1
theorem tkV_len (zs : List (Bool × Nat)) : (tkV zs).length = zs.length := by simp [tkV]
theorem tkV_get {zs : List (Bool × Nat)} {k : Nat} (hk : k < zs.length) : (tkV zs)[k]'(by simpa [tkV] using hk) = .bool (tk zs k) := by rw [tk_get hk]; simp [tkV]
theorem tkV_set (zs : List (Bool × Nat)) (k : Nat) (x : Bool) (w : Nat) : tkV (zs.set k (x, w)) = (tkV zs).set k (.bool x) := by simp [tkV, List.map_set]
theorem Own.only {lo sz zb : Nat} {h h' : Hp} {s : Sl} {l : List Value} (o : Own lo sz h s l) (y : Only zb h h') (hz : zb < lo) : Own lo sz h' s l :=
  o.eq fun a ha => y.block _ (o.lt ha).2 (by have := (o.lt ha).1; omega)
/-- reading and writing a row of bools. -/
theorem ixT {h : Hp} {s : Sl} {zs : List (Bool × Nat)} {lo : Nat} (o : Own lo 1 h s (tkV zs)) {i : Int} (k : Nat) (hi : i = k) (hk : k < zs.length) {K : Bool → Prop}
    (hK : K (tk zs k)) : ∃ a : Addr, s.base = some a ∧ 0 ≤ i ∧ i < (s.len : Int) ∧ ∃ c : Bool, hcell h (a.add (i.toNat * 1)) = some (.bool c) ∧ K c :=
  ix1 o.rd (by simpa using o.len) k hi (by simpa [tkV] using hk) fun a _ hc => ⟨_, by rw [hc, tkV_get hk], hK⟩
theorem setB {h : Hp} {s : Sl} {zs : List (Bool × Nat)} {lo : Nat} (o : Own lo 1 h s (tkV zs)) {i : Int} (k : Nat) (hi : i = k) (hk : k < zs.length) (x : Bool) (w : Nat) {K : Hp → Prop}
    (hK : ∀ h', Own lo 1 h' s (tkV (zs.set k (x, w))) → Keep lo h h' → K h') : ∃ a : Addr, s.base = some a ∧ 0 ≤ i ∧ i < (s.len : Int) ∧ StOk h (a.add (i.toNat * 1)) ∧ K (hset h (a.add (i.toNat * 1)) (.bool x)) := by
  have hl := o.len
  rw [tkV_len] at hl
  refine ix1 o.rd (by simpa using o.len) k hi (by simpa [tkV] using hk) fun a ha hc => ?_
  subst hi
  obtain ⟨ok, o', k', _, _⟩ := o.set ha (k := k) (by simpa [tkV] using hk) (.bool x)
  rw [← tkV_set zs k x w] at o'
  simp only [Int.toNat_natCast, Nat.mul_one]
  exact ⟨ok, hK _ o' k'⟩
theorem AL.keep {h h' : Hp} {b zb lo : Nat} {zs : List (Bool × Nat)} {sp : Nat} (x : AL h b zb zs sp) (k : Keep lo h h') (h1 : b < lo) (h2 : zb < lo) : AL h' b zb zs sp := x.eq (k.block _ h1) (k.block _ h2)

/-! ### Nothing -/
theorem ListNil_spec (h : Hp) : HCalls Try.prog fn_alloc_Alloc_List #[.pointer none] h fun r h' => r = .slice none 0 0 ∧ h' = h := by
  apply alloc_Alloc_List_vc; unfold vcalloc_Alloc_List; exact .yes rfl ⟨rfl, rfl⟩
theorem CountNil_spec (h : Hp) : HCalls Try.prog fn_alloc_Alloc_Count #[.pointer none] h fun r h' => r = .int .i64 0 ∧ h' = h := by
  apply alloc_Alloc_Count_vc; unfold vcalloc_Alloc_Count
  refine (ListNil_spec h).mono ?_
  rintro _ _ ⟨rfl, rfl⟩
  exact ⟨Sl.nil, rfl, rfl, rfl⟩
theorem TakeNil_spec (x : Bool) (h : Hp) : HCalls Try.prog fn_alloc_Alloc_Take #[.pointer none, .bool x] h fun r h' => r = .tuple #[.int .i64 0, .int .i64 9] ∧ h' = h := by
  apply alloc_Alloc_Take_vc; unfold vcalloc_Alloc_Take
  refine (CountNil_spec h).mono ?_
  rintro _ _ ⟨rfl, rfl⟩
  exact ⟨_, rfl, .refl _, .yes (by simp) ⟨rfl, rfl⟩⟩
theorem atNil_spec (i : Int) (h : Hp) : HCalls Try.prog fn_alloc_Alloc_at #[.pointer none, .int .i64 i] h fun r h' => r = .pointer none ∧ h' = h := by
  apply alloc_Alloc_at_vc; unfold vcalloc_Alloc_at; exact .yes rfl ⟨rfl, rfl⟩
theorem FreeNil_spec (i : Int) (h : Hp) : HCalls Try.prog fn_alloc_Alloc_Free #[.pointer none, .int .i64 i] h fun r h' => r = .int .i64 1 ∧ h' = h := by
  apply alloc_Alloc_Free_vc; unfold vcalloc_Alloc_Free
  refine (atNil_spec i h).mono ?_
  rintro _ _ ⟨rfl, rfl⟩
  exact ⟨_, rfl, .yes rfl ⟨rfl, rfl⟩⟩
theorem MarkNil_spec (i : Int) (h : Hp) : HCalls Try.prog fn_alloc_Alloc_Mark #[.pointer none, .int .i64 i] h fun r h' => r = .int .i64 1 ∧ h' = h := by
  apply alloc_Alloc_Mark_vc; unfold vcalloc_Alloc_Mark
  refine (atNil_spec i h).mono ?_
  rintro _ _ ⟨rfl, rfl⟩
  exact ⟨_, rfl, .yes rfl ⟨rfl, rfl⟩⟩
theorem WearNil_spec (i : Int) (h : Hp) : HCalls Try.prog fn_alloc_Alloc_Wear #[.pointer none, .int .i64 i] h fun r h' => r = .int .i64 0 ∧ h' = h := by
  apply alloc_Alloc_Wear_vc; unfold vcalloc_Alloc_Wear
  refine (atNil_spec i h).mono ?_
  rintro _ _ ⟨rfl, rfl⟩
  exact ⟨_, rfl, .yes rfl ⟨rfl, rfl⟩⟩

theorem awake10_spec (h : Hp) : HCalls Try.prog fn_scarplaw10_awake #[] h (Yes h) := by
  apply scarplaw10_awake_vc
  unfold vcscarplaw10_awake
  refine (New_spec (zones := 2) (spare := 1) (by omega) (by omega) (by omega) h).mono ?_
  rintro _ h1 ⟨rfl, x1, e1⟩
  refine ⟨_, _, rfl, .no rfl (.no rfl ?_)⟩
  have hf : (freeL (List.replicate 2 (false, 0))).length = 2 := by decide
  refine (Take_spec x1 (by simp) false).mono ?_
  rintro _ h2 (⟨hc, _⟩ | ⟨_, k, hl, rfl, x2, o2⟩)
  · rw [hf] at hc; simp at hc
  obtain rfl : k = 0 := by
    rcases Nat.eq_zero_or_pos k with h0 | h0
    · exact h0
    · have := hl.first 0 h0 (new_tk (by omega)); simp only [new_wr] at this; omega
  refine ⟨_, _, rfl, ?_⟩
  have ew : wr (List.replicate 2 (false, 0)) 0 = 0 := new_wr _ _
  rw [ew] at x2
  have hf2 : (freeL ((List.replicate 2 (false, 0)).set 0 (true, 0))).length = 1 := by decide
  refine (Take_spec x2 (by simp) false).mono ?_
  rintro _ h3 (⟨_, rfl, e3⟩ | ⟨hc, _⟩)
  rotate_left
  · rw [hf2] at hc; simp at hc
  refine ⟨_, _, rfl, ?_⟩
  refine (Take_spec (x2.ext e3) (by simp) true).mono ?_
  rintro _ h4 (⟨hc, _⟩ | ⟨_, k, hl2, rfl, x4, o4⟩)
  · rw [hf2] at hc; simp at hc
  obtain rfl : k = 1 := by
    have := hl2.lt
    have hfr := hl2.free
    simp at this
    rcases (show k = 0 ∨ k = 1 by omega) with rfl | rfl
    · simp [tk] at hfr
    · rfl
  refine ⟨_, _, rfl, .yes rfl (.yes rfl (.yes rfl (.yes rfl ⟨rfl, ?_⟩)))⟩
  exact (o4.ext ((o2.ext e1 (Nat.le_refl _)).trans e3) (Nat.le_refl _))
theorem aw10 {h h1 : Hp} (e : Ext h h1) : HCalls Try.prog fn_scarplaw10_awake #[] h1 fun r vh => ∃ c1 : Bool, r = .bool c1 ∧ Yes h (.bool c1) vh :=
  (awake10_spec h1).mono (by rintro _ h2 ⟨rfl, e2⟩; exact ⟨_, rfl, rfl, e.trans e2⟩)

/-- the six questions that Nothing is asked. -/
theorem six {k c1 : Int} {vh1 : Hp} {R : Value → Hp → Prop} {D : Hp → Prop} (hc : c1 = 9) (hD : D vh1) : IfB (c1 == (9 : Int)) (HCalls Try.prog fn_alloc_Alloc_Free #[.pointer none, .int .i64 k] vh1 fun r2 vh2 =>
          ∃ c4 : Int, r2 = .int .i64 c4 ∧
          IfB (c4 == (1 : Int)) (HCalls Try.prog fn_alloc_Alloc_Mark #[.pointer none, .int .i64 k] vh2 fun r3 vh3 =>
            ∃ c5 : Int, r3 = .int .i64 c5 ∧
            IfB (c5 == (1 : Int)) (HCalls Try.prog fn_alloc_Alloc_Count #[.pointer none] vh3 fun r4 vh4 =>
              ∃ c6 : Int, r4 = .int .i64 c6 ∧
              IfB (c6 == (0 : Int)) (HCalls Try.prog fn_alloc_Alloc_Wear #[.pointer none, .int .i64 k] vh4 fun r5 vh5 =>
                ∃ c7 : Int, r5 = .int .i64 c7 ∧
                IfB (c7 == (0 : Int)) (HCalls Try.prog fn_alloc_Alloc_List #[.pointer none] vh5 fun r6 vh6 =>
                  ∃ c8 : Sl, r6 = .slice c8.base c8.len c8.cap ∧
                  IfB ((c8.len : Int) == (0 : Int)) (D vh6)
                  (R (.bool false) vh6))
                (R (.bool false) vh5))
              (R (.bool false) vh4))
            (R (.bool false) vh3))
          (R (.bool false) vh2))
        (R (.bool false) vh1) := by
  subst hc
  refine .yes rfl ?_
  refine (FreeNil_spec k vh1).mono ?_
  rintro _ _ ⟨rfl, rfl⟩
  refine ⟨_, rfl, .yes rfl ?_⟩
  refine (MarkNil_spec k _).mono ?_
  rintro _ _ ⟨rfl, rfl⟩
  refine ⟨_, rfl, .yes rfl ?_⟩
  refine (CountNil_spec _).mono ?_
  rintro _ _ ⟨rfl, rfl⟩
  refine ⟨_, rfl, .yes rfl ?_⟩
  refine (WearNil_spec k _).mono ?_
  rintro _ _ ⟨rfl, rfl⟩
  refine ⟨_, rfl, .yes rfl ?_⟩
  refine (ListNil_spec _).mono ?_
  rintro _ _ ⟨rfl, rfl⟩
  exact ⟨Sl.nil, rfl, .yes rfl hD⟩
theorem AllocNothing_law {h : Hp} (zones : Int) (_ : (Lit.int .i64 zones).wf = true) (spare : Int) (_ : (Lit.int .i64 spare).wf = true) (k : Int) (_ : (Lit.int .i64 k).wf = true) :
    HCalls Try.prog fn_scarplaw10_AllocNothing #[.int .i64 zones, .int .i64 spare, .int .i64 k] h (Yes h) := by
  apply scarplaw10_AllocNothing_vc
  unfold vcscarplaw10_AllocNothing
  refine (TakeNil_spec true h).mono ?_
  rintro _ _ ⟨rfl, rfl⟩
  refine ⟨_, _, rfl, ?_⟩
  by_cases hmay : 1 ≤ zones ∧ zones ≤ 64 ∧ 0 ≤ spare ∧ spare ≤ zones
  · obtain ⟨z, rfl⟩ : ∃ z : Nat, zones = z := ⟨zones.toNat, by omega⟩
    obtain ⟨s, rfl⟩ : ∃ s : Nat, spare = s := ⟨spare.toNat, by omega⟩
    refine (New_spec (zones := z) (spare := s) (by omega) (by omega) (by omega) _).mono ?_
    rintro _ h1 ⟨rfl, x1, e1⟩
    refine ⟨_, _, rfl, .yes (by simp; omega) (.yes (by simp; omega) (.yes (by simp) ?_))⟩
    exact six rfl (.yes (by simp; omega) (.yes (by simp [isNone?]; omega) (.yes (by simp; omega) (aw10 e1))))
  · refine (NewNo_spec hmay _).mono ?_
    rintro _ _ ⟨rfl, rfl⟩
    refine ⟨_, _, rfl, IfB.dec (fun h1 => IfB.dec (fun h2 => IfB.dec (fun h3 => ?_) (fun h3 => ?_)) (fun h2 => ?_)) (fun h1 => ?_)⟩
    · have h4 : ¬ spare ≤ zones := fun h4 => hmay ⟨h1, h2, h3, h4⟩
      exact six rfl (.yes (by simp [h4]) (.yes (by simp [isNone?, h4]) (.no (by simp [h4]) (.yes rfl (aw10 (.refl _))))))
    all_goals exact six rfl (.yes (by simp) (.yes (by simp [isNone?]) (.yes rfl (aw10 (.refl _)))))

/-! ### In turns -/
theorem AllocEven_spec (z t : Nat) (h : Hp) : HCalls Try.prog fn_scarplaw10_AllocEven #[.int .i64 (z : Int), .int .i64 (t : Int)] h (Yes h) := by
  apply scarplaw10_AllocEven_vc
  unfold vcscarplaw10_AllocEven
  refine IfB.dec (fun _ => aw10 (.refl _)) (fun h1 => IfB.dec (fun _ => aw10 (.refl _)) (fun h2 => IfB.dec (fun _ => aw10 (.refl _)) (fun h3 => IfB.dec (fun _ => aw10 (.refl _)) (fun h4 => ?_))))
  refine (New_spec (zones := z) (spare := 0) (by omega) (by omega) (by omega) h).mono ?_
  rintro _ h5 ⟨rfl, x5, e5⟩
  refine ⟨_, _, rfl, .no rfl (.no rfl ?_)⟩
  refine ⟨fun i m h' => ∃ q r : Nat, i = ((q * z + r : Nat) : Int) ∧ r < z ∧ q * z + r ≤ t ∧ m + (q * z + r) = t ∧ Ext h h' ∧ ∃ zs : List (Bool × Nat), zs.length = z ∧ AL h' (h.size + 1) h.size zs 0 ∧ (∀ j, j < z → tk zs j = false) ∧ (∀ j, j < z → wr zs j = if j < r then q + 1 else q), t,
    ⟨0, 0, by simp, by omega, by omega, by omega, e5, _, by simp, x5, fun j hj => new_tk hj, fun j _ => by rw [new_wr, if_neg (by omega)]⟩, ?_⟩
  rintro _ _ m h6 ⟨q, r, rfl, hr, hle, hm, e6, zs, hlen, x6, htk, hwr⟩
  have hall : (freeL zs).length = z := by rw [cnt_all (by rw [hlen]; exact htk), hlen]
  have hqt : q ≤ t := by
    have : q * 1 ≤ q * z := Nat.mul_le_mul_left q (by omega)
    omega
  refine IfB.dec (fun hlt => ?_) (fun hge => ?_)
  · refine (Take_spec x6 (by omega) false).mono ?_
    rintro _ h7 (⟨hc, _⟩ | ⟨_, k, hl, rfl, x7, o7⟩)
    · rw [hall] at hc; rcases hc with hc | ⟨_, hc⟩ <;> omega
    have hl' : Least zs zs.length r := by
      refine ⟨by omega, htk r hr, fun i hi _ => ?_, fun i hi _ => ?_⟩
      · rw [hwr r hr, hwr i (by omega), if_neg (by omega)]; split <;> omega
      · rw [hwr r hr, hwr i (by omega), if_neg (by omega), if_pos hi]; omega
    obtain rfl := hl.uniq hl'
    have hk : k < zs.length := by omega
    refine ⟨_, _, rfl, .no rfl ⟨by omega, ?_⟩⟩
    have erem : iRem ((q * z + k : Nat) : Int) (z : Int) = (k : Int) := by
      rw [iRem_nn (by omega), ← Int.natCast_emod, Nat.add_comm, Nat.add_mul_mod_self_right, Nat.mod_eq_of_lt hr]
    rw [erem]
    refine .no (by simp) ?_
    have hk7 : k < (zs.set k (true, wr zs k)).length := by simpa using hk
    have hwk := hwr k hr
    rw [if_neg (Nat.lt_irrefl _)] at hwk
    have ht7 : tk (zs.set k (true, wr zs k)) k = true := by rw [tk_set hk, if_pos rfl]
    refine (Free_one x7 hk7 ht7 (by rw [wr_set hk, if_pos rfl]; simp only; omega)).mono ?_
    rintro _ h8 ⟨rfl, x8, o8⟩
    have ew7 : wr (zs.set k (true, wr zs k)) k = q := by rw [wr_set hk, if_pos rfl]; exact hwk
    rw [ew7, List.set_set] at x8
    have nx : iAdd .i64 ((q * z + k : Nat) : Int) (1 : Int) = ((q * z + k + 1 : Nat) : Int) := by rw [iAdd64 (by omega)]; push_cast; rfl
    have tk8 : ∀ j, j < z → tk (zs.set k (false, q + 1)) j = false := fun j hj => by rw [tk_set hk]; split; rfl; exact htk j hj
    have wr8 : ∀ j, j < z → wr (zs.set k (false, q + 1)) j = if j < k + 1 then q + 1 else q := fun j hj => by
      rw [wr_set hk]
      by_cases hjk : j = k
      · rw [if_pos hjk, if_pos (by omega)]
      · rw [if_neg hjk, hwr j hj]; by_cases h' : j < k
        · rw [if_pos h', if_pos (by omega)]
        · rw [if_neg h', if_neg (by omega)]
    have e8 : Ext h h8 := o8.ext (o7.ext e6 (Nat.le_refl _)) (Nat.le_refl _)
    refine ⟨_, rfl, .no rfl ⟨m - 1, by omega, ?_⟩⟩
    rcases Nat.lt_or_ge (k + 1) z with hkz | hkz
    · exact ⟨q, k + 1, nx, hkz, by omega, by omega, e8, _, by simpa using hlen, x8, tk8, wr8⟩
    · have hkz' : k + 1 = z := by omega
      have e1 : (q + 1) * z = q * z + k + 1 := by rw [Nat.succ_mul]; omega
      exact ⟨q + 1, 0, by rw [nx, Nat.add_zero, e1], by omega, by omega, by omega, e8, _, by simpa using hlen, x8, tk8, fun j hj => by rw [wr8 j hj, if_pos (by omega), if_neg (by omega)]⟩
  · have htq : t = q * z + r := by omega
    refine ⟨fun i m h' => h6 = h' ∧ ∃ j : Nat, i = j ∧ m + j = z, z, ⟨rfl, 0, rfl, rfl⟩, ?_⟩
    rintro _ _ m2 _ ⟨rfl, j, rfl, hj⟩
    refine IfB.dec (fun hlt => ?_) (fun _ => aw10 e6)
    refine (Wear_spec x6 (j : Int)).mono ?_
    rintro _ _ ⟨hc, rfl⟩
    rcases hc with ⟨hc, _⟩ | ⟨k, hk, hk2, rfl⟩
    · rcases hc with hc | hc <;> omega
    obtain rfl : j = k := by omega
    have hw := hwr j (by omega)
    have eq : iQuo .i64 (t : Int) (z : Int) = (q : Int) := by
      rw [iQuo64 (by omega), ← Int.ofNat_tdiv, htq, Nat.add_comm, Nat.add_mul_div_right _ _ (by omega), Nat.div_eq_of_lt hr, Nat.zero_add]
    have nx : iAdd .i64 (j : Int) (1 : Int) = ((j + 1 : Nat) : Int) := by rw [iAdd64 (by omega)]; push_cast; rfl
    refine ⟨_, rfl, by omega, ?_⟩
    rw [eq, iAdd64 (by omega), nx]
    refine IfB.ne (fun hne => ⟨by omega, IfB.ne (fun hne2 => ?_) (fun _ => ?_)⟩) (fun _ => ?_)
    · exfalso
      rw [hw] at hne hne2
      split at hne <;> split at hne2 <;> omega
    · exact ⟨m2 - 1, by omega, rfl, j + 1, rfl, by omega⟩
    · exact ⟨m2 - 1, by omega, rfl, j + 1, rfl, by omega⟩
theorem AllocEven_law {h : Hp} (zones : Int) (_ : (Lit.int .i64 zones).wf = true) (turns : Int) (_ : (Lit.int .i64 turns).wf = true) : HCalls Try.prog fn_scarplaw10_AllocEven #[.int .i64 zones, .int .i64 turns] h (Yes h) := by
  rcases Int.lt_or_le zones 0 with h1 | h1
  · apply scarplaw10_AllocEven_vc
    unfold vcscarplaw10_AllocEven
    exact .yes (by simp; omega) (aw10 (.refl _))
  rcases Int.lt_or_le turns 0 with h2 | h2
  · apply scarplaw10_AllocEven_vc
    unfold vcscarplaw10_AllocEven
    exact IfB.dec (fun _ => aw10 (.refl _)) (fun _ => IfB.dec (fun _ => aw10 (.refl _)) (fun _ => .yes (by simp; omega) (aw10 (.refl _))))
  obtain ⟨z, rfl⟩ : ∃ z : Nat, zones = z := ⟨zones.toNat, by omega⟩
  obtain ⟨t, rfl⟩ : ∃ t : Nat, turns = t := ⟨turns.toNat, by omega⟩
  exact AllocEven_spec z t h

end Go.Proofs.Ytmnkafplmbngnaa

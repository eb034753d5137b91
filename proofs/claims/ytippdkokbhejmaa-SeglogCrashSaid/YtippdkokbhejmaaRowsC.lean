/-
  slices.ContainsFunc of rows of bytes.
-/
import Derived.Test.YtippdkokbhejmaaOwnR
namespace Go.Proofs.Ytippdkokbhejmaa
set_option linter.unusedVariables false
set_option linter.unusedSimpArgs false

/-- is one of the rows so? -/
theorem rowsContains_spec {f : Nat} {p : List UInt8 → Bool} {h : Hp} {s : Sl} {rows : List (Sl × List UInt8)} (hr : RdC h s.base (rows.map fun p => slV p.1)) (hl : s.len = rows.length) (each : ∀ x ∈ rows, Rd 1 h x.1 (x.2.map bv)) (hmax : rows.length ≤ 1000000)
    (hf : ∀ x ∈ rows, ∀ c : Sl, Rd 1 h c (x.2.map bv) → HCalls Try.prog f #[.slice c.base c.len c.cap] h fun r h' => r = .bool (p x.2) ∧ h' = h) :
    HCalls Try.prog fn_slices_ContainsFunc_ssbytesbyte #[.slice s.base s.len s.cap, .func (.func f) #[] #[]] h fun r h' => r = .bool (rows.any fun x => p x.2) ∧ h' = h := by
  apply slices_ContainsFunc_ssbytesbyte_vc
  unfold vcslices_ContainsFunc_ssbytesbyte
  have ix : HCalls Try.prog fn_slices_IndexFunc_ssbytesbyte #[.slice s.base s.len s.cap, .func (.func f) #[] #[]] h fun r h' => (∃ c : Int, r = .int .i64 c ∧ decide (c ≥ 0) = rows.any fun x => p x.2) ∧ h' = h := by
    apply slices_IndexFunc_ssbytesbyte_vc
    unfold vcslices_IndexFunc_ssbytesbyte
    refine ⟨fun i m h' => h = h' ∧ ∃ k : Nat, i = k ∧ m + k = rows.length ∧ (rows.take k).any (fun x => p x.2) = false, rows.length, ⟨rfl, 0, rfl, rfl, rfl⟩, ?_⟩
    rintro _ _ m _ ⟨rfl, k, rfl, hm, ht⟩
    refine IfB.dec (fun hlt => ?_) (fun hge => ?_)
    · have hk : k < rows.length := by omega
      refine ixS hr hl k rfl hk ?_
      refine (hf _ (List.getElem_mem hk) _ (each _ (List.getElem_mem hk))).mono ?_
      rintro _ h1 ⟨rfl, hh⟩
      obtain rfl := hh.symm
      refine ⟨_, rfl, IfB.intro (fun hp => ⟨⟨_, rfl, ?_⟩, rfl⟩) (fun hp => ⟨m - 1, by omega, rfl, k + 1, by rw [iAdd64 (by omega)]; push_cast; rfl, by omega, ?_⟩)⟩
      · have : (rows.any fun x => p x.2) = true := List.any_eq_true.2 ⟨rows[k], List.getElem_mem hk, hp⟩
        rw [this]; simp
      · rw [List.take_succ_eq_append_getElem hk, List.any_append, ht]; simp [hp]
    · rw [List.take_of_length_le (by omega)] at ht
      exact ⟨⟨_, rfl, by rw [ht]; rfl⟩, rfl⟩
  refine ix.mono ?_
  rintro _ h1 ⟨⟨c, rfl, hc⟩, hh⟩
  obtain rfl := hh.symm
  exact ⟨_, rfl, by rw [hc], rfl⟩

end Go.Proofs.Ytippdkokbhejmaa

/-
  Bytes out of a string's constant.
-/
import Derived.Test.YtippdkokbhejmaaMem
namespace Go.Proofs.Ytippdkokbhejmaa
set_option linter.unusedVariables false
set_option linter.unusedSimpArgs false

theorem hstr_other {h : Hp} {a : Addr} {b : Nat} (hb : b ≠ a.block) : (hstr h a)[b]? = h[b]? := by
  unfold hstr
  split
  · simp [hmark, hw, World.freeze, Array.getElem?_modify, Ne.symm hb]
  · rfl
theorem hstr_size (h : Hp) (a : Addr) : (hstr h a).size = h.size := by
  unfold hstr
  split
  · simp [hmark, hw, World.freeze]
  · rfl
theorem hstr_cell (h : Hp) (a c : Addr) : hcell (hstr h a) c = hcell h c := by
  by_cases e : c.block = a.block
  · unfold hstr
    split
    · rename_i p n hs
      have hb : ∃ cs t f, h[a.block]? = some (.cells cs t f) := by
        unfold hshape World.shape? hw at hs
        simp only at hs
        split at hs
        · rename_i cs t f heq; exact ⟨cs, t, f, heq⟩
        · cases hs
      obtain ⟨cs, t, f, hb⟩ := hb
      simp [hcell, hmark, hw, World.freeze, World.cell?, e, Array.getElem?_modify, hb]
    · rfl
  · exact hcell_eq (hstr_other e)
theorem RdC.hstr {h : Hp} {b : Option Addr} {l : List Value} (hr : RdC h b l) (a : Addr) : RdC (hstr h a) b l := by
  intro i v hv
  obtain ⟨c, hc, hv⟩ := hr i v hv
  exact ⟨c, hc, by rw [hstr_cell]; exact hv⟩
theorem Keep.hstr {lo : Nat} {h h' : Hp} (k : Keep lo h h') {a : Addr} (ha : lo ≤ a.block) : Keep lo h (hstr h' a) :=
  ⟨by rw [hstr_size]; exact k.size, fun b hb => by rw [hstr_other (by omega)]; exact k.block b hb⟩
/-- '[]byte("..")' in a block of its own. -/
theorem strFacts (h : Hp) (l : List UInt8) (t : Nat) : Ext h (hstr (alc h (l.map bv) t) (nw h)) ∧ (hstr (alc h (l.map bv) t) (nw h)).size = h.size + 1 ∧ RdC (hstr (alc h (l.map bv) t) (nw h)) (some (nw h)) (l.map bv) :=
  ⟨⟨by rw [hstr_size, size_alc]; omega, fun b hb => by rw [hstr_other (by show b ≠ h.size; omega), alc_old _ _ _ hb]⟩, by rw [hstr_size, size_alc], (RdC.alc h _ t).hstr _⟩

end Go.Proofs.Ytippdkokbhejmaa

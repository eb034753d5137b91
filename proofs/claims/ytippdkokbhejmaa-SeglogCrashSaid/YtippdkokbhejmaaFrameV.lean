/-
  A block's struct in memory.
-/
import Derived.Test.YtippdkokbhejmaaFrame
import Derived.Test.YtippdkokbhejmaaRow
namespace Go.Proofs.Ytippdkokbhejmaa
set_option linter.unusedVariables false
set_option linter.unusedSimpArgs false

theorem alc_row (h : Hp) (c : List Value) (t : Nat) : Row (alc h c t) h.size c := Row.alc h c t
/-- a struct of a block, as its five cells. -/
def blkV (k e s l : Int) (t : Sl) : List Value := [.int .i64 k, .int .i64 e, .int .i64 s, .int .i64 l, .slice t.base t.len t.cap]
theorem blkV_ok (k e s l : Int) (t : Sl) : ∀ v ∈ blkV k e s l t, cellOk v = true := by
  intro v hv
  simp only [blkV, List.mem_cons, List.not_mem_nil, or_false] at hv
  rcases hv with rfl | rfl | rfl | rfl | rfl <;> rfl
/-- reading it whole. -/
theorem Row.get5 {h : Hp} {b : Nat} {k e s l : Int} {t : Sl} (x : Row h b (blkV k e s l t)) {K : Int → Int → Int → Int → Sl → Prop} (hK : K k e s l t) :
    ∃ c4 : Int, ∃ c5 : Int, ∃ c6 : Int, ∃ c7 : Int, ∃ c8 : Sl, hcell h ⟨b, 0, none⟩ = some (.int .i64 c4) ∧ hcell h ((⟨b, 0, none⟩ : Addr).add 1) = some (.int .i64 c5) ∧ hcell h ((⟨b, 0, none⟩ : Addr).add 2) = some (.int .i64 c6) ∧ hcell h ((⟨b, 0, none⟩ : Addr).add 3) = some (.int .i64 c7) ∧ hcell h ((⟨b, 0, none⟩ : Addr).add 4) = some (.slice c8.base c8.len c8.cap) ∧ K c4 c5 c6 c7 c8 :=
  ⟨k, e, s, l, t, x.get0 rfl, x.get rfl, x.get rfl, x.get rfl, x.get rfl, hK⟩
/-- giving it back. -/
theorem out5 {h : Hp} {b : Nat} {old : List Value} (x : Row h b old) (ho : old.length = 5) (k e s l : Int) (t : Sl) {K : Int → Int → Int → Int → Sl → Hp → Prop} (hK : ∀ h', Only b h h' → h'.size = h.size → Row h' b (blkV k e s l t) → K k e s l t h') :
    stCells ⟨b, 0, none⟩ 0 [.int .i64 k, .int .i64 e, .int .i64 s, .int .i64 l, .slice t.base t.len t.cap] h fun h' =>
    ∃ c4 : Int, ∃ c5 : Int, ∃ c6 : Int, ∃ c7 : Int, ∃ c8 : Sl, hcell h' ⟨b, 0, none⟩ = some (.int .i64 c4) ∧ hcell h' ((⟨b, 0, none⟩ : Addr).add 1) = some (.int .i64 c5) ∧ hcell h' ((⟨b, 0, none⟩ : Addr).add 2) = some (.int .i64 c6) ∧ hcell h' ((⟨b, 0, none⟩ : Addr).add 3) = some (.int .i64 c7) ∧ hcell h' ((⟨b, 0, none⟩ : Addr).add 4) = some (.slice c8.base c8.len c8.cap) ∧ K c4 c5 c6 c7 c8 h' :=
  x.put (vs := blkV k e s l t) (by simp [blkV, ho]) (blkV_ok k e s l t) fun h' r' s' o' => r'.get5 (K := fun a b c d e => K a b c d e h') (hK h' ⟨by omega, fun b hb hne => o' b hne⟩ s' r')
/-- what came of reading is put by. -/
theorem put5 {h : Hp} {k e s l : Int} {t : Sl} {c0 c1 c2 c3 c4 : Value} {ty : Nat} {K : Hp → Prop} (hK : ∀ h', Ext h h' → Row h' h.size (blkV k e s l t) → K h') :
    stCells (nw h) 0 [.int .i64 k, .int .i64 e, .int .i64 s, .int .i64 l, .slice t.base t.len t.cap] (alc h [c0, c1, c2, c3, c4] ty) K :=
  (alc_row h [c0, c1, c2, c3, c4] ty).put (vs := blkV k e s l t) rfl (blkV_ok k e s l t) fun h' r' s' o' => hK h' ⟨by rw [s', size_alc]; omega, fun b hb => by rw [o' b (by omega), alc_old _ _ _ hb]⟩ r'
/-- a copy by 'append([]byte{}, p...)'. -/
theorem cpB {h : Hp} {u : Sl} {q : List UInt8} (ru : Rd 1 h u (q.map bv)) (hq : q.length ≤ 1000000) {K : Sl → Hp → Prop}
    (hK : ∀ s h', Own h.size 1 h' s (q.map bv) → s.len = q.length → Ext h h' → K s h') :
    AppC ty_uint8 1 1 #[.int .u8 (0 : Int)] (Sl.mk (some (nw h)) 0 0) u (alc h [] ty_uint8) K := by
  have e1 : Ext h (alc h [] ty_uint8) := alc_ext _ _ _
  have o0 : Own h.size 1 (alc h [] ty_uint8) ⟨some (nw h), 0, 0⟩ [] := Own.alc h [] ty_uint8 0 1 rfl
  have lu := ru.lenB
  refine AppC_own (news := q.map bv) rfl o0 e1.size (by simpa using ru.lenB) (ru.ext e1).rd (cellOk_bv q) (by simp; omega) (by simp; omega) fun s h6 o6 l6 k6 _ => ?_
  exact hK s h6 (by simpa using o6) (by rw [l6]; simp; omega) ((e1.toKeep).trans k6).ext

end Go.Proofs.Ytippdkokbhejmaa

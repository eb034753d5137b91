/-
  Strings made of bytes.
-/
import Derived.Test.YtippdkokbhejmaaMem
namespace Go.Proofs.Ytippdkokbhejmaa
set_option linter.unusedVariables false
set_option linter.unusedSimpArgs false

theorem baLoop (bs : ByteArray) : ∀ (n i : Nat) (r : List UInt8), n + i = bs.size → ByteArray.toList.loop bs i r = r.reverse ++ bs.data.toList.drop i
  | 0, i, r, h => by
    unfold ByteArray.toList.loop
    have : bs.data.toList.length = bs.size := rfl
    rw [if_neg (by omega), List.drop_eq_nil_of_le (by omega), List.append_nil]
  | n + 1, i, r, h => by
    have hl : bs.data.toList.length = bs.size := rfl
    have hi : i < bs.data.toList.length := by omega
    unfold ByteArray.toList.loop
    rw [if_pos (by omega), baLoop bs n (i + 1) _ (by omega), List.drop_eq_getElem_cons hi, List.reverse_cons, List.append_assoc]
    have : bs.get! i = bs.data.toList[i] := by
      have hi' : i < bs.data.size := by simpa using hi
      show bs.data[i]! = _
      rw [getElem!_pos bs.data i hi']; simp
    rw [this]; rfl
theorem baList (l : List UInt8) : (ByteArray.mk l.toArray).toList = l := by
  unfold ByteArray.toList
  rw [baLoop _ l.length 0 [] (by simp [ByteArray.size])]
  simp
/-- two strings made of bytes, held against each other. -/
theorem strNe {h : Hp} {s t : Sl} {a b : List UInt8} (ra : Rd 1 h s (a.map bv)) (rb : Rd 1 h t (b.map bv)) {A B : Prop} (hA : a ≠ b → A) (hB : a = b → B) :
    ∃ bs : List UInt8, bs.length = s.len ∧ RdC h s.base (bs.map fun x => .int .u8 (x.toNat : Int)) ∧
    ∃ bs1 : List UInt8, bs1.length = t.len ∧ RdC h t.base (bs1.map fun x => .int .u8 (x.toNat : Int)) ∧
    IfB (!((ByteArray.mk bs.toArray).toList == (ByteArray.mk bs1.toArray).toList)) A B := by
  refine ⟨a, ra.lenB, ra.rd, b, rb.lenB, rb.rd, ?_⟩
  rw [baList, baList]
  by_cases e : a = b
  · exact .no (by simp [e]) (hB e)
  · exact .yes (by simp [e]) (hA e)
/-- the second one's bytes first. -/
theorem strNe' {h : Hp} {s t : Sl} {a b : List UInt8} (ra : Rd 1 h s (a.map bv)) (rb : Rd 1 h t (b.map bv)) {A B : Prop} (hA : a ≠ b → A) (hB : a = b → B) :
    ∃ bs2 : List UInt8, bs2.length = t.len ∧ RdC h t.base (bs2.map fun x => .int .u8 (x.toNat : Int)) ∧ Ext h h ∧
    ∃ bs3 : List UInt8, bs3.length = s.len ∧ RdC h s.base (bs3.map fun x => .int .u8 (x.toNat : Int)) ∧ Ext h h ∧
    IfB (!((ByteArray.mk bs3.toArray).toList == (ByteArray.mk bs2.toArray).toList)) A B := by
  refine ⟨b, rb.lenB, rb.rd, .refl _, a, ra.lenB, ra.rd, .refl _, ?_⟩
  rw [baList, baList]
  by_cases e : a = b
  · exact .no (by simp [e]) (hB e)
  · exact .yes (by simp [e]) (hA e)
theorem strNeE {h : Hp} {s t : Sl} {a b : List UInt8} (ra : Rd 1 h s (a.map bv)) (rb : Rd 1 h t (b.map bv)) {A B : Prop} (hA : a ≠ b → A) (hB : a = b → B) :
    ∃ bs : List UInt8, bs.length = s.len ∧ RdC h s.base (bs.map fun x => .int .u8 (x.toNat : Int)) ∧ Ext h h ∧
    ∃ bs1 : List UInt8, bs1.length = t.len ∧ RdC h t.base (bs1.map fun x => .int .u8 (x.toNat : Int)) ∧ Ext h h ∧
    IfB (!((ByteArray.mk bs.toArray).toList == (ByteArray.mk bs1.toArray).toList)) A B := by
  refine ⟨a, ra.lenB, ra.rd, .refl _, b, rb.lenB, rb.rd, .refl _, ?_⟩
  rw [baList, baList]
  by_cases e : a = b
  · exact .no (by simp [e]) (hB e)
  · exact .yes (by simp [e]) (hA e)

end Go.Proofs.Ytippdkokbhejmaa

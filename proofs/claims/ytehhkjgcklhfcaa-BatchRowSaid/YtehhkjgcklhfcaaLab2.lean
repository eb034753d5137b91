/-
  Rows and a row of values of one's own, side by side.
-/
import Derived.Test.YtehhkjgcklhfcaaLab
namespace Go.Proofs.Ytehhkjgcklhfcaa
set_option linter.unusedVariables false
set_option linter.unusedSimpArgs false

/-- all of one's rows behind another's. -/
theorem OwnRows.append {lo e by_ : Nat} {h h1 : Hp} {t b : Sl} {rows rows2 : List (Sl × List UInt8)} {zc : Array Value} {K : Sl → Hp → Prop} (hz : zc.size = 1) (o : OwnRows lo h t rows) (hlo : lo ≤ h.size) (e1 : Ext h h1) (ob : OwnRows h.size h1 b rows2)
    (hb : (rows.length + rows2.length) * by_ ≤ 140737488355328) (hby : 1 ≤ by_)
    (hK : ∀ r h', OwnRows lo h' r (rows ++ rows2) → r.len = rows.length + rows2.length → Keep lo h h' → (∀ b, b < h.size → (∀ a, t.base = some a → b ≠ a.block) → h'[b]? = h[b]?) → (∀ a, r.base = some a → t.base = some a ∨ h1.size ≤ a.block) → K r h') :
    AppC e 1 by_ zc t b h1 K := by
  have hlen := o.len
  have hlen2 := ob.len
  have hle : (rows.length + rows2.length) * 1 ≤ (rows.length + rows2.length) * by_ := Nat.mul_le_mul_left _ hby
  have hsz := e1.size
  refine AppC_own5 (news := rows2.map fun p => slV p.1) (l := rows.map fun p => slV p.1) hz (o.own.ext e1) (by omega) (by simp; omega) ob.own.rd (fun v hv => by obtain ⟨x, _, rfl⟩ := List.mem_map.1 hv; rfl) (by rw [hlen, hlen2]; exact hb) (by rw [hlen, hlen2]; omega) fun r h' o' l' k' x' b' => ?_
  have same : ∀ b, b < h1.size → (∀ a, t.base = some a → b ≠ a.block) → h'[b]? = h1[b]? := x'
  have hs' := k'.size
  have kp : Keep lo h h' := ⟨by omega, fun b hb => by rw [k'.block b hb, e1.block b (by omega)]⟩
  have hrb : ∀ a', r.base = some a' → t.base = some a' ∨ h1.size ≤ a'.block := fun a' ha' => by
    rcases b' a' ha' with h | h
    · exact .inl h
    · exact .inr (by omega)
  refine hK r h' ⟨by simpa using o', fun p hp => ?_, fun p hp a ha => ?_⟩ (by rw [l', hlen, hlen2]) kp (fun b hb hne => by rw [same b (by omega) hne, e1.block b hb]) hrb
  · rcases List.mem_append.1 hp with hp | hp
    · exact ((o.each p hp).ext e1).eq fun a ha => same _ (by have := (o.base p hp a ha).2.1; omega) (o.base p hp a ha).2.2
    · exact (ob.each p hp).eq fun a ha => same _ (ob.base p hp a ha).2.1 fun a' ha' => by
        have := (ob.base p hp a ha).1
        have := (o.own.lt ha').2
        omega
  · rcases List.mem_append.1 hp with hp | hp
    · obtain ⟨q1, q2, q3⟩ := o.base p hp a ha
      refine ⟨q1, by omega, fun a' ha' => ?_⟩
      rcases hrb a' ha' with h | h
      · exact q3 a' h
      · omega
    · obtain ⟨q1, q2, q3⟩ := ob.base p hp a ha
      refine ⟨by omega, by omega, fun a' ha' => ?_⟩
      rcases hrb a' ha' with h | h
      · have := (o.own.lt h).2; omega
      · omega
structure RV (lo : Nat) (F : Nat → Bool) (h : Hp) (out : Sl) (rows : List (Sl × List UInt8)) (x : Sl) (vs : List Value) : Prop where
  o : OwnRows lo h out rows
  lab : LabR F out rows
  b : Own lo 1 h x vs
  labb : ∀ a, x.base = some a → F a.block = false
theorem RV.ext {lo : Nat} {F : Nat → Bool} {h h' : Hp} {out : Sl} {rows : List (Sl × List UInt8)} {x : Sl} {vs : List Value} (y : RV lo F h out rows x vs) (e : Ext h h') : RV lo F h' out rows x vs := ⟨y.o.ext e, y.lab, y.b.ext e, y.labb⟩
theorem RV.append {lo e by_ : Nat} {zc : Array Value} {F : Nat → Bool} {h h1 : Hp} {out b : Sl} {rows rows2 : List (Sl × List UInt8)} {x : Sl} {vs : List Value} {K : Sl → Hp → Prop} (hz : zc.size = 1) (y : RV lo F h out rows x vs) (hlo : lo ≤ h.size) (e1 : Ext h h1) (ob : OwnRows h.size h1 b rows2)
    (hb : (rows.length + rows2.length) * by_ ≤ 140737488355328) (hby : 1 ≤ by_)
    (hK : ∀ r h' F', RV lo F' h' r (rows ++ rows2) x vs → Keep lo h h' → r.len = rows.length + rows2.length → K r h') : AppC e 1 by_ zc out b h1 K := by
  refine OwnRows.append hz y.o hlo e1 ob hb hby fun r h' o' l' k' x' b' => ?_
  have fr : ∀ b, b < h.size → F b = false → h'[b]? = h[b]? := fun b hb hF => x' b hb fun a ha e => by rw [e, y.lab.1 a ha] at hF; cases hF
  have hs := e1.size
  refine hK r h' (fun b => if b < h.size then F b else true) ⟨o', ⟨fun a ha => ?_, fun p hp a ha => ?_⟩, y.b.eq fun a ha => fr _ (y.b.lt ha).2 (y.labb a ha), fun a ha => ?_⟩ k' l'
  · rcases b' a ha with h | h
    · show (if a.block < _ then _ else _) = true
      rw [if_pos (y.o.own.lt h).2]; exact y.lab.1 a h
    · show (if a.block < _ then _ else _) = true
      rw [if_neg (by omega)]
  · show (if a.block < _ then _ else _) = true
    rcases List.mem_append.1 hp with hp | hp
    · rw [if_pos (y.o.base p hp a ha).2.1]; exact y.lab.2 p hp a ha
    · rw [if_neg (by have := (ob.base p hp a ha).1; omega)]
  · show (if a.block < _ then _ else _) = false
    rw [if_pos (y.b.lt ha).2]; exact y.labb a ha
/-- one value more, out of a block made for it. -/
theorem RV.pushV {lo e ty by_ : Nat} {zc : Array Value} {F : Nat → Bool} {h : Hp} {out : Sl} {rows : List (Sl × List UInt8)} {x : Sl} {vs : List Value} {v : Value} {K : Sl → Hp → Prop} (hz : zc.size = 1) (y : RV lo F h out rows x vs) (hlo : lo ≤ h.size) (hv : cellOk v = true)
    (hb : (vs.length + 1) * by_ ≤ 140737488355328) (hby : 1 ≤ by_)
    (hK : ∀ r h' F', RV lo F' h' out rows r (vs ++ [v]) → Keep lo h h' → r.len = vs.length + 1 → K r h') : AppC e 1 by_ zc x (Sl.mk (some (nw h)) 1 1) (alc h [v] ty) K := by
  have lb : vs.length = x.len := by have := y.b.len; simpa using this
  have e1 : Ext h (alc h [v] ty) := alc_ext _ _ _
  have hs : (alc h [v] ty).size = h.size + 1 := size_alc _ _ _
  have hle : (vs.length + 1) * 1 ≤ (vs.length + 1) * by_ := Nat.mul_le_mul_left _ hby
  refine AppC_own5 (news := [v]) hz (y.b.ext e1) (by omega) rfl (RdC.alc h _ ty) (fun u hu => by simp at hu; subst hu; exact hv) (by rw [← lb]; exact hb) (by rw [← lb]; simp only; omega) fun r h' o' l' k' x' b' => ?_
  have fr : ∀ b, b < h.size → F b = true → h'[b]? = h[b]? := fun b hb hF => by
    rw [x' b (by omega) fun a ha e => (by rw [e, y.labb a ha] at hF; cases hF), e1.block b hb]
  have hs' := k'.size
  refine hK r h' (fun b => if b < h.size then F b else false) ⟨⟨y.o.own.eq fun a ha => fr _ (y.o.own.lt ha).2 (y.lab.1 a ha), fun p hp => (y.o.each p hp).eq fun a ha => fr _ (y.o.base p hp a ha).2.1 (y.lab.2 p hp a ha), fun p hp a ha => ⟨(y.o.base p hp a ha).1, by have := (y.o.base p hp a ha).2.1; omega, (y.o.base p hp a ha).2.2⟩⟩, ⟨fun a ha => ?_, fun p hp a ha => ?_⟩, o', fun a ha => ?_⟩ ⟨by omega, fun b hb => by rw [k'.block b hb, e1.block b (by omega)]⟩ (by simp only at l'; omega)
  · show (if a.block < _ then _ else _) = true
    rw [if_pos (y.o.own.lt ha).2]; exact y.lab.1 a ha
  · show (if a.block < _ then _ else _) = true
    rw [if_pos (y.o.base p hp a ha).2.1]; exact y.lab.2 p hp a ha
  · show (if a.block < _ then _ else _) = false
    rcases b' a ha with h | h
    · rw [if_pos (y.b.lt h).2]; exact y.labb a h
    · rw [if_neg (by omega)]

end Go.Proofs.Ytehhkjgcklhfcaa

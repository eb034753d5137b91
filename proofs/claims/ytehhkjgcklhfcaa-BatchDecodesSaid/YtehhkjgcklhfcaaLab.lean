/-
  Rows and bytes of one's own, side by side: labels tell their blocks apart.
-/
import Derived.Test.YtehhkjgcklhfcaaOwnR
namespace Go.Proofs.Ytehhkjgcklhfcaa
set_option linter.unusedVariables false
set_option linter.unusedSimpArgs false

def LabR (F : Nat → Bool) (t : Sl) (rows : List (Sl × List UInt8)) : Prop := (∀ a, t.base = some a → F a.block = true) ∧ ∀ p ∈ rows, ∀ a, p.1.base = some a → F a.block = true
structure RB (lo : Nat) (F : Nat → Bool) (h : Hp) (out : Sl) (rows : List (Sl × List UInt8)) (body : Sl) (bs : List UInt8) : Prop where
  o : OwnRows lo h out rows
  lab : LabR F out rows
  b : Own lo 1 h body (bs.map bv)
  labb : ∀ a, body.base = some a → F a.block = false
theorem RB.ext {lo : Nat} {F : Nat → Bool} {h h' : Hp} {out : Sl} {rows : List (Sl × List UInt8)} {body : Sl} {bs : List UInt8} (x : RB lo F h out rows body bs) (e : Ext h h') : RB lo F h' out rows body bs := ⟨x.o.ext e, x.lab, x.b.ext e, x.labb⟩
/-- other labels for blocks that are not there yet. -/
theorem RB.relab {lo : Nat} {F F' : Nat → Bool} {h : Hp} {out : Sl} {rows : List (Sl × List UInt8)} {body : Sl} {bs : List UInt8} (x : RB lo F h out rows body bs) (hf : ∀ b, b < h.size → F' b = F b) : RB lo F' h out rows body bs :=
  ⟨x.o, ⟨fun a ha => by rw [hf _ (x.o.own.lt ha).2]; exact x.lab.1 a ha, fun p hp a ha => by rw [hf _ (x.o.base p hp a ha).2.1]; exact x.lab.2 p hp a ha⟩, x.b, fun a ha => by rw [hf _ (x.b.lt ha).2]; exact x.labb a ha⟩
theorem RB.pushRow {lo e ty by_ : Nat} {zc : Array Value} {F : Nat → Bool} {h h1 : Hp} {out u : Sl} {rows : List (Sl × List UInt8)} {body : Sl} {bs l : List UInt8} {K : Sl → Hp → Prop} (hz : zc.size = 1) (x : RB lo F h out rows body bs) (hlo : lo ≤ h.size) (e1 : Ext h h1) (ou : Own h.size 1 h1 u (l.map bv))
    (hb : (rows.length + 1) * by_ ≤ 140737488355328) (hby : 1 ≤ by_)
    (hK : ∀ r h' F', RB lo F' h' r (rows ++ [(u, l)]) body bs → (∀ b, b < h.size → F' b = F b) → (∀ b, b < h.size → F b = false → h'[b]? = h[b]?) → Keep lo h h' → r.len = rows.length + 1 → K r h') : AppC e 1 by_ zc out (Sl.mk (some (nw h1)) 1 1) (alc h1 [slV u] ty) K := by
  refine OwnRows.push hz x.o hlo e1 ou hb (fun r h' o' l' k' x' b' => ?_) hby
  have fr : ∀ b, b < h.size → F b = false → h'[b]? = h[b]? := fun b hb hF => x' b hb fun a ha e => by rw [e, x.lab.1 a ha] at hF; cases hF
  have hs := e1.size
  refine hK r h' (fun b => if b < h.size then F b else true) ⟨o', ⟨fun a ha => ?_, fun p hp a ha => ?_⟩, x.b.eq fun a ha => fr _ (x.b.lt ha).2 (x.labb a ha), fun a ha => ?_⟩ (fun b hb => if_pos hb) fr k' l'
  · rcases b' a ha with h | h
    · show (if a.block < _ then _ else _) = true
      rw [if_pos (x.o.own.lt h).2]; exact x.lab.1 a h
    · show (if a.block < _ then _ else _) = true
      rw [if_neg (by omega)]
  · show (if a.block < _ then _ else _) = true
    rcases List.mem_append.1 hp with hp | hp
    · rw [if_pos (x.o.base p hp a ha).2.1]; exact x.lab.2 p hp a ha
    · simp only [List.mem_cons, List.not_mem_nil, or_false] at hp
      subst hp
      rw [if_neg (by have := (ou.lt ha).1; omega)]
  · show (if a.block < _ then _ else _) = false
    rw [if_pos (x.b.lt ha).2]; exact x.labb a ha
theorem RB.pushBytes {lo e : Nat} {F : Nat → Bool} {h h1 : Hp} {out y : Sl} {rows : List (Sl × List UInt8)} {body : Sl} {bs nb : List UInt8} {K : Sl → Hp → Prop} (x : RB lo F h out rows body bs) (hlo : lo ≤ h.size) (e1 : Ext h h1) (ry : Rd 1 h1 y (nb.map bv))
    (hb : bs.length + nb.length ≤ 140737488355328)
    (hK : ∀ r h' F', RB lo F' h' out rows r (bs ++ nb) → (∀ b, b < h.size → F' b = F b) → Keep lo h h' → r.len = bs.length + nb.length → K r h') : AppC e 1 1 #[.int .u8 (0 : Int)] body y h1 K := by
  have lb := x.b.toRd.lenB
  have ly := ry.lenB
  have hs := e1.size
  refine AppC_own5 (news := nb.map bv) rfl (x.b.ext e1) (by omega) (by simpa using ly) ry.rd (cellOk_bv nb) (by omega) (by omega) fun r h' o' l' k' x' b' => ?_
  have fr : ∀ b, b < h.size → F b = true → h'[b]? = h[b]? := fun b hb hF => by
    rw [x' b (by omega) fun a ha e => (by rw [e, x.labb a ha] at hF; cases hF), e1.block b hb]
  have hs' := k'.size
  rw [← List.map_append] at o'
  refine hK r h' (fun b => if b < h.size then F b else false) ⟨⟨x.o.own.eq fun a ha => fr _ (x.o.own.lt ha).2 (x.lab.1 a ha), fun p hp => (x.o.each p hp).eq fun a ha => fr _ (x.o.base p hp a ha).2.1 (x.lab.2 p hp a ha), fun p hp a ha => ⟨(x.o.base p hp a ha).1, by have := (x.o.base p hp a ha).2.1; omega, (x.o.base p hp a ha).2.2⟩⟩, ⟨fun a ha => ?_, fun p hp a ha => ?_⟩, o', fun a ha => ?_⟩ (fun b hb => if_pos hb) ⟨by omega, fun b hb => by rw [k'.block b hb, e1.block b (by omega)]⟩ (by omega)
  · show (if a.block < _ then _ else _) = true
    rw [if_pos (x.o.own.lt ha).2]; exact x.lab.1 a ha
  · show (if a.block < _ then _ else _) = true
    rw [if_pos (x.o.base p hp a ha).2.1]; exact x.lab.2 p hp a ha
  · show (if a.block < _ then _ else _) = false
    rcases b' a ha with h | h
    · rw [if_pos (x.b.lt h).2]; exact x.labb a h
    · rw [if_neg (by omega)]

end Go.Proofs.Ytehhkjgcklhfcaa

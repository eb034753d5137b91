/-
  BatchDecodes (chapter 17).
-/
import Derived.Test.YtehhkjgcklhfcaaBatch10
import Derived.Test.YtehhkjgcklhfcaaLaw17a
namespace Go.Proofs.Ytehhkjgcklhfcaa
set_option linter.unusedVariables false
set_option linter.unusedSimpArgs false

theorem decUniq {B B' : Nat → Prop} {h h' : Hp} {l : List (List UInt8)} {num num' : Int} {t t' : Sl} {ep ep' n n' err err' : Int} (d : BDecC B h l num t ep n err) (d' : BDecC B' h' l num' t' ep' n' err') :
    ep = ep' ∧ n = n' ∧ err = err' ∧ num = num' ∧ ∃ T : List TxD, TxsR B h t T ∧ TxsR B' h' t' T ∧ T.length ≤ 1000000000 ∧ ∀ j, (pt T j).length ≤ 1000000 := by
  have nilT : ∀ (B : Nat → Prop) (h : Hp), TxsR B h Sl.nil [] := fun B h => ⟨[], rfl, Rd.nil _ _, fun a ha => (by cases ha), fun x hx => by simp at hx⟩
  have nilP : ([] : List TxD).length ≤ 1000000000 ∧ ∀ j, (pt ([] : List TxD) j).length ≤ 1000000 := ⟨by simp, fun j => by simp [pt]⟩
  rcases d' with ⟨hd', rfl, rfl, rfl, rfl, rfl⟩ | ⟨hno', ⟨i', hi', hni'⟩, rfl, rfl, rfl, rfl, rfl⟩ | ⟨i', nm', e', T', b', rfl, rfl, rfl, rfl, ht'⟩
  · rcases d with ⟨hd, rfl, rfl, rfl, rfl, rfl⟩ | ⟨hno, ⟨i, hi, hni⟩, rfl, rfl, rfl, rfl, rfl⟩ | ⟨i, nm, e, T, b, rfl, rfl, rfl, rfl, ht⟩
    · exact ⟨rfl, rfl, rfl, rfl, [], nilT _ _, nilT _ _, nilP⟩
    · exact absurd (hd' i hi) hni
    · have h1 := (dec_complete b).2.2.1
      have h2 := (hd' i b.lt).2.2.2
      omega
  · rcases d with ⟨hd, rfl, rfl, rfl, rfl, rfl⟩ | ⟨hno, ⟨i, hi, hni⟩, rfl, rfl, rfl, rfl, rfl⟩ | ⟨i, nm, e, T, b, rfl, rfl, rfl, rfl, ht⟩
    · exact absurd (hd i' hi') hni'
    · exact ⟨rfl, rfl, rfl, rfl, [], nilT _ _, nilT _ _, nilP⟩
    · exact absurd ⟨i, nm, e, T, b⟩ hno'
  · obtain ⟨rfl, rfl, rfl, rfl, ht⟩ := decOk d b'
    have ck := b'.check
    refine ⟨rfl, rfl, rfl, rfl, T', ht, ht', by have := ck.len; omega, fun j => ?_⟩
    by_cases hj : j < T'.length
    · have := (ck.each j hj).2.1; omega
    · unfold pt; rw [List.getD_eq_getElem?_getD, List.getElem?_eq_none (by omega)]; simp
theorem BatchDecodes_law {h : Hp} (s : Sl) (l : List (Sl × List UInt8)) (w : InBB h s l) : HCalls Try.prog fn_scarplaw17_BatchDecodes #[.slice s.base s.len s.cap] h (Yes h) := by
  apply scarplaw17_BatchDecodes_vc
  unfold vcscarplaw17_BatchDecodes
  have wr := w.rows
  have hl := w.len
  refine IfB.dec (fun _ => aw17 (.refl h)) (fun h60 => ?_)
  refine (Total_spec wr (by have := w.cap; have := w.max; omega) (fun x hx => by have := (w.each x hx).len; have := (w.each x hx).cap; have := (w.each x hx).max; omega) (top := 6000) (by omega)).mono ?_
  rintro _ h1 ⟨e1, n, rfl, hn⟩
  refine ⟨_, rfl, IfB.dec (fun _ => aw17 e1) (fun hle => ?_)⟩
  refine (BDecode_spec (wr.ext e1) (by omega)).mono ?_
  rintro _ h2 ⟨e2, num2, t2, ep2, n2, err2, rfl, d2⟩
  have e02 := e1.trans e2
  refine ⟨_, t2, _, _, _, rfl, ?_⟩
  intro h3
  refine loc2 rfl rfl fun h4 e4 r4 => ?_
  have e04 := e02.trans e4
  refine (rDecode_spec (wr.ext e04) (by omega)).mono ?_
  rintro _ h5 ⟨e5, num5, t5, ep5, n5, err5, rfl, d5⟩
  have e05 := e04.trans e5
  refine ⟨_, t5, _, _, _, rfl, ?_⟩
  intro h6
  refine loc2 rfl rfl fun h7 e7 r7 => ?_
  obtain ⟨rfl, rfl, rfl, rfl, T, hT, hT', hTl, hTp⟩ := decUniq d2 d5
  refine (r4.ext (e5.trans e7)).get2s (r7.get2s ?_)
  refine (SameBatch_spec _ _ (hT.ext (e4.trans (e5.trans e7))) (hT'.ext e7) hTl hTp).mono ?_
  rintro _ h8 ⟨e8, sb, rfl, hsb⟩
  obtain rfl : sb = true := hsb.2 ⟨rfl, rfl⟩
  exact ⟨true, rfl, .yes rfl (.yes (by simp) (.yes (by simp) (.yes (by simp) (aw17 ((e05.trans e7).trans e8)))))⟩

end Go.Proofs.Ytehhkjgcklhfcaa

/-
  scarpalike.Sum and Total.
-/
import Derived.Test.YtkakpeojhjifgaaAlike
import Derived.Test.YtkakpeojhjifgaaBridge2
namespace Go.Proofs.Ytkakpeojhjifgaa
set_option linter.unusedVariables false
set_option linter.unusedSimpArgs false

def iv (n : Nat) : Value := .int .i64 (n : Int)
/-- 'Sum': no more than 2^40. -/
theorem Sum_spec (n : Nat) (hn : n ≤ 1099511627776) {h : Hp} {s : Sl} {l : List Nat} (hl : l.length = s.len) (hr : RdC h s.base (l.map iv)) (hm : l.length < 9223372036854775807) (hx : ∀ x ∈ l, x ≤ 9223372036854775807) :
    HCalls Try.prog fn_scarpalike_Sum #[.int .i64 (n : Int), .slice s.base s.len s.cap] h fun r h' => r = .int .i64 ((min (n + l.sum) 1099511627776 : Nat) : Int) ∧ h' = h := by
  apply scarpalike_Sum_vc
  unfold vcscarpalike_Sum
  refine ⟨fun a i m h' => h = h' ∧ ∃ k q : Nat, i = k ∧ a = q ∧ m + k = l.length ∧ q ≤ 1099511627776 ∧ q + (l.drop k).sum = n + l.sum, l.length, ⟨rfl, 0, n, rfl, rfl, rfl, hn, rfl⟩, ?_⟩
  rintro _ _ _ m _ ⟨rfl, k, q, rfl, rfl, hm, hq, hs⟩
  refine IfB.dec (fun hlt => ?_) (fun hge => ?_)
  · have hk : k < l.length := by omega
    have hd : (l.drop k).sum = l[k] + (l.drop (k + 1)).sum := by rw [List.drop_eq_getElem_cons hk, List.sum_cons]
    have hxk := hx l[k] (List.getElem_mem hk)
    refine IfB.dec (fun hh => by omega) (fun _ => ?_)
    have one : ∀ {K : Int → Prop}, K (l[k] : Int) → ∃ a : Addr, s.base = some a ∧ 0 ≤ (k : Int) ∧ (k : Int) < (s.len : Int) ∧ ∃ c : Int, hcell h (a.add ((k : Int).toNat * 1)) = some (.int .i64 c) ∧ K c := fun hK =>
      ix1 hr (by simpa using hl) k rfl (by simpa using hk) fun a _ hc => ⟨_, by simpa [iv] using hc, hK⟩
    refine one ?_
    rw [iSub64 (by omega)]
    refine IfB.dec (fun hh => ⟨by rw [Nat.min_eq_right (by omega)]; rfl, rfl⟩) (fun hh => ?_)
    refine one ⟨m - 1, by omega, rfl, k + 1, q + l[k], ?_, ?_, by omega, by omega, by omega⟩
    · rw [iAdd64 (by omega)]; push_cast; rfl
    · rw [iAdd64 (by omega)]; push_cast; rfl
  · obtain rfl : k = l.length := by omega
    have : (l.drop l.length).sum = 0 := by simp
    exact ⟨by rw [Nat.min_eq_left (by omega)]; congr 2; omega, rfl⟩
theorem Sum1_spec (n x : Nat) (hn : n ≤ 1099511627776) (hx : x ≤ 9223372036854775807) (h : Hp) (t : Nat) :
    HCalls Try.prog fn_scarpalike_Sum #[.int .i64 (n : Int), .slice (Sl.mk (some (nw h)) 1 1).base (Sl.mk (some (nw h)) 1 1).len (Sl.mk (some (nw h)) 1 1).cap] (alc h [.int .i64 (x : Int)] t) fun r h' => r = .int .i64 ((min (n + x) 1099511627776 : Nat) : Int) ∧ Ext h h' := by
  refine (Sum_spec n hn (s := ⟨some (nw h), 1, 1⟩) (l := [x]) rfl (RdC.alc h _ _) (by simp) (by simpa using hx)).mono ?_
  rintro _ _ ⟨rfl, rfl⟩
  exact ⟨by simp, alc_ext _ _ _⟩
/-- 'Total': right where it is no more than the top. -/
theorem Total_spec (top : Nat) (htop : top < 1099511627776) {h : Hp} {s : Sl} {l : List Sl} (hl : l.length = s.len) (hr : RdC h s.base (l.map slV)) (hm : s.len ≤ maxLen) (hx : ∀ x ∈ l, x.len ≤ maxLen) :
    HCalls Try.prog fn_scarpalike_Total #[.slice s.base s.len s.cap, .int .i64 (top : Int)] h fun r h' => (∃ n : Nat, r = .int .i64 (n : Int) ∧ (n ≤ top → n = l.length + (l.map Sl.len).sum)) ∧ Ext h h' := by
  have hmax : maxLen ≤ 9223372036854775807 := by simp [maxLen]
  apply scarpalike_Total_vc
  unfold vcscarpalike_Total
  refine (Sum1_spec 0 s.len (by omega) (by omega) h _).mono ?_
  rintro _ h1 ⟨rfl, e1⟩
  refine ⟨_, rfl, ?_⟩
  refine ⟨fun a i m h' => ∃ k : Nat, i = k ∧ m + k = l.length ∧ Ext h h' ∧ a = ((min (l.length + ((l.take k).map Sl.len).sum) 1099511627776 : Nat) : Int), l.length, ⟨0, rfl, rfl, e1, by simp [hl]⟩, ?_⟩
  rintro _ _ _ m h2 ⟨k, rfl, hm, e2, rfl⟩
  refine IfB.dec (fun hlt => ?_) (fun hge => ?_)
  · have hk : k < l.length := by omega
    refine IfB.dec (fun hle => ?_) (fun hgt => ?_)
    · refine ix1 (hr.ext e2) (by simpa using hl) k rfl (by simpa using hk) fun a _ hc => ⟨l[k], by simpa [slV] using hc, ?_⟩
      have hxk := hx l[k] (List.getElem_mem hk)
      refine (Sum1_spec _ l[k].len (Nat.min_le_right _ _) (by omega) h2 _).mono ?_
      rintro _ h3 ⟨rfl, e3⟩
      refine ⟨_, rfl, m - 1, by omega, k + 1, ?_, by omega, e2.trans e3, ?_⟩
      · rw [iAdd64 (by simp [maxLen] at *; omega)]; push_cast; rfl
      · rw [List.take_succ_eq_append_getElem hk, List.map_append, List.sum_append]; simp only [List.map_cons, List.map_nil, List.sum_cons, List.sum_nil]; omega
    · exact ⟨⟨_, rfl, fun hh => by omega⟩, e2⟩
  · obtain rfl : k = l.length := by omega
    rw [List.take_length]
    exact ⟨⟨_, rfl, fun hh => by omega⟩, e2⟩

end Go.Proofs.Ytkakpeojhjifgaa

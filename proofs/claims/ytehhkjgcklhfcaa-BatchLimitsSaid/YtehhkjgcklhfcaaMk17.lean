/-
  Batches that the laws of chapter 17 make.
-/
import Derived.Test.YtehhkjgcklhfcaaLaw17a
namespace Go.Proofs.Ytehhkjgcklhfcaa
set_option linter.unusedVariables false
set_option linter.unusedSimpArgs false

def ptsK (n : Nat) : List PutD := (List.range n).map fun k : Nat => ((k : Int), blockL 40 (k : Int))
theorem ptsK_len (n : Nat) : (ptsK n).length = n := by simp [ptsK]
theorem ptsK_succ (n : Nat) : ptsK (n + 1) = ptsK n ++ [((n : Int), blockL 40 (n : Int))] := by unfold ptsK; rw [List.range_succ, List.map_append]; rfl
theorem ptsK_lb {n k : Nat} (h : k < n) : lb (ptsK n) k = k := by simp [lb, ptsK, h]
theorem ptsK_rises (n : Nat) : RisesP (ptsK n) := fun k h0 hk => by
  rw [ptsK_len] at hk
  rw [ptsK_lb (by omega), ptsK_lb hk]; omega
theorem ptsK_ok {n : Nat} (hn : n ≤ 1000000) : ∀ p ∈ ptsK n, PutOk p := fun p hp => by
  obtain ⟨k, hk, rfl⟩ := List.mem_map.1 hp
  have : k < n := by simpa using hk
  exact ⟨by show (0 : Int) ≤ k; omega, by show (k : Int) ≤ 1048576; omega, blockL_length _ _⟩

/-- one Put more in a transaction that is being made. -/
theorem putStep {lo b : Nat} {h : Hp} {c : Sl} {L : List ((Int × Sl) × List UInt8)} {tv : Int} {k : Nat} {K : Hp → Prop} (row : Row h b [.int .i64 tv, .slice c.base c.len c.cap]) (o : OwnPuts lo h c L) (hb : b < lo) (hlo : lo ≤ h.size) (hL : L.length ≤ 1000000000)
    (hK : ∀ h' r u, Row h' b [.int .i64 tv, .slice r.base r.len r.cap] → OwnPuts lo h' r (L ++ [(((k : Int), u), blockL 40 (k : Int))]) → Only b h h' ∨ True → h.size ≤ h'.size → (∀ x, x < lo → x ≠ b → h'[x]? = h[x]?) → K h') :
    HCalls Try.prog fn_scarpalike_Data #[.int .i64 (k : Int)] h fun r2 vh6 =>
        ∃ c4 : Sl, r2 = .slice c4.base c4.len c4.cap ∧
        Ext h vh6 ∧
        let vh7 := alc vh6 [.int .i64 (k : Int), .slice c4.base c4.len c4.cap] ty_api_Put;
        Ext h vh7 ∧
        AppC ty_api_Put 2 32 #[.int .i64 (0 : Int), .slice Sl.nil.base Sl.nil.len Sl.nil.cap] c (Sl.mk (some (nw vh6)) 1 1) vh7 fun s vh8 =>
        StOk vh8 ((⟨b, 0, none⟩ : Addr).add 1) ∧
        Lt (hset vh8 ((⟨b, 0, none⟩ : Addr).add 1) (.slice s.base s.len s.cap)) fun vh9 => K vh9 := by
  refine (Data_spec k h).mono ?_
  rintro _ h6 ⟨u, rfl, ou, lu, e6⟩
  refine ⟨u, rfl, e6, ?_⟩
  intro h7
  refine ⟨e6.trans (alc_ext _ _ _), ?_⟩
  have s6 := e6.size
  refine OwnPuts.push rfl (o.ext e6) (by omega) ou.toRd (fun a ha => ⟨by have := (ou.lt ha).1; omega, (ou.lt ha).2, fun a' ha' => by have := (ou.lt ha).1; have := (o.own.lt ha').2; omega⟩) hL fun r h8 o8 l8 k8 _ _ => ?_
  have row8 : Row h8 b [.int .i64 tv, .slice c.base c.len c.cap] := (row.ext e6).eq (k8.block b hb)
  obtain ⟨ok, row9, x9, s9⟩ := row8.set (i := 1) (by simp) (.slice r.base r.len r.cap)
  have s8 := k8.size
  refine ⟨ok, hK _ r u row9 (o8.eq (by omega) fun x hx _ => x9 x (by omega)) (.inr trivial) (by omega) fun x hx hne => ?_⟩
  rw [x9 x hne, k8.block x hx, e6.block x (by omega)]
theorem TxsR.cut {B : Nat → Prop} {h : Hp} {s : Sl} {P : List TxD} (p : TxsR B h s P) {lo hi m : Nat} (h1 : lo ≤ hi) (h2 : hi ≤ s.len) (h3 : hi ≤ m) : TxsR B h (cutSl s lo hi m 2) ((P.drop lo).take (hi - lo)) := by
  obtain ⟨L, rfl, r, hb, he⟩ := p
  refine ⟨(L.drop lo).take (hi - lo), by simp [List.map_drop, List.map_take], ?_, fun a ha h0 => ?_, fun x hx => he x (List.mem_of_mem_drop (List.mem_of_mem_take hx))⟩
  · have := r.cut h1 h2 h3
    rw [c2_drop, c2_take] at this
    simpa [List.map_drop, List.map_take] using this
  · have hs0 : s.len ≠ 0 := by rw [cut_len] at h0; omega
    simp only [cutSl] at ha
    split at ha
    · exact hb a ha hs0
    · obtain ⟨a', ha', rfl⟩ := Option.map_eq_some_iff.1 ha
      rw [add_block]; exact hb a' ha' hs0
theorem TxsR.cap {B : Nat → Prop} {h : Hp} {s : Sl} {P : List TxD} (p : TxsR B h s P) : s.len ≤ s.cap := by
  obtain ⟨L, rfl, r, _⟩ := p
  exact r.cap

end Go.Proofs.Ytehhkjgcklhfcaa

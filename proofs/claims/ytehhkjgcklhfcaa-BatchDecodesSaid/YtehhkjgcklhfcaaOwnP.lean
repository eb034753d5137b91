/-
  Puts and transactions that the call makes.
-/
import Derived.Test.YtehhkjgcklhfcaaBatch0
namespace Go.Proofs.Ytehhkjgcklhfcaa
set_option linter.unusedVariables false
set_option linter.unusedSimpArgs false

theorem hset_same {h : Hp} {a : Addr} {v : Value} (hc : hcell h a = some v) : hset h a v = h := by
  have hlt := hcell_lt hc
  unfold hcell World.cell? at hc
  unfold hset World.setCell
  simp only [hw] at hc ⊢
  rw [Array.getElem?_eq_getElem hlt] at hc
  apply Array.ext
  · simp
  · intro i h1 h2
    rw [Array.getElem_modify]
    split
    · rename_i e
      subst e
      cases ho : h[a.block] with
      | cells c t f =>
        rw [ho] at hc
        simp only at hc ⊢
        by_cases hsp : a.spot.isSome = true
        · rw [if_pos hsp]
        · rw [if_neg hsp] at hc ⊢
          have : c.setIfInBounds a.off v = c := by
            apply Array.ext_getElem?
            intro k
            by_cases e : a.off = k
            · subst e
              rw [hc]
              have hk : a.off < c.size := (Array.getElem?_eq_some_iff.1 hc).1
              simp [hk]
            · rw [Array.getElem?_setIfInBounds_ne e]
          rw [this]
      | _ => rfl
    · rfl
/-- what stands there is written there again. -/
theorem Row.same {h : Hp} {b : Nat} {l : List Value} (x : Row h b l) (hok : ∀ v ∈ l, cellOk v = true) {K : Hp → Prop} (hK : K h) : stCells ⟨b, 0, none⟩ 0 l h K := by
  have go : ∀ (vs : List Value) (i : Nat), (∀ k v, vs[k]? = some v → l[i + k]? = some v) → (∀ v ∈ vs, cellOk v = true) → stCells ⟨b, 0, none⟩ i vs h K := by
    intro vs
    induction vs with
    | nil => intro i _ _; exact hK
    | cons v r ih =>
      intro i hv ho
      have h0 := hv 0 v rfl
      simp only [Nat.add_zero] at h0
      have hi : i < l.length := (List.getElem?_eq_some_iff.1 h0).1
      unfold stCells
      rw [ho v (by simp)]
      refine ⟨(x.set hi v).1, ?_⟩
      rw [hset_same (x.get h0)]
      exact ih (i + 1) (fun k u hu => by have := hv (k + 1) u (by simpa using hu); rw [show i + 1 + k = i + (k + 1) by omega]; exact this) fun u hu => ho u (by simp [hu])
  exact go l 0 (fun k v hv => by simpa using hv) hok

/-- a slice of Puts of one's own; the bytes stand somewhere else. -/
structure OwnPuts (lo : Nat) (h : Hp) (t : Sl) (L : List ((Int × Sl) × List UInt8)) : Prop where
  own : Own lo 2 h t (c2 (L.map (·.1)))
  each : ∀ x ∈ L, Rd 1 h x.1.2 (x.2.map bv)
  base : ∀ x ∈ L, ∀ a, x.1.2.base = some a → lo ≤ a.block ∧ a.block < h.size ∧ ∀ a', t.base = some a' → a.block ≠ a'.block
def plP (L : List ((Int × Sl) × List UInt8)) : List PutD := L.map fun x => (x.1.1, x.2)
theorem OwnPuts.nil (lo : Nat) (h : Hp) : OwnPuts lo h Sl.nil [] := ⟨Own.nil _ _ _, fun p hp => by simp at hp, fun p hp => by simp at hp⟩
theorem OwnPuts.len {lo : Nat} {h : Hp} {t : Sl} {L : List ((Int × Sl) × List UInt8)} (o : OwnPuts lo h t L) : t.len = L.length := by
  have := o.own.len; rw [c2_length] at this; simp at this; omega
theorem OwnPuts.eq {lo : Nat} {h h' : Hp} {t : Sl} {L : List ((Int × Sl) × List UInt8)} (o : OwnPuts lo h t L) (hs : h.size ≤ h'.size) (e : ∀ b, lo ≤ b → b < h.size → h'[b]? = h[b]?) : OwnPuts lo h' t L :=
  ⟨o.own.eq fun a ha => e _ (o.own.lt ha).1 (o.own.lt ha).2, fun p hp => (o.each p hp).eq fun a ha => e _ (o.base p hp a ha).1 (o.base p hp a ha).2.1,
    fun p hp a ha => ⟨(o.base p hp a ha).1, Nat.lt_of_lt_of_le (o.base p hp a ha).2.1 hs, (o.base p hp a ha).2.2⟩⟩
theorem OwnPuts.ext {lo : Nat} {h h' : Hp} {t : Sl} {L : List ((Int × Sl) × List UInt8)} (o : OwnPuts lo h t L) (e : Ext h h') : OwnPuts lo h' t L := o.eq e.size fun b _ hb => e.block b hb
theorem OwnPuts.weak {lo lo' : Nat} {h : Hp} {t : Sl} {L : List ((Int × Sl) × List UInt8)} (o : OwnPuts lo h t L) (hl : lo' ≤ lo) : OwnPuts lo' h t L :=
  ⟨o.own.weak hl, o.each, fun p hp a ha => ⟨Nat.le_trans hl (o.base p hp a ha).1, (o.base p hp a ha).2⟩⟩
theorem OwnPuts.puts {lo : Nat} {h : Hp} {t : Sl} {L : List ((Int × Sl) × List UInt8)} (o : OwnPuts lo h t L) : PutsR (fun b => lo ≤ b ∧ b < h.size) h t (plP L) :=
  ⟨L, rfl, o.own.toRd, fun a ha _ => o.own.lt ha, fun x hx => ⟨o.each x hx, fun a ha _ => ⟨(o.base x hx a ha).1, (o.base x hx a ha).2.1⟩⟩⟩
/-- one Put more. -/
theorem OwnPuts.push {lo e ty : Nat} {h : Hp} {t u : Sl} {L : List ((Int × Sl) × List UInt8)} {n : Int} {l : List UInt8} {zc : Array Value} {K : Sl → Hp → Prop} (hz : zc.size = 2) (o : OwnPuts lo h t L) (hlo : lo ≤ h.size) (ru : Rd 1 h u (l.map bv))
    (bu : ∀ a, u.base = some a → lo ≤ a.block ∧ a.block < h.size ∧ ∀ a', t.base = some a' → a.block ≠ a'.block) (hb : L.length ≤ 1000000000)
    (hK : ∀ r h', OwnPuts lo h' r (L ++ [((n, u), l)]) → r.len = L.length + 1 → Keep lo h h' → (∀ b, b < h.size → (∀ a, t.base = some a → b ≠ a.block) → h'[b]? = h[b]?) → (∀ a, r.base = some a → t.base = some a ∨ h.size ≤ a.block) → K r h') :
    AppC e 2 32 zc t (Sl.mk (some (nw h)) 1 1) (alc h [.int .i64 n, .slice u.base u.len u.cap] ty) K := by
  have hlen := o.len
  refine AppC_own5 (news := [.int .i64 n, slV u]) (l := c2 (L.map (·.1))) hz (o.own.ext (alc_ext h _ ty)) (by rw [size_alc]; omega) rfl (RdC.alc h _ ty) (fun v hv => by simp at hv; rcases hv with rfl | rfl <;> rfl) (by rw [hlen]; simp only; omega) (by rw [hlen]; simp only; omega) fun r h' o' l' k' x' b' => ?_
  have s2 : (alc h [.int .i64 n, .slice u.base u.len u.cap] ty).size = h.size + 1 := size_alc _ _ _
  have same : ∀ b, b < h.size → (∀ a, t.base = some a → b ≠ a.block) → h'[b]? = h[b]? := fun b hb hne => by rw [x' b (by omega) hne, alc_old _ _ _ hb]
  have kp : Keep lo h h' := ⟨by have := k'.size; omega, fun b hb => by rw [k'.block b hb, alc_old _ _ _ (by omega)]⟩
  have hsz := kp.size
  have hrb : ∀ a', r.base = some a' → t.base = some a' ∨ h.size ≤ a'.block := fun a' ha' => by
    rcases b' a' ha' with h | h
    · exact .inl h
    · exact .inr (by omega)
  refine hK r h' ⟨?_, fun p hp => ?_, fun p hp a ha => ?_⟩ (by rw [l', hlen]) kp same hrb
  · rw [List.map_append, c2_append]; exact o'
  · rcases List.mem_append.1 hp with hp | hp
    · exact (o.each p hp).eq fun a ha => same _ (o.base p hp a ha).2.1 (o.base p hp a ha).2.2
    · simp only [List.mem_cons, List.not_mem_nil, or_false] at hp
      subst hp
      exact ru.eq fun a ha => same _ (bu a ha).2.1 (bu a ha).2.2
  · have q : lo ≤ a.block ∧ a.block < h.size ∧ ∀ a', t.base = some a' → a.block ≠ a'.block := by
      rcases List.mem_append.1 hp with hp | hp
      · exact o.base p hp a ha
      · simp only [List.mem_cons, List.not_mem_nil, or_false] at hp
        subst hp; exact bu a ha
    refine ⟨q.1, by omega, fun a' ha' => ?_⟩
    rcases hrb a' ha' with h | h
    · exact q.2.2 a' h
    · omega

/-- a slice of transactions of one's own; what it says stands in other blocks of B. -/
structure OwnTxs (lo : Nat) (B : Nat → Prop) (h : Hp) (t : Sl) (L : List ((Int × Sl) × List PutD)) : Prop where
  own : Own lo 2 h t (c2 (L.map (·.1)))
  each : ∀ x ∈ L, PutsR B h x.1.2 x.2
  apart : ∀ a, t.base = some a → ¬ B a.block
def plT (L : List ((Int × Sl) × List PutD)) : List TxD := L.map fun x => (x.1.1, x.2)
theorem OwnTxs.nil (lo : Nat) (B : Nat → Prop) (h : Hp) : OwnTxs lo B h Sl.nil [] := ⟨Own.nil _ _ _, fun p hp => by simp at hp, fun a ha => (by cases ha)⟩
theorem OwnTxs.len {lo : Nat} {B : Nat → Prop} {h : Hp} {t : Sl} {L : List ((Int × Sl) × List PutD)} (o : OwnTxs lo B h t L) : t.len = L.length := by
  have := o.own.len; rw [c2_length] at this; simp at this; omega
theorem OwnTxs.ext {lo : Nat} {B : Nat → Prop} {h h' : Hp} {t : Sl} {L : List ((Int × Sl) × List PutD)} (o : OwnTxs lo B h t L) (e : Ext h h') : OwnTxs lo B h' t L := ⟨o.own.ext e, fun x hx => (o.each x hx).ext e, o.apart⟩
theorem OwnTxs.mono {lo : Nat} {B B' : Nat → Prop} {h : Hp} {t : Sl} {L : List ((Int × Sl) × List PutD)} (o : OwnTxs lo B h t L) (hb : ∀ b, B b → B' b) (ha : ∀ a, t.base = some a → ¬ B' a.block) : OwnTxs lo B' h t L := ⟨o.own, fun x hx => (o.each x hx).mono hb, ha⟩
theorem OwnTxs.txs {lo : Nat} {B : Nat → Prop} {h : Hp} {t : Sl} {L : List ((Int × Sl) × List PutD)} (o : OwnTxs lo B h t L) {B' : Nat → Prop} (hb : ∀ b, B b → B' b) (ht : ∀ b, lo ≤ b → b < h.size → B' b) : TxsR B' h t (plT L) :=
  ⟨L, rfl, o.own.toRd, fun a ha _ => ht _ (o.own.lt ha).1 (o.own.lt ha).2, fun x hx => (o.each x hx).mono hb⟩
/-- one transaction more, out of a block made for it. -/
theorem OwnTxs.push {lo e ty : Nat} {B : Nat → Prop} {h : Hp} {t u : Sl} {L : List ((Int × Sl) × List PutD)} {n : Int} {P : List PutD} {zc : Array Value} {K : Sl → Hp → Prop} (hz : zc.size = 2) (o : OwnTxs lo B h t L) (hB : ∀ b, B b → b < h.size) (hlo : lo ≤ h.size) (pu : PutsR B h u P)
    (hb : L.length ≤ 1000000000)
    (hK : ∀ r h', OwnTxs lo B h' r (L ++ [((n, u), P)]) → r.len = L.length + 1 → Keep lo h h' → (∀ b, b < h.size → (∀ a, t.base = some a → b ≠ a.block) → h'[b]? = h[b]?) → (∀ a, r.base = some a → t.base = some a ∨ h.size ≤ a.block) → K r h') :
    AppC e 2 32 zc t (Sl.mk (some (nw h)) 1 1) (alc h [.int .i64 n, .slice u.base u.len u.cap] ty) K := by
  have hlen := o.len
  refine AppC_own5 (news := [.int .i64 n, slV u]) (l := c2 (L.map (·.1))) hz (o.own.ext (alc_ext h _ ty)) (by rw [size_alc]; omega) rfl (RdC.alc h _ ty) (fun v hv => by simp at hv; rcases hv with rfl | rfl <;> rfl) (by rw [hlen]; simp only; omega) (by rw [hlen]; simp only; omega) fun r h' o' l' k' x' b' => ?_
  have s2 : (alc h [.int .i64 n, .slice u.base u.len u.cap] ty).size = h.size + 1 := size_alc _ _ _
  have same : ∀ b, b < h.size → (∀ a, t.base = some a → b ≠ a.block) → h'[b]? = h[b]? := fun b hb hne => by rw [x' b (by omega) hne, alc_old _ _ _ hb]
  have kp : Keep lo h h' := ⟨by have := k'.size; omega, fun b hb => by rw [k'.block b hb, alc_old _ _ _ (by omega)]⟩
  have hrb : ∀ a', r.base = some a' → t.base = some a' ∨ h.size ≤ a'.block := fun a' ha' => by
    rcases b' a' ha' with h | h
    · exact .inl h
    · exact .inr (by omega)
  have eqB : ∀ b, B b → h'[b]? = h[b]? := fun b hb => same b (hB b hb) fun a ha e => o.apart a ha (e ▸ hb)
  refine hK r h' ⟨?_, fun p hp => ?_, fun a ha hba => ?_⟩ (by rw [l', hlen]) kp same hrb
  · rw [List.map_append, c2_append]; exact o'
  · rcases List.mem_append.1 hp with hp | hp
    · exact (o.each p hp).eq eqB
    · simp only [List.mem_cons, List.not_mem_nil, or_false] at hp
      subst hp
      exact pu.eq eqB
  · rcases hrb a ha with h | h
    · exact o.apart a h hba
    · have := hB _ hba; omega

end Go.Proofs.Ytehhkjgcklhfcaa

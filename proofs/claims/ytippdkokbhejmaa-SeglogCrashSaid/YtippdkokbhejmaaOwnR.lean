/-
  Slices of slices of bytes that the call owns; roles of blocks.
-/
import Derived.Test.YtippdkokbhejmaaSlices
import Derived.Test.YtippdkokbhejmaaRow
namespace Go.Proofs.Ytippdkokbhejmaa
set_option linter.unusedVariables false
set_option linter.unusedSimpArgs false

/-- rows of bytes in a slice of one's own, each somewhere else. -/
structure OwnRows (lo : Nat) (h : Hp) (t : Sl) (rows : List (Sl × List UInt8)) : Prop where
  own : Own lo 1 h t (rows.map fun p => slV p.1)
  each : ∀ p ∈ rows, Rd 1 h p.1 (p.2.map bv)
  base : ∀ p ∈ rows, ∀ a, p.1.base = some a → lo ≤ a.block ∧ a.block < h.size ∧ ∀ a', t.base = some a' → a.block ≠ a'.block
theorem OwnRows.nil (lo : Nat) (h : Hp) : OwnRows lo h Sl.nil [] := ⟨Own.nil _ _ _, fun p hp => by simp at hp, fun p hp => by simp at hp⟩
theorem OwnRows.len {lo : Nat} {h : Hp} {t : Sl} {rows : List (Sl × List UInt8)} (o : OwnRows lo h t rows) : t.len = rows.length := by
  have := o.own.len; simpa using this.symm
theorem Rd.eq {sz : Nat} {h h' : Hp} {s : Sl} {l : List Value} (r : Rd sz h s l) (e : ∀ a, s.base = some a → h'[a.block]? = h[a.block]?) : Rd sz h' s l := ⟨r.len, r.cap, r.rd.eq e⟩
theorem OwnRows.eq {lo : Nat} {h h' : Hp} {t : Sl} {rows : List (Sl × List UInt8)} (o : OwnRows lo h t rows) (hs : h.size ≤ h'.size) (e : ∀ b, lo ≤ b → b < h.size → h'[b]? = h[b]?) : OwnRows lo h' t rows :=
  ⟨o.own.eq fun a ha => e _ (o.own.lt ha).1 (o.own.lt ha).2, fun p hp => (o.each p hp).eq fun a ha => e _ (o.base p hp a ha).1 (o.base p hp a ha).2.1,
    fun p hp a ha => ⟨(o.base p hp a ha).1, Nat.lt_of_lt_of_le (o.base p hp a ha).2.1 hs, (o.base p hp a ha).2.2⟩⟩
theorem OwnRows.ext {lo : Nat} {h h' : Hp} {t : Sl} {rows : List (Sl × List UInt8)} (o : OwnRows lo h t rows) (e : Ext h h') : OwnRows lo h' t rows := o.eq e.size fun b _ hb => e.block b hb
theorem OwnRows.weak {lo lo' : Nat} {h : Hp} {t : Sl} {rows : List (Sl × List UInt8)} (o : OwnRows lo h t rows) (hl : lo' ≤ lo) : OwnRows lo' h t rows :=
  ⟨o.own.weak hl, o.each, fun p hp a ha => ⟨Nat.le_trans hl (o.base p hp a ha).1, (o.base p hp a ha).2⟩⟩
theorem slV_ok (s : Sl) : cellOk (slV s) = true := rfl
/-- one row more, which was just made, and whose slice stands in a block made for it. -/
theorem OwnRows.push1 {lo e ty by_ : Nat} {h h1 : Hp} {t u : Sl} {rows : List (Sl × List UInt8)} {l : List UInt8} {zc : Array Value} {K : Sl → Hp → Prop} (hz : zc.size = 1) (o : OwnRows lo h t rows) (hlo : lo ≤ h.size) (e1 : Ext h h1) (ou : Own h.size 1 h1 u (l.map bv))
    (hb : (rows.length + 1) * by_ ≤ 140737488355328) (hK : ∀ r h', OwnRows lo h' r (rows ++ [(u, l)]) → r.len = rows.length + 1 → Keep lo h h' → (∀ b, b < h1.size → (∀ a, t.base = some a → b ≠ a.block) → h'[b]? = h1[b]?) → (∀ a, r.base = some a → t.base = some a ∨ h1.size ≤ a.block) → K r h')
    (hby : 1 ≤ by_) : AppC e 1 by_ zc t (Sl.mk (some (nw h1)) 1 1) (alc h1 [slV u] ty) K := by
  have hlen := o.len
  have hle : (rows.length + 1) * 1 ≤ (rows.length + 1) * by_ := Nat.mul_le_mul_left _ hby
  have ot := o.own.ext e1
  refine AppC_own5 (news := [slV u]) (l := rows.map fun p => slV p.1) hz (ot.ext (alc_ext h1 [slV u] ty)) (by rw [size_alc]; have := e1.size; omega) rfl (RdC.alc h1 _ ty) (fun v hv => by simp at hv; subst hv; rfl) (by rw [hlen]; simpa using hb) (by rw [hlen]; simp; omega) fun r h' o' l' k' x' b' => ?_
  have hsz := e1.size
  have s2 : (alc h1 [slV u] ty).size = h1.size + 1 := size_alc _ _ _
  have same : ∀ b, b < h1.size → (∀ a, t.base = some a → b ≠ a.block) → h'[b]? = h1[b]? := fun b hb hne => by
    rw [x' b (by omega) hne, alc_old _ _ _ hb]
  have kp : Keep lo h h' := ⟨by have := k'.size; omega, fun b hb => by
    rw [k'.block b hb, alc_old _ _ _ (by omega), e1.block b (by omega)]⟩
  refine hK r h' ⟨by simpa using o', ?_, ?_⟩ (by rw [l', hlen]) kp same (fun a ha => by
    rcases b' a ha with h | h
    · exact .inl h
    · exact .inr (by omega))
  · intro p hp
    rcases List.mem_append.1 hp with hp | hp
    · exact ((o.each p hp).ext e1).eq fun a ha => same _ (by have := (o.base p hp a ha).2.1; omega) (o.base p hp a ha).2.2
    · simp only [List.mem_cons, List.not_mem_nil, or_false] at hp
      subst hp
      exact ou.toRd.eq fun a ha => same _ (ou.lt ha).2 fun a' ha' => by
        have := (ou.lt ha).1
        have := (o.own.lt ha').2
        omega
  · intro p hp a ha
    have hlt : ∀ a', r.base = some a' → t.base = some a' ∨ h1.size ≤ a'.block := fun a' ha' => by
      rcases b' a' ha' with h | h
      · exact .inl h
      · exact .inr (by omega)
    have hsz' := k'.size
    rcases List.mem_append.1 hp with hp | hp
    · obtain ⟨q1, q2, q3⟩ := o.base p hp a ha
      refine ⟨q1, by omega, fun a' ha' => ?_⟩
      rcases hlt a' ha' with h | h
      · exact q3 a' h
      · omega
    · simp only [List.mem_cons, List.not_mem_nil, or_false] at hp
      subst hp
      obtain ⟨q1, q2⟩ := ou.lt ha
      refine ⟨by omega, by omega, fun a' ha' => ?_⟩
      rcases hlt a' ha' with h | h
      · have := (o.own.lt h).2; omega
      · omega
theorem OwnRows.push {lo e ty by_ : Nat} {h h1 : Hp} {t u : Sl} {rows : List (Sl × List UInt8)} {l : List UInt8} {zc : Array Value} {K : Sl → Hp → Prop} (hz : zc.size = 1) (o : OwnRows lo h t rows) (hlo : lo ≤ h.size) (e1 : Ext h h1) (ou : Own h.size 1 h1 u (l.map bv))
    (hb : (rows.length + 1) * by_ ≤ 140737488355328) (hK : ∀ r h', OwnRows lo h' r (rows ++ [(u, l)]) → r.len = rows.length + 1 → Keep lo h h' → (∀ b, b < h.size → (∀ a, t.base = some a → b ≠ a.block) → h'[b]? = h[b]?) → (∀ a, r.base = some a → t.base = some a ∨ h1.size ≤ a.block) → K r h')
    (hby : 1 ≤ by_) : AppC e 1 by_ zc t (Sl.mk (some (nw h1)) 1 1) (alc h1 [slV u] ty) K :=
  o.push1 hz hlo e1 ou hb (fun r h' a b c d f => hK r h' a b c (fun k hk hne => by rw [d k (Nat.lt_of_lt_of_le hk e1.size) hne, e1.block k hk]) f) hby
/-- reading one of the rows' slices. -/
theorem ixS {h : Hp} {s : Sl} {rows : List (Sl × List UInt8)} (hr : RdC h s.base (rows.map fun p => slV p.1)) (hl : s.len = rows.length) {i : Int} (k : Nat) (hi : i = k) (hk : k < rows.length) {K : Sl → Prop}
    (hK : K rows[k].1) : ∃ a : Addr, s.base = some a ∧ 0 ≤ i ∧ i < (s.len : Int) ∧ ∃ c : Sl, hcell h (a.add (i.toNat * 1)) = some (.slice c.base c.len c.cap) ∧ K c :=
  ix1 hr (by simpa using hl.symm) k hi (by simpa using hk) fun a _ hc => ⟨rows[k].1, by simpa [slV] using hc, hK⟩

/-- a heap that has one block alone. -/
def onlyB (c : Nat) (o : Obj) : Hp := (Array.replicate c (.cells #[] 0 (0, 0))).push o
theorem onlyB_at (c : Nat) (o : Obj) : (onlyB c o)[c]? = some o := by unfold onlyB; rw [Array.getElem?_push]; simp
theorem sub_only {c : Nat} {ob : Obj} {h' : Hp} (hb : h'[c]? = some ob) : Sub (onlyB c ob) h' := by
  intro a v hc
  by_cases e : a.block = c
  · rw [← hc]; exact hcell_eq (by rw [e, hb, onlyB_at])
  · exfalso
    by_cases lt : a.block < c
    · have : (onlyB c ob)[a.block]? = some (.cells #[] 0 (0, 0)) := by simp [onlyB, Array.getElem?_push, e, lt]
      simp [hcell, hw, World.cell?, this] at hc
    · have : (onlyB c ob)[a.block]? = none := by simp [onlyB, Array.getElem?_push, e, lt]
      simp [hcell, hw, World.cell?, this] at hc
theorem Row.only {h : Hp} {b : Nat} {l : List Value} (x : Row h b l) : ∃ ob, h[b]? = some ob ∧ Row (onlyB b ob) b l := by
  obtain ⟨e, he⟩ := x
  exact ⟨_, he, e, onlyB_at _ _⟩
theorem add0 (b : Nat) : (⟨b, 0, none⟩ : Addr).add 0 = ⟨b, 0, none⟩ := by rw [add_none]
theorem Row.set0 {h : Hp} {b : Nat} {l : List Value} (x : Row h b l) (hi : 0 < l.length) (v : Value) :
    StOk h ⟨b, 0, none⟩ ∧ Row (hset h ⟨b, 0, none⟩ v) b (l.set 0 v) ∧ (∀ k, k ≠ b → (hset h ⟨b, 0, none⟩ v)[k]? = h[k]?) ∧ (hset h ⟨b, 0, none⟩ v).size = h.size := by
  have := x.set hi v
  rwa [add0] at this

/-! ### Roles -/
/-- blocks with a role may have changed; all others are as they were. -/
structure Chg (F : Nat → Nat) (h h' : Hp) : Prop where
  size : h.size ≤ h'.size
  block : ∀ b, b < h.size → F b = 0 → h'[b]? = h[b]?
theorem Chg.refl (F : Nat → Nat) (h : Hp) : Chg F h h := ⟨Nat.le_refl _, fun _ _ _ => rfl⟩
theorem Ext.chg {h h' : Hp} (e : Ext h h') (F : Nat → Nat) : Chg F h h' := ⟨e.size, fun b hb _ => e.block b hb⟩
theorem Chg.trans {F G : Nat → Nat} {a b c : Hp} (x : Chg F a b) (g : ∀ k, k < a.size → G k = F k) (y : Chg G b c) : Chg F a c :=
  ⟨Nat.le_trans x.size y.size, fun k hk hF => (y.block k (Nat.lt_of_lt_of_le hk x.size) (by rw [g k hk]; exact hF)).trans (x.block k hk hF)⟩
/-- nothing of an older heap has a role. -/
theorem Chg.ext {F : Nat → Nat} {h0 h h' : Hp} (x : Chg F h h') (e : Ext h0 h) (hF : ∀ b, b < h0.size → F b = 0) : Ext h0 h' :=
  ⟨Nat.le_trans e.size x.size, fun b hb => (x.block b (Nat.lt_of_lt_of_le hb e.size) (hF b hb)).trans (e.block b hb)⟩
/-- a role for a block that is new, or has it. -/
theorem addF {F : Nat → Nat} {n : Nat} (hd : ∀ b, F b ≠ 0 → b < n) (o : Option Addr) (r : Nat) (hr : r ≠ 0) (ho : ∀ a, o = some a → n ≤ a.block ∨ F a.block = r) :
    ∃ F' : Nat → Nat, (∀ b, b < n → F' b = F b) ∧ (∀ a, o = some a → F' a.block = r) ∧ (∀ b, F' b ≠ 0 → F b ≠ 0 ∨ ∃ a, o = some a ∧ a.block = b) ∧ (∀ b, F b ≠ 0 → F' b = F b) := by
  refine ⟨fun b => if b < n then F b else if o.map (·.block) = some b then r else 0, fun b hb => if_pos hb, fun a ha => ?_, fun b hb => ?_, fun b hb => if_pos (hd b hb)⟩
  · subst ha
    simp only [Option.map_some]
    rcases ho a rfl with h | h
    · rw [if_neg (by omega)]; simp
    · rw [if_pos (hd _ (by rw [h]; exact hr))]; exact h
  · simp only at hb
    split at hb
    · exact .inl hb
    · split at hb
      · rename_i h
        obtain ⟨a, ha, hab⟩ := Option.map_eq_some_iff.1 h
        exact .inr ⟨a, ha, hab⟩
      · exact absurd rfl hb

/-- a copy in a block of its own. -/
theorem loc2 {h : Hp} {K : Hp → Prop} {v0 v1 w0 w1 : Value} {t : Nat} (ok0 : cellOk v0 = true) (ok1 : cellOk v1 = true)
    (hK : ∀ h', Ext h h' → Row h' h.size [v0, v1] → K h') : stCells (nw h) 0 [v0, v1] (alc h [w0, w1] t) K :=
  (Row.alc h [w0, w1] t).put (vs := [v0, v1]) rfl (by simp [ok0, ok1]) fun h' r' s' o' => hK h' ⟨by rw [s', size_alc]; omega, fun b hb => by rw [o' b (by omega), alc_old _ _ _ hb]⟩ r'

end Go.Proofs.Ytippdkokbhejmaa

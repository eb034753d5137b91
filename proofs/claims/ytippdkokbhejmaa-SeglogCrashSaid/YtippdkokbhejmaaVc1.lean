/-
  The first part of a reckoner of verification conditions: the model's steps said of heaps alone, typed values, and the conditions of each operation. Nothing here is of one program.
-/
import Derived.WalkKit
import Derived.Scope
import Derived.OrdersHeld
import Derived.KernelRfl
import Derived.Deep.LoopGhost
namespace Go.Proofs.Ytippdkokbhejmaa
set_option linter.unusedVariables false
set_option linter.unusedSimpArgs false

abbrev Hp := Array Obj

/-- a world that has this heap. -/
def hw (h : Hp) : World := { (default : World) with heap := h }
def hcell (h : Hp) (a : Addr) : Option Value := (hw h).cell? a
def hfroz (h : Hp) (a : Addr) : Bool := (hw h).frozen? a
def hset (h : Hp) (a : Addr) (v : Value) : Hp := ((hw h).setCell a v).heap
def hmark (h : Hp) (a : Addr) (n : Nat) : Hp := ((hw h).freeze a n).heap
def hshape (h : Hp) (r : Nat) : Option (TypeId × Nat) := (hw h).shape? r

theorem hcell_heap (w : World) (a : Addr) : w.cell? a = hcell w.heap a := rfl
theorem hfroz_heap (w : World) (a : Addr) : w.frozen? a = hfroz w.heap a := rfl
theorem hset_heap (w : World) (a : Addr) (v : Value) : (w.setCell a v).heap = hset w.heap a v := rfl
theorem hmark_heap (w : World) (a : Addr) (n : Nat) : (w.freeze a n).heap = hmark w.heap a n := by
  unfold hmark World.freeze; split <;> rfl
theorem hshape_heap (w : World) (r : Nat) : w.shape? r = hshape w.heap r := rfl

/-- all but the heap and the count of draws is as it was. -/
structure Same (w w' : World) : Prop where
  os : w'.os = w.os
  tape : w'.tape = w.tape
  output : w'.output = w.output
theorem Same.refl (w : World) : Same w w := ⟨rfl, rfl, rfl⟩
theorem Same.trans {a b c : World} (h : Same a b) (g : Same b c) : Same a c := ⟨g.os.trans h.os, g.tape.trans h.tape, g.output.trans h.output⟩
theorem Same.freeze (w : World) (a : Addr) (n : Nat) : Same w (w.freeze a n) := by
  unfold World.freeze; split <;> exact ⟨rfl, rfl, rfl⟩

/-- what a step of the model does, said of the heap: whatever is drawn. -/
def hrun (P : Program) {α : Type} : Sem α → Hp → (α → Hp → Prop) → Prop
  | .pure a, h, K => K a h
  | .load _ a k, h, K => match hcell h a with | some v => hrun P (k v) h K | none => False
  | .store _ _ (.agg _) _, _, _ | .store _ _ (.tuple _) _, _, _ => False
  | .store _ a v k, h, K => (hcell h a).isSome = true ∧ hfroz h a = false ∧ hrun P k (hset h a v) K
  | .new o k, h, K => hrun P (k h.size) (h.push o) K
  | .shape r k, h, K => hrun P (k (hshape h r)) h K
  | .freeze a n k, h, K => hrun P k (hmark h a n) K
  | .frozen a k, h, K => hrun P (k (hfroz h a)) h K
  | .getObj _ _, _, _ => False
  | .setObj _ _ _, _, _ => False
  | .choose q k, h, K => ∀ t : Nat, hrun P (k (if q.forced then 0 else q.cut t)) h K
  | .sys _ _, _, _ => False
  | .program k, h, K => hrun P (k P) h K
  | .mark _ k, h, K => hrun P k h K
  | .halt _, _, _ => False

theorem hrun_sound {P : Program} {α : Type} (s : Sem α) : ∀ (w : World) (K : α → Hp → Prop), hrun P s w.heap K →
    ∃ a w', s.run P w = .ok a w' ∧ Same w w' ∧ K a w'.heap := by
  induction s with
  | pure a => exact fun w K h => ⟨a, w, rfl, .refl w, h⟩
  | load m a k ih =>
    intro w K h
    simp only [hrun] at h
    split at h
    · rename_i v hv
      obtain ⟨b, w', hr, hs, hk⟩ := ih v w K h
      exact ⟨b, w', by simp only [Sem.run, hcell_heap, hv]; exact hr, hs, hk⟩
    · exact h.elim
  | store m a v k ih =>
    intro w K h
    have hh : (hcell w.heap a).isSome = true ∧ hfroz w.heap a = false ∧ hrun P k (hset w.heap a v) K ∧ (∀ c, v ≠ .agg c) ∧ (∀ c, v ≠ .tuple c) := by
      cases v <;> first | exact (h : False).elim | (obtain ⟨h1, h2, h3⟩ := h; exact ⟨h1, h2, h3, by simp, by simp⟩)
    obtain ⟨h1, h2, h3, h4, h5⟩ := hh
    obtain ⟨u, hu⟩ := Option.isSome_iff_exists.1 h1
    obtain ⟨b, w', hr, hs, hk⟩ := ih (w.setCell a v) K h3
    refine ⟨b, w', ?_, (Same.mk rfl rfl rfl : Same w (w.setCell a v)).trans hs, hk⟩
    cases v <;> first | exact absurd rfl (h4 _) | exact absurd rfl (h5 _) | (simp only [Sem.run, hcell_heap, hu, hfroz_heap, h2]; exact hr)
  | new o k ih =>
    intro w K h
    obtain ⟨b, w', hr, hs, hk⟩ := ih w.heap.size { w with heap := w.heap.push o } K h
    exact ⟨b, w', hr, (Same.mk rfl rfl rfl : Same w { w with heap := w.heap.push o }).trans hs, hk⟩
  | shape r k ih =>
    intro w K h
    exact ih _ w K h
  | freeze a n k ih =>
    intro w K h
    obtain ⟨b, w', hr, hs, hk⟩ := ih (w.freeze a n) K (by rw [hmark_heap]; exact h)
    exact ⟨b, w', hr, (Same.freeze w a n).trans hs, hk⟩
  | frozen a k ih =>
    intro w K h
    exact ih _ w K h
  | getObj => exact fun _ _ h => (h : False).elim
  | setObj => exact fun _ _ h => (h : False).elim
  | choose q k ih =>
    intro w K h
    have h' := h (w.tape w.drawn q)
    by_cases hf : q.forced = true
    · rw [if_pos hf] at h'
      obtain ⟨b, w', hr, hs, hk⟩ := ih _ w K h'
      exact ⟨b, w', by simp only [Sem.run, hf, if_true]; exact hr, hs, hk⟩
    · rw [if_neg hf] at h'
      obtain ⟨b, w', hr, hs, hk⟩ := ih _ { w with drawn := w.drawn + 1 } K h'
      exact ⟨b, w', by simp only [Sem.run, hf]; exact hr, (Same.mk rfl rfl rfl : Same w { w with drawn := w.drawn + 1 }).trans hs, hk⟩
  | sys => exact fun _ _ h => (h : False).elim
  | program k ih => exact fun w K h => ih P w K h
  | mark m k ih => exact fun w K h => ih w K h
  | halt => exact fun _ _ h => (h : False).elim

theorem hrun_mono {P : Program} {α : Type} (s : Sem α) : ∀ (h : Hp) (K K' : α → Hp → Prop), (∀ a h, K a h → K' a h) → hrun P s h K → hrun P s h K' := by
  induction s with
  | pure a => exact fun h K K' hk H => hk _ _ H
  | load m a k ih => intro h K K' hk H; simp only [hrun] at H ⊢; split at H; (exact ih _ _ _ _ hk H); (exact H.elim)
  | store m a v k ih => intro h K K' hk H; cases v <;> first | exact (H : False).elim | exact ⟨H.1, H.2.1, ih _ _ _ hk H.2.2⟩
  | new o k ih => exact fun h K K' hk H => ih _ _ _ _ hk H
  | shape r k ih => exact fun h K K' hk H => ih _ _ _ _ hk H
  | freeze a n k ih => exact fun h K K' hk H => ih _ _ _ hk H
  | frozen a k ih => exact fun h K K' hk H => ih _ _ _ _ hk H
  | getObj => exact fun _ _ _ _ h => (h : False).elim
  | setObj => exact fun _ _ _ _ h => (h : False).elim
  | choose q k ih => exact fun h K K' hk H t => ih _ _ _ _ hk (H t)
  | sys => exact fun _ _ _ _ h => (h : False).elim
  | program k ih => exact fun h K K' hk H => ih _ _ _ _ hk H
  | mark m k ih => exact fun h K K' hk H => ih _ _ _ hk H
  | halt => exact fun _ _ _ _ h => (h : False).elim

theorem hrun_bind {P : Program} {α β : Type} (s : Sem α) (f : α → Sem β) : ∀ (h : Hp) (K : β → Hp → Prop), hrun P s h (fun a h' => hrun P (f a) h' K) → hrun P (s >>= f) h K := by
  show ∀ (h : Hp) (K : β → Hp → Prop), hrun P s h (fun a h' => hrun P (f a) h' K) → hrun P (s.bind f) h K
  induction s with
  | pure a => exact fun h K H => H
  | load m a k ih => intro h K H; simp only [hrun, Sem.bind] at H ⊢; split at H; (exact ih _ _ _ H); (exact H.elim)
  | store m a v k ih => intro h K H; cases v <;> first | exact (H : False).elim | exact ⟨H.1, H.2.1, ih _ _ H.2.2⟩
  | new o k ih => exact fun h K H => ih _ _ _ H
  | shape r k ih => exact fun h K H => ih _ _ _ H
  | freeze a n k ih => exact fun h K H => ih _ _ H
  | frozen a k ih => exact fun h K H => ih _ _ _ H
  | getObj => exact fun _ _ h => (h : False).elim
  | setObj => exact fun _ _ h => (h : False).elim
  | choose q k ih => exact fun h K H t => ih _ _ _ (H t)
  | sys => exact fun _ _ h => (h : False).elim
  | program k ih => exact fun h K H => ih _ _ _ H
  | mark m k ih => exact fun h K H => ih _ _ H
  | halt => exact fun _ _ h => (h : False).elim

/-- a step that only reads cells: its value, in every heap that has these cells. -/
def prun (P : Program) {α : Type} : Sem α → Hp → (α → Prop) → Prop
  | .pure a, _, K => K a
  | .load _ a k, h, K => match hcell h a with | some v => prun P (k v) h K | none => False
  | .program k, h, K => prun P (k P) h K
  | .mark _ k, h, K => prun P k h K
  | _, _, _ => False

/-- the heap has grown, and what was there is as it was. -/
structure Ext (h h' : Hp) : Prop where
  size : h.size ≤ h'.size
  block : ∀ b, b < h.size → h'[b]? = h[b]?
theorem Ext.refl (h : Hp) : Ext h h := ⟨Nat.le_refl _, fun _ _ => rfl⟩
theorem Ext.trans {a b c : Hp} (h : Ext a b) (g : Ext b c) : Ext a c := ⟨Nat.le_trans h.size g.size, fun k hk => (g.block k (Nat.lt_of_lt_of_le hk h.size)).trans (h.block k hk)⟩
theorem Ext.push (h : Hp) (o : Obj) : Ext h (h.push o) := ⟨by simp, fun b hb => by simp [Array.getElem?_push, Nat.ne_of_lt hb]⟩
theorem Ext.cell {h h' : Hp} (e : Ext h h') {a : Addr} {v : Value} (hc : hcell h a = some v) : hcell h' a = some v := by
  have hlt : a.block < h.size := World.block_lt_of_cell? (hw h) a hc
  unfold hcell World.cell? at *
  have := e.block a.block hlt
  simp only [hw] at *
  rw [this]; exact hc

/-- what can be read there can be read here. -/
def Sub (h h' : Hp) : Prop := ∀ (a : Addr) (v : Value), hcell h a = some v → hcell h' a = some v
theorem Ext.sub {h h' : Hp} (e : Ext h h') : Sub h h' := fun _ _ hc => e.cell hc
theorem prun_sound {P : Program} {α : Type} (s : Sem α) : ∀ (h : Hp) (K : α → Prop), prun P s h K → ∃ a, K a ∧ ∀ w : World, Sub h w.heap → s.run P w = .ok a w := by
  induction s with
  | pure a => exact fun h K H => ⟨a, H, fun _ _ => rfl⟩
  | load m a k ih =>
    intro h K H
    simp only [prun] at H
    split at H
    · rename_i v hv
      obtain ⟨b, hk, hr⟩ := ih _ _ _ H
      exact ⟨b, hk, fun w e => by simp only [Sem.run, hcell_heap, e _ _ hv]; exact hr w e⟩
    · exact H.elim
  | program k ih => exact fun h K H => let ⟨b, hk, hr⟩ := ih _ _ _ H; ⟨b, hk, fun w e => hr w e⟩
  | mark m k ih => exact fun h K H => let ⟨b, hk, hr⟩ := ih _ _ H; ⟨b, hk, fun w e => hr w e⟩
  | _ => exact fun _ _ h => (h : False).elim

theorem prun_mono {P : Program} {α : Type} (s : Sem α) : ∀ (h : Hp) (K K' : α → Prop), (∀ a, K a → K' a) → prun P s h K → prun P s h K' := by
  induction s with
  | pure a => exact fun h K K' hk H => hk _ H
  | load m a k ih => intro h K K' hk H; simp only [prun] at H ⊢; split at H; (exact ih _ _ _ _ hk H); (exact H.elim)
  | program k ih => exact fun h K K' hk H => ih _ _ _ _ hk H
  | mark m k ih => exact fun h K K' hk H => ih _ _ _ hk H
  | _ => exact fun _ _ _ _ h => (h : False).elim

theorem prun_bind {P : Program} {α β : Type} (s : Sem α) (f : α → Sem β) : ∀ (h : Hp) (K : β → Prop), prun P s h (fun a => prun P (f a) h K) → prun P (s >>= f) h K := by
  show ∀ (h : Hp) (K : β → Prop), prun P s h (fun a => prun P (f a) h K) → prun P (s.bind f) h K
  induction s with
  | pure a => exact fun h K H => H
  | load m a k ih => intro h K H; simp only [prun, Sem.bind] at H ⊢; split at H; (exact ih _ _ _ H); (exact H.elim)
  | program k ih => exact fun h K H => ih _ _ _ H
  | mark m k ih => exact fun h K H => ih _ _ H
  | _ => exact fun _ _ h => (h : False).elim

/-! ### Typed values -/
/-- a slice. -/
structure Sl where
  base : Option Addr
  len : Nat
  cap : Nat
def Sl.v (s : Sl) : Value := .slice s.base s.len s.cap
def Sl.nil : Sl := ⟨none, 0, 0⟩

inductive Sh where
  | int (k : IntKind) | bool | sl | ptr | str | val
@[reducible] def Sh.T : Sh → Type
  | .int _ => Int | .bool => Bool | .sl => Sl | .ptr => Option Addr | .str => ByteArray | .val => Value
def Sh.inj : (s : Sh) → s.T → Value
  | .int k, n => .int k n
  | .bool, b => .bool b
  | .sl, s => .slice s.base s.len s.cap
  | .ptr, p => .pointer p
  | .str, s => .string s
  | .val, v => v
def Sh.proj : (s : Sh) → Value → (s.T → Prop) → Prop
  | .int k, .int k' n, f => if k = k' then f n else False
  | .bool, .bool b, f => f b
  | .sl, .slice a l c, f => f ⟨a, l, c⟩
  | .ptr, .pointer p, f => f p
  | .str, .string s, f => f s
  | .val, v, f => f v
  | _, _, _ => False
theorem Sh.proj_spec : ∀ (s : Sh) (v : Value) (f : s.T → Prop), s.proj v f → ∃ x : s.T, v = s.inj x ∧ f x
  | .int k, .int k' n, f, h => by
    simp only [Sh.proj] at h
    split at h
    · rename_i e; subst e; exact ⟨n, rfl, h⟩
    · exact h.elim
  | .bool, .bool b, f, h => ⟨b, rfl, h⟩
  | .sl, .slice a l c, f, h => ⟨⟨a, l, c⟩, rfl, h⟩
  | .ptr, .pointer p, f, h => ⟨p, rfl, h⟩
  | .str, .string s, f, h => ⟨s, rfl, h⟩
  | .val, v, f, h => ⟨v, rfl, h⟩

/-- the shape of a cell, by its zero. -/
def shOf : Value → Sh
  | .int k _ => .int k
  | .bool _ => .bool
  | .slice .. => .sl
  | .pointer _ => .ptr
  | .string _ => .str
  | _ => .val
inductive TyS where
  | one (s : Sh)
  | agg (l : List Sh)
def tyOf : Value → TyS
  | .agg cs => .agg (cs.toList.map shOf)
  | v => .one (shOf v)
def zeroOf (P : Program) (t : TypeId) : Value := ((P.info? t).bind (·.zero)).getD undef
def resTys (P : Program) (t : TypeId) : List TyS :=
  match zeroOf P t with
  | .tuple vs => vs.toList.map tyOf
  | z => [tyOf z]

def exL : List Sh → List Value → (List Value → Prop) → Prop
  | [], acc, K => K acc.reverse
  | s :: l, acc, K => ∃ x : s.T, exL l (s.inj x :: acc) K
theorem exL_spec : ∀ (l : List Sh) (acc : List Value) (K : List Value → Prop), exL l acc K → ∃ vs, K vs
  | [], acc, K, h => ⟨acc.reverse, h⟩
  | s :: l, acc, K, ⟨x, h⟩ => exL_spec l _ K h
def exTy : TyS → (Value → Prop) → Prop
  | .one s, K => ∃ x : s.T, K (s.inj x)
  | .agg l, K => exL l [] (fun vs => K (.agg vs.toArray))
theorem exTy_spec : ∀ (t : TyS) (K : Value → Prop), exTy t K → ∃ v, K v
  | .one _, _, ⟨_, h⟩ => ⟨_, h⟩
  | .agg l, _, h => let ⟨_, h'⟩ := exL_spec l _ _ h; ⟨_, h'⟩
def exTys : List TyS → List Value → (List Value → Prop) → Prop
  | [], acc, K => K acc.reverse
  | t :: l, acc, K => exTy t (fun v => exTys l (v :: acc) K)
theorem exTys_spec : ∀ (l : List TyS) (acc : List Value) (K : List Value → Prop), exTys l acc K → ∃ vs, K vs
  | [], acc, K, h => ⟨acc.reverse, h⟩
  | t :: l, acc, K, h => let ⟨_, h'⟩ := exTy_spec t _ h; exTys_spec l _ K h'

/-! ### Arithmetic, by names -/
def iAdd (k : IntKind) (a b : Int) : Int := k.wrap (a + b)
def iSub (k : IntKind) (a b : Int) : Int := k.wrap (a - b)
def iMul (k : IntKind) (a b : Int) : Int := k.wrap (a * b)
def iQuo (k : IntKind) (a b : Int) : Int := k.wrap (a.tdiv b)
def iRem (a b : Int) : Int := a.tmod b
def iAnd (k : IntKind) (a b : Int) : Int := k.wrap (BitVec.ofInt k.bits a &&& BitVec.ofInt k.bits b).toNat
def iOr (k : IntKind) (a b : Int) : Int := k.wrap (BitVec.ofInt k.bits a ||| BitVec.ofInt k.bits b).toNat
def iXor (k : IntKind) (a b : Int) : Int := k.wrap (BitVec.ofInt k.bits a ^^^ BitVec.ofInt k.bits b).toNat
def iShl (k : IntKind) (a b : Int) : Int := k.wrap (a * 2 ^ (min b.toNat k.bits))
def iShr (k : IntKind) (a b : Int) : Int := a.fdiv (2 ^ (min b.toNat k.bits))
def iNot (k : IntKind) (a : Int) : Int := iXor k (if k.signed then -1 else k.max) a
def iNeg (k : IntKind) (a : Int) : Int := iSub k 0 a
def iConv (k : IntKind) (a : Int) : Int := k.wrap a

/-- two ways. -/
def IfB (b : Bool) (A B : Prop) : Prop := (b = true → A) ∧ (b = false → B)

end Go.Proofs.Ytippdkokbhejmaa

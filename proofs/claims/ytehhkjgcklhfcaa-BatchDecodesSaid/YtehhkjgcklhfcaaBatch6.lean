/-
  batch.Decode.
-/
import Derived.Test.YtehhkjgcklhfcaaBatch5
namespace Go.Proofs.Ytehhkjgcklhfcaa
set_option linter.unusedVariables false
set_option linter.unusedSimpArgs false

def BDecC (B : Nat → Prop) (h' : Hp) (l : List (List UInt8)) (num : Int) (t : Sl) (ep n err : Int) : Prop :=
  ((∀ i, i < l.length → dataOk l i) ∧ err = 14 ∧ num = 0 ∧ t = Sl.nil ∧ ep = 0 ∧ n = 0) ∨
  ((¬ ∃ i nm e T, IsB l i nm e T) ∧ (∃ i, i < l.length ∧ ¬ dataOk l i) ∧ err = 13 ∧ num = 0 ∧ t = Sl.nil ∧ ep = 0 ∧ n = 0) ∨
  (∃ (i nm e : Nat) (T : List TxD), IsB l i nm e T ∧ err = 0 ∧ num = nm ∧ ep = e ∧ n = ((i + 1 : Nat) : Int) ∧ TxsR B h' t T)
def BDecA (h : Hp) (l : List (List UInt8)) (r : Value) (h' : Hp) : Prop :=
  Ext h h' ∧ ∃ (num : Int) (t : Sl) (ep n err : Int), r = .tuple #[.agg #[.int .i64 num, .slice t.base t.len t.cap], .int .i64 ep, .int .i64 n, .int .i64 err] ∧ BDecC (fun b => h.size ≤ b ∧ b < h'.size) h' l num t ep n err
theorem noB {l : List (List UInt8)} {i : Nat} (hd : ∀ k, k < i → dataOk l k) (hn : ¬ dataOk l i) {i' nm e : Nat} {T : List TxD} (b : IsB l i' nm e T) : i' = i := by
  obtain ⟨d1, s1, k1, _⟩ := dec_complete b
  rcases Nat.lt_trichotomy i' i with h | h | h
  · have := (hd i' h).2.2.2; omega
  · exact h
  · exact absurd (d1 i h) hn
theorem BDecode_spec {h : Hp} {s : Sl} {rows : List (Sl × List UInt8)} (w : RowsR h s rows) (hmax : rows.length ≤ 1000000) : HCalls Try.prog fn_batch_Decode #[.slice s.base s.len s.cap] h (BDecA h (rows.map (·.2))) := by
  apply batch_Decode_vc
  unfold vcbatch_Decode
  intro h1
  have e1 : Ext h h1 := alc_ext _ _ _
  have s1 : h1.size = h.size + 1 := size_alc _ _ _
  have r1 : Row h1 h.size [.int .i64 (0 : Int), .slice Sl.nil.base Sl.nil.len Sl.nil.cap] := Row.alc _ _ _
  refine (row_spec (w.ext e1) hmax).mono ?_
  have hll : (rows.map (·.2)).length = rows.length := by simp
  generalize rows.map (·.2) = l at *
  rintro _ h2 ⟨e2, i, t, hil, hd, pr, hcase⟩
  have s2 := e2.size
  have hpl := pr.len
  have hPl : (putsOf l i).length = i := by simp [putsOf]; omega
  -- nothing
  have nothing : ∀ {h' : Hp} {old : List Value} (err : Int), Ext h h' → Row h' h.size old → old.length = 2 → (∀ {h'' : Hp}, BDecC (fun b => h.size ≤ b ∧ b < h''.size) h'' l 0 Sl.nil 0 0 err) →
      stCells (nw h) 0 [.int .i64 (0 : Int), .slice Sl.nil.base Sl.nil.len Sl.nil.cap] h' fun vh4 =>
      ∃ x : Int, ∃ x1 : Sl, hcell vh4 (nw h) = some (.int .i64 x) ∧ hcell vh4 ((nw h).add 1) = some (.slice x1.base x1.len x1.cap) ∧
      BDecA h l (.tuple #[.agg #[.int .i64 x, .slice x1.base x1.len x1.cap], .int .i64 (0 : Int), .int .i64 (0 : Int), .int .i64 err]) vh4 := fun {h' old} err e' r' ho hc =>
    r'.put (vs := [.int .i64 (0 : Int), .slice Sl.nil.base Sl.nil.len Sl.nil.cap]) (by simp [ho]) (by simp [cellOk]) fun h'' r'' s'' o'' => r''.get2s ⟨⟨by rw [s'']; exact e'.size, fun b hb => by rw [o'' b (by omega), e'.block b hb]⟩, 0, Sl.nil, 0, 0, err, rfl, hc⟩
  rcases hcase with ⟨rfl, k, e, s', lb, u, rfl⟩ | ⟨hlt, hnd, k, e, s', lb, u, rfl, hku⟩
  · refine ⟨t, k, e, s', lb, u, false, rfl, ?_⟩
    intro h3
    refine put5 fun h4 e4 _ => .yes rfl (nothing 14 ((e1.trans e2).trans e4) (r1.ext (e2.trans e4)) rfl (.inl ⟨hd, rfl, rfl, rfl, rfl, rfl⟩))
  · refine ⟨t, k, e, s', lb, u, true, rfl, ?_⟩
    intro h3
    refine put5 fun h4 e4 r4 => .no rfl (r4.get5 ?_)
    have s4 : h2.size < h4.size := r4.lt
    have ru : k = 2 → Rd 1 h4 u ((dB (rwL l i)).map bv) := fun hk => by
      rcases hku with ⟨_, h0⟩ | ⟨_, _, _, _, _, hr⟩
      · omega
      · exact hr.ext e4
    have hbl : (dB (rwL l i)).length ≤ 1000 := by
      have := (dlt (rwL l i)).2.1
      unfold dB; rw [List.length_take]; omega
    refine (batch_spec k e s' lb (dB (rwL l i)) ru hbl (pr.ext e4) (fun b hb => by omega) (by omega)).mono ?_
    rintro _ h5 ⟨e5, num, tt, ok, rfl, hok, htx⟩
    have s5 := e5.size
    refine ⟨num, tt, ok, rfl, ?_⟩
    have e05 := ((e1.trans e2).trans e4).trans e5
    have r5 := r1.ext ((e2.trans e4).trans e5)
    refine r5.put (vs := [.int .i64 num, .slice tt.base tt.len tt.cap]) rfl (by simp [cellOk]) fun h6 r6 s6 o6 => ?_
    have e06 : Ext h h6 := ⟨by rw [s6]; exact e05.size, fun b hb => by rw [o6 b (by omega), e05.block b hb]⟩
    have hsamek : sameOk l i → (k = 2 ∧ lb = (putsOf l i).length ∧ MadeP s' (dB (rwL l i)) (putsOf l i) ↔ dK (rwL l i) = 2 ∧ dL (rwL l i) = (putsOf l i).length ∧ MadeP (dS (rwL l i) : Int) (dB (rwL l i)) (putsOf l i)) := fun hs => by
      rcases hku with ⟨hno, _⟩ | ⟨_, rfl, _, rfl, rfl, _⟩
      · exact absurd hs hno
      · constructor <;> rintro ⟨a, b, c⟩ <;> exact ⟨by omega, by omega, c⟩
    refine IfB.not (IfB.intro (fun hokt => ?_) (fun hokf => ?_))
    · obtain ⟨hnum, htx2⟩ := htx hokt
      subst hnum
      have hk := hok.1 hokt
      have hs : sameOk l i := by
        rcases hku with ⟨_, h0⟩ | ⟨hs, _⟩
        · omega
        · exact hs
      obtain ⟨m1, m2, m3⟩ := (hsamek hs).1 hk
      have isb := dec_sound hlt hd hs m1 m2 m3
      obtain ⟨he, hsq⟩ : e = (dE (rwL l i) : Int) ∧ num = (dS (rwL l i) : Int) := by
        rcases hku with ⟨_, h0⟩ | ⟨_, _, he, hsq, _⟩
        · omega
        · exact ⟨he, hsq⟩
      refine r6.get2s ⟨e, (r4.ext e5 |>.eq (o6 _ (by omega))).get rfl, ?_⟩
      refine r6.same (by simp [cellOk]) ⟨.refl _, r6.get2s ⟨e06, num, tt, e, _, 0, rfl, .inr (.inr ⟨i, _, _, _, isb, rfl, hsq, he, ?_, ?_⟩)⟩⟩
      · rw [hpl, hPl, iAdd64 (by omega)]; push_cast; rfl
      · refine (htx2.eq fun b hb => o6 b ?_).mono fun b hb => ?_
        · rcases hb with h | h <;> omega
        · rcases hb with h | h <;> exact ⟨by omega, by omega⟩
    · refine nothing 13 e06 r6 rfl (.inr (.inl ⟨?_, ⟨i, hlt, hnd⟩, rfl, rfl, rfl, rfl, rfl⟩))
      rintro ⟨i', nm, ep, T, b⟩
      obtain rfl := noB hd hnd b
      obtain ⟨_, hs, m1, m2, n1, n2, m3, _⟩ := dec_complete b
      have := hok.2 ((hsamek hs).2 ⟨m1, m2, by rw [n1]; exact m3⟩)
      rw [hokf] at this; cases this

end Go.Proofs.Ytehhkjgcklhfcaa

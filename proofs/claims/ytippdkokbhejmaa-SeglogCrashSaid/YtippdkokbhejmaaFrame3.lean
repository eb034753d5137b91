/-
  frame.Decode: bytes as a block.
-/
import Derived.Test.YtippdkokbhejmaaFrameV
import Derived.Test.YtippdkokbhejmaaBits1
namespace Go.Proofs.Ytippdkokbhejmaa
set_option linter.unusedVariables false
set_option linter.unusedSimpArgs false

theorem Rd.cutD {h : Hp} {s : Sl} {l : List UInt8} (r : Rd 1 h s (l.map bv)) {lo : Nat} (h1 : lo ≤ s.len) : Rd 1 h (cutSl s (lo : Int) (s.len : Int) (s.cap : Int) 1) ((l.drop lo).map bv) := by
  have := r.cutB (lo := lo) (hi := s.len) (m := s.cap) h1 (Nat.le_refl _) r.cap
  rwa [List.take_of_length_le (by have := r.lenB; rw [List.length_drop]; omega)] at this
/-- what stands in the bytes of a block. -/
def dK (p : List UInt8) : Nat := (p.getD 0 0).toNat
def dN (p : List UInt8) : Nat := (p.getD 1 0).toNat
def dE (p : List UInt8) : Nat := leN ((p.drop 2).take 4)
def dS (p : List UInt8) : Nat := leN ((p.drop 6).take 8)
def dL (p : List UInt8) : Nat := leN ((p.drop 14).take 4)
def dB (p : List UInt8) : List UInt8 := (p.drop 18).take (dN p)
def goodP (p : List UInt8) : Prop := dN p ≤ 40 ∧ okB (dK p) (dE p) (dS p) (dL p) ∧ encOf (preL (dK p) (dE p) (dS p) (dL p) (dB p)) = p
def zeroB : Value := .agg #[.int .i64 0, .int .i64 0, .int .i64 0, .int .i64 0, .slice none 0 0]
def DecR (h : Hp) (p : List UInt8) (r : Value) (h' : Hp) : Prop :=
  Ext h h' ∧ (p.length ≠ 64 ∧ r = .tuple #[zeroB, .int .i64 3] ∨ p.length = 64 ∧ ¬ goodP p ∧ r = .tuple #[zeroB, .int .i64 13] ∨
    p.length = 64 ∧ goodP p ∧ ∃ t : Sl, r = .tuple #[.agg #[.int .i64 (dK p : Int), .int .i64 (dE p : Int), .int .i64 (dS p : Int), .int .i64 (dL p : Int), .slice t.base t.len t.cap], .int .i64 0] ∧ Own h.size 1 h' t ((dB p).map bv))
theorem dlt (p : List UInt8) : dK p < 256 ∧ dN p < 256 ∧ dE p < 2 ^ 32 ∧ dS p < 2 ^ 64 ∧ dL p < 2 ^ 32 := by
  refine ⟨UInt8.toNat_lt _, UInt8.toNat_lt _, ?_, ?_, ?_⟩
  · have := leN_lt ((p.drop 2).take 4)
    exact Nat.lt_of_lt_of_le this (Nat.pow_le_pow_right (by omega) (by have := List.length_take_le 4 (p.drop 2); omega))
  · have := leN_lt ((p.drop 6).take 8)
    exact Nat.lt_of_lt_of_le this (Nat.pow_le_pow_right (by omega) (by have := List.length_take_le 8 (p.drop 6); omega))
  · have := leN_lt ((p.drop 14).take 4)
    exact Nat.lt_of_lt_of_le this (Nat.pow_le_pow_right (by omega) (by have := List.length_take_le 4 (p.drop 14); omega))
theorem getR_of {n : Nat} {l : List UInt8} (h : n ≤ l.length) : getR n l = (leN (l.take n), true) := by unfold getR; rw [if_neg (by omega)]

theorem Decode_spec {h : Hp} {p : Sl} {l : List UInt8} (r : Rd 1 h p (l.map bv)) : HCalls Try.prog fn_frame_Decode #[.slice p.base p.len p.cap] h (DecR h l) := by
  apply frame_Decode_vc
  unfold vcframe_Decode
  have ll := r.lenB
  have hcap := r.cap
  obtain ⟨hK, hN, hE, hS, hL⟩ := dlt l
  intro h1
  have e1 : Ext h h1 := alc_ext _ _ _
  have r1 : Row h1 h.size (blkV 0 0 0 0 Sl.nil) := alc_row h _ _
  -- giving back nothing
  have bad : ∀ {h' : Hp} {old : List Value}, Ext h1 h' → Row h' h.size old → old.length = 5 → (c : Int) → (c = 3 ∧ l.length ≠ 64 ∨ c = 13 ∧ l.length = 64 ∧ ¬ goodP l) →
      stCells ⟨h.size, 0, none⟩ 0 [.int .i64 (0 : Int), .int .i64 (0 : Int), .int .i64 (0 : Int), .int .i64 (0 : Int), .slice Sl.nil.base Sl.nil.len Sl.nil.cap] h' fun vh1 =>
    ∃ x : Int, ∃ x1 : Int, ∃ x2 : Int, ∃ x3 : Int, ∃ x4 : Sl, hcell vh1 ⟨h.size, 0, none⟩ = some (.int .i64 x) ∧ hcell vh1 ((⟨h.size, 0, none⟩ : Addr).add 1) = some (.int .i64 x1) ∧ hcell vh1 ((⟨h.size, 0, none⟩ : Addr).add 2) = some (.int .i64 x2) ∧ hcell vh1 ((⟨h.size, 0, none⟩ : Addr).add 3) = some (.int .i64 x3) ∧ hcell vh1 ((⟨h.size, 0, none⟩ : Addr).add 4) = some (.slice x4.base x4.len x4.cap) ∧
    DecR h l (.tuple #[.agg #[.int .i64 x, .int .i64 x1, .int .i64 x2, .int .i64 x3, .slice x4.base x4.len x4.cap], .int .i64 c]) vh1 := fun {h'} {old} e' rw' ho c hc =>
    out5 rw' ho 0 0 0 0 Sl.nil (K := fun a b d e f h' => DecR h l (.tuple #[.agg #[.int .i64 a, .int .i64 b, .int .i64 d, .int .i64 e, .slice f.base f.len f.cap], .int .i64 c]) h') fun h'' o'' _ _ =>
      ⟨o''.ext (e1.trans e') (Nat.le_refl _), by
        rcases hc with ⟨rfl, hc⟩ | ⟨rfl, hc⟩
        · exact .inl ⟨hc, rfl⟩
        · exact .inr (.inl ⟨hc.1, hc.2, rfl⟩)⟩
  refine IfB.ne (fun hne => bad (.refl _) r1 rfl 3 (.inl ⟨rfl, by omega⟩)) (fun h64 => ?_)
  have hl64 : l.length = 64 := by omega
  intro h2
  have e2 : Ext h1 h2 := alc_ext _ _ _
  have r2 : Row h2 h1.size (blkV 0 0 0 0 Sl.nil) := alc_row h1 _ _
  have s1 : h.size < h1.size := by show h.size < (alc h _ _).size; rw [size_alc]; omega
  have ex2 := e1.trans e2
  have rp := r.ext ex2
  refine ⟨fun ok m h' => h2 = h' ∧ ok = false, 0, ⟨rfl, rfl⟩, ?_⟩
  rintro _ _ _ _ ⟨rfl, rfl⟩
  refine ixB rp.rd ll 1 rfl (by omega) ?_
  refine ⟨by omega, by omega, by omega, by omega, ?_⟩
  refine (Get64_spec (rp.cutD (lo := 6) (by omega))).mono ?_
  rintro _ h4 ⟨rfl, rfl⟩
  rw [getR_of (n := 8) (by rw [List.length_drop]; omega)]
  have en : l[1].toNat = dN l := by unfold dN; simp [List.getD, hl64]
  have ek : l[0].toNat = dK l := by unfold dK; simp [List.getD, hl64]
  refine ⟨_, _, rfl, ?_⟩
  rw [en, show leN ((l.drop 6).take 8) = dS l from rfl, iConv64 (a := (dN l : Int)) (by omega)]
  refine IfB.dec (fun hbig => .yes rfl (bad e2 (r1.ext e2) rfl 13 (.inr ⟨rfl, hl64, fun g => by have := g.1; omega⟩))) (fun hn => ?_)
  refine IfB.dec (fun hbig => .yes rfl (bad e2 (r1.ext e2) rfl 13 (.inr ⟨rfl, hl64, fun g => by have := g.2.1.2.2.1; simp only at hbig; omega⟩))) (fun hs => ?_)
  simp only at hs
  refine ⟨by omega, by omega, by omega, by omega, ?_⟩
  refine (Get32_spec (rp.cutD (lo := 2) (by omega))).mono ?_
  rintro _ h5 ⟨rfl, rfl⟩
  rw [getR_of (n := 4) (by rw [List.length_drop]; omega)]
  refine ⟨_, _, rfl, by omega, by omega, by omega, by omega, ?_⟩
  refine (Get32_spec (rp.cutD (lo := 14) (by omega))).mono ?_
  rintro _ h6 ⟨rfl, rfl⟩
  rw [getR_of (n := 4) (by rw [List.length_drop]; omega)]
  refine ⟨_, _, rfl, ?_⟩
  rw [show leN ((l.drop 2).take 4) = dE l from rfl, show leN ((l.drop 14).take 4) = dL l from rfl]
  refine ixB rp.rd ll 0 rfl (by omega) ?_
  rw [ek]
  have ea : iAdd .i64 (18 : Int) (dN l : Int) = ((18 + dN l : Nat) : Int) := by rw [iAdd64 (by omega)]; push_cast; rfl
  rw [ea]
  refine ⟨by omega, by omega, by omega, by omega, ?_⟩
  have rb := rp.cutB (lo := 18) (hi := 18 + dN l) (m := p.cap) (by omega) (by omega) (by omega)
  rw [show 18 + dN l - 18 = dN l by omega] at rb
  have hbl : (dB l).length = dN l := by simp [dB, hl64]; omega
  refine (slClone_spec (l := dB l) rb (by omega)).mono ?_
  rintro _ h7 ⟨t, rfl, ot, lt, e7⟩
  refine ⟨_, rfl, e7, ?_⟩
  rw [iConv64 (a := (dK l : Int)) (by omega), iConv64 (a := (dE l : Int)) (by omega), iConv64 (a := (dS l : Int)) (by omega), iConv64 (a := (dL l : Int)) (by omega)]
  have r7 := r2.ext e7
  have s2 : h2.size = h1.size + 1 := by show (alc h1 _ _).size = _; rw [size_alc]
  refine out5 r7 rfl (dK l : Int) (dE l : Int) (dS l : Int) (dL l : Int) t fun h8 o8 s8 r8 => ?_
  have ot8 : Own h2.size 1 h8 t ((dB l).map bv) := ot.only o8 (by omega)
  have e28 : Keep h1.size h2 h8 := ⟨by have := e7.size; omega, fun b hb => by rw [o8.block b (by have := e7.size; omega) (by omega), e7.block b (by omega)]⟩
  have e18 : Ext h1 h8 := ((e2.toKeep).trans e28).ext
  refine (Encode_spec (dK l : Int) (dE l : Int) (dS l : Int) (dL l : Int) ot8.toRd).mono ?_
  rintro _ h9 ⟨e9, hr⟩
  have e19 := e18.trans e9
  have no : (dB l).length ≤ 40 := by omega
  rcases hr with ⟨hn, rfl⟩ | ⟨ok, hl, rfl⟩ | ⟨ok, hl, u, rfl, ou, lu⟩
  · refine ⟨Sl.nil, _, rfl, .no rfl (.yes rfl (bad e19 (r1.ext e19) rfl 13 (.inr ⟨rfl, hl64, fun g => hn g.2.1⟩)))⟩
  · omega
  · refine ⟨u, _, rfl, .yes rfl ?_⟩
    refine (slEqual_spec (r.ext (e1.trans e19)) ou.toRd (by omega)).mono ?_
    rintro _ h10 ⟨rfl, rfl⟩
    refine ⟨_, rfl, IfB.not (IfB.dec (fun heq => ?_) (fun hne => ?_))⟩
    · have g : goodP l := ⟨by omega, ok, by
        have := heq.symm
        simpa using this⟩
      refine (r8.ext e9).get5 ?_
      refine out5 ((r1.ext e19)) rfl (dK l : Int) (dE l : Int) (dS l : Int) (dL l : Int) t (K := fun a b c d f h' => DecR h l (.tuple #[.agg #[.int .i64 a, .int .i64 b, .int .i64 c, .int .i64 d, .slice f.base f.len f.cap], .int .i64 (0 : Int)]) h') fun h' o' _ _ => ?_
      refine ⟨o'.ext (e1.trans e19) (Nat.le_refl _), .inr (.inr ⟨hl64, g, t, rfl, ?_⟩)⟩
      exact ((ot8.ext e9).only o' (by omega)).weak (by omega)
    · exact bad e19 (r1.ext e19) rfl 13 (.inr ⟨rfl, hl64, fun g => hne (by
        have := g.2.2.symm
        simpa using this)⟩)

/-- whatever a reading answers. -/
theorem DecR.shape {h h' : Hp} {p : List UInt8} {r : Value} (d : DecR h p r h') : Ext h h' ∧ ∃ (k e s l : Int) (t : Sl) (c : Int), r = .tuple #[.agg #[.int .i64 k, .int .i64 e, .int .i64 s, .int .i64 l, .slice t.base t.len t.cap], .int .i64 c] ∧ (p.length ≠ 64 → c = 3) ∧ (p.length = 64 → ¬ goodP p → c = 13) ∧
    (p.length = 64 → goodP p → c = 0 ∧ k = (dK p : Int) ∧ e = (dE p : Int) ∧ s = (dS p : Int) ∧ l = (dL p : Int) ∧ Own h.size 1 h' t ((dB p).map bv)) := by
  obtain ⟨ex, ⟨hn, rfl⟩ | ⟨hn, hg, rfl⟩ | ⟨hn, hg, t, rfl, ot⟩⟩ := d
  · exact ⟨ex, 0, 0, 0, 0, Sl.nil, 3, rfl, fun _ => rfl, fun h => absurd h hn, fun h => absurd h hn⟩
  · exact ⟨ex, 0, 0, 0, 0, Sl.nil, 13, rfl, fun h => absurd hn h, fun _ _ => rfl, fun _ h => absurd h hg⟩
  · exact ⟨ex, _, _, _, _, t, 0, rfl, fun h => absurd hn h, fun _ h => absurd hg h, fun _ _ => ⟨rfl, rfl, rfl, rfl, rfl, ot⟩⟩

end Go.Proofs.Ytippdkokbhejmaa

/-
  scarpref6.Decode: the document's own reading.
-/
import Derived.Test.YtehhkjgcklhfcaaFrame3
import Derived.Test.YtehhkjgcklhfcaaStr
import Derived.Test.YtehhkjgcklhfcaaFrameRef
namespace Go.Proofs.Ytehhkjgcklhfcaa
set_option linter.unusedVariables false
set_option linter.unusedSimpArgs false

theorem refDec_bad {h hX : Hp} {l : List UInt8} {old : List Value} (rz : Row hX h.size old) (ho : old.length = 5) (e0 : Ext h hX) (c : Int) (hc : c = 3 ∧ l.length ≠ 64 ∨ c = 13 ∧ l.length = 64 ∧ ¬ goodP l) :
    stCells (nw h) 0 [.int .i64 (0 : Int), .int .i64 (0 : Int), .int .i64 (0 : Int), .int .i64 (0 : Int), .slice Sl.nil.base Sl.nil.len Sl.nil.cap] hX fun vh1 =>
    ∃ x : Int, ∃ x1 : Int, ∃ x2 : Int, ∃ x3 : Int, ∃ x4 : Sl, hcell vh1 (nw h) = some (.int .i64 x) ∧ hcell vh1 ((nw h).add 1) = some (.int .i64 x1) ∧ hcell vh1 ((nw h).add 2) = some (.int .i64 x2) ∧ hcell vh1 ((nw h).add 3) = some (.int .i64 x3) ∧ hcell vh1 ((nw h).add 4) = some (.slice x4.base x4.len x4.cap) ∧
    DecR h l (.tuple #[.agg #[.int .i64 x, .int .i64 x1, .int .i64 x2, .int .i64 x3, .slice x4.base x4.len x4.cap], .int .i64 c]) vh1 :=
  out5 rz ho 0 0 0 0 Sl.nil (K := fun a b d e f h' => DecR h l (.tuple #[.agg #[.int .i64 a, .int .i64 b, .int .i64 d, .int .i64 e, .slice f.base f.len f.cap], .int .i64 c]) h') fun h'' o'' _ _ =>
      ⟨o''.ext e0 (Nat.le_refl _), by
        rcases hc with ⟨rfl, hc⟩ | ⟨rfl, hc⟩
        · exact .inl ⟨hc, rfl⟩
        · exact .inr (.inl ⟨hc.1, hc.2, rfl⟩)⟩
theorem refDec_tail {h hX : Hp} {p s : Sl} {l : List UInt8} {b lo : Nat} {old : List Value} (hl64 : l.length = 64) (hn : dN l ≤ 40) (rp : Rd 1 hX p (l.map bv)) (rz : Row hX h.size old) (ho : old.length = 5) (e0 : Ext h hX)
    (rb : Row hX b (blkV (dK l : Int) (dE l : Int) (dS l : Int) (dL l : Int) s)) (hlo : h.size < lo) (os : Own lo 1 hX s ((dB l).map bv)) :
              ∃ c8 : Int, ∃ c9 : Int, ∃ c10 : Int, ∃ c11 : Int, ∃ c12 : Sl, hcell hX ⟨b, 0, none⟩ = some (.int .i64 c8) ∧ hcell hX ((⟨b, 0, none⟩ : Addr).add 1) = some (.int .i64 c9) ∧ hcell hX ((⟨b, 0, none⟩ : Addr).add 2) = some (.int .i64 c10) ∧ hcell hX ((⟨b, 0, none⟩ : Addr).add 3) = some (.int .i64 c11) ∧ hcell hX ((⟨b, 0, none⟩ : Addr).add 4) = some (.slice c12.base c12.len c12.cap) ∧
              HCalls Try.prog fn_scarpref6_Encode #[.agg #[.int .i64 c8, .int .i64 c9, .int .i64 c10, .int .i64 c11, .slice c12.base c12.len c12.cap]] hX fun r3 vh12 =>
              ∃ c13 : Sl, ∃ c14 : Int, r3 = .tuple #[.slice c13.base c13.len c13.cap, .int .i64 c14] ∧
              IfB (c14 != (0 : Int)) (stCells (nw h) 0 [.int .i64 (0 : Int), .int .i64 (0 : Int), .int .i64 (0 : Int), .int .i64 (0 : Int), .slice Sl.nil.base Sl.nil.len Sl.nil.cap] vh12 fun vh13 =>
                ∃ x20 : Int, ∃ x21 : Int, ∃ x22 : Int, ∃ x23 : Int, ∃ x24 : Sl, hcell vh13 ((nw h)) = some (.int .i64 x20) ∧ hcell vh13 ((nw h).add 1) = some (.int .i64 x21) ∧ hcell vh13 ((nw h).add 2) = some (.int .i64 x22) ∧ hcell vh13 ((nw h).add 3) = some (.int .i64 x23) ∧ hcell vh13 ((nw h).add 4) = some (.slice x24.base x24.len x24.cap) ∧
                DecR h l (.tuple #[.agg #[.int .i64 x20, .int .i64 x21, .int .i64 x22, .int .i64 x23, .slice x24.base x24.len x24.cap], .int .i64 (13 : Int)]) vh13)
              (∃ bs : List UInt8, bs.length = c13.len ∧ RdC vh12 c13.base (bs.map fun x => .int .u8 (x.toNat : Int)) ∧
                ∃ bs1 : List UInt8, bs1.length = p.len ∧ RdC vh12 p.base (bs1.map fun x => .int .u8 (x.toNat : Int)) ∧
                IfB (!((ByteArray.mk bs.toArray).toList == (ByteArray.mk bs1.toArray).toList)) (stCells (nw h) 0 [.int .i64 (0 : Int), .int .i64 (0 : Int), .int .i64 (0 : Int), .int .i64 (0 : Int), .slice Sl.nil.base Sl.nil.len Sl.nil.cap] vh12 fun vh14 =>
                  ∃ x25 : Int, ∃ x26 : Int, ∃ x27 : Int, ∃ x28 : Int, ∃ x29 : Sl, hcell vh14 ((nw h)) = some (.int .i64 x25) ∧ hcell vh14 ((nw h).add 1) = some (.int .i64 x26) ∧ hcell vh14 ((nw h).add 2) = some (.int .i64 x27) ∧ hcell vh14 ((nw h).add 3) = some (.int .i64 x28) ∧ hcell vh14 ((nw h).add 4) = some (.slice x29.base x29.len x29.cap) ∧
                  DecR h l (.tuple #[.agg #[.int .i64 x25, .int .i64 x26, .int .i64 x27, .int .i64 x28, .slice x29.base x29.len x29.cap], .int .i64 (13 : Int)]) vh14)
                (∃ c15 : Int, ∃ c16 : Int, ∃ c17 : Int, ∃ c18 : Int, ∃ c19 : Sl, hcell vh12 ⟨b, 0, none⟩ = some (.int .i64 c15) ∧ hcell vh12 ((⟨b, 0, none⟩ : Addr).add 1) = some (.int .i64 c16) ∧ hcell vh12 ((⟨b, 0, none⟩ : Addr).add 2) = some (.int .i64 c17) ∧ hcell vh12 ((⟨b, 0, none⟩ : Addr).add 3) = some (.int .i64 c18) ∧ hcell vh12 ((⟨b, 0, none⟩ : Addr).add 4) = some (.slice c19.base c19.len c19.cap) ∧
                  stCells (nw h) 0 [.int .i64 c15, .int .i64 c16, .int .i64 c17, .int .i64 c18, .slice c19.base c19.len c19.cap] vh12 fun vh15 =>
                  ∃ x30 : Int, ∃ x31 : Int, ∃ x32 : Int, ∃ x33 : Int, ∃ x34 : Sl, hcell vh15 ((nw h)) = some (.int .i64 x30) ∧ hcell vh15 ((nw h).add 1) = some (.int .i64 x31) ∧ hcell vh15 ((nw h).add 2) = some (.int .i64 x32) ∧ hcell vh15 ((nw h).add 3) = some (.int .i64 x33) ∧ hcell vh15 ((nw h).add 4) = some (.slice x34.base x34.len x34.cap) ∧
                  DecR h l (.tuple #[.agg #[.int .i64 x30, .int .i64 x31, .int .i64 x32, .int .i64 x33, .slice x34.base x34.len x34.cap], .int .i64 (0 : Int)]) vh15)) := by
  have hbl : (dB l).length = dN l := by simp [dB, hl64]; omega
  refine rb.get5 ?_
  refine (refEncode_spec (dK l : Int) (dE l : Int) (dS l : Int) (dL l : Int) os.toRd).mono ?_
  rintro _ h9 ⟨e9, hr⟩
  have e19 := e0.trans e9
  rcases hr with ⟨hno, rfl⟩ | ⟨ok, hl, rfl⟩ | ⟨ok, hl, u, rfl, ou, lu⟩
  · exact ⟨Sl.nil, _, rfl, .yes rfl (refDec_bad (rz.ext e9) ho e19 13 (.inr ⟨rfl, hl64, fun g => hno g.2.1⟩))⟩
  · omega
  · refine ⟨u, _, rfl, .no rfl (strNe ou.toRd (rp.ext e9) (fun hne => ?_) (fun heq => ?_))⟩
    · exact refDec_bad (rz.ext e9) ho e19 13 (.inr ⟨rfl, hl64, fun g => hne (by simpa using g.2.2)⟩)
    · have g : goodP l := ⟨by omega, ok, by simpa using heq⟩
      refine (rb.ext e9).get5 ?_
      refine out5 (rz.ext e9) ho (dK l : Int) (dE l : Int) (dS l : Int) (dL l : Int) s (K := fun a b c d f h' => DecR h l (.tuple #[.agg #[.int .i64 a, .int .i64 b, .int .i64 c, .int .i64 d, .slice f.base f.len f.cap], .int .i64 (0 : Int)]) h') fun h' o' _ _ => ?_
      refine ⟨o'.ext e19 (Nat.le_refl _), .inr (.inr ⟨hl64, g, s, rfl, ?_⟩)⟩
      exact ((os.ext e9).only o' hlo).weak (by omega)

theorem refDecode_spec {h : Hp} {p : Sl} {l : List UInt8} (r : Rd 1 h p (l.map bv)) : HCalls Try.prog fn_scarpref6_Decode #[.slice p.base p.len p.cap] h (DecR h l) := by
  apply scarpref6_Decode_vc
  unfold vcscarpref6_Decode
  have ll := r.lenB
  have hcap := r.cap
  obtain ⟨hK, hN, hE, hS, hL⟩ := dlt l
  intro h1
  have e1 : Ext h h1 := alc_ext _ _ _
  have r1 : Row h1 h.size (blkV 0 0 0 0 Sl.nil) := alc_row h _ _
  refine IfB.ne (fun hne => refDec_bad r1 rfl e1 3 (.inl ⟨rfl, by omega⟩)) (fun h64 => ?_)
  have hl64 : l.length = 64 := by omega
  have rp := r.ext e1
  have s1 : h1.size = h.size + 1 := size_alc _ _ _
  refine ⟨by omega, by omega, by omega, by omega, ?_⟩
  refine (refGet_spec (n := 4) (by omega) (rp.cutD (lo := 2) (by omega))).mono ?_
  rintro _ _ ⟨rfl, rfl⟩
  rw [getR_of (n := 4) (by rw [List.length_drop]; omega)]
  refine ⟨_, _, rfl, by omega, by omega, by omega, by omega, ?_⟩
  refine (refGet_spec (n := 8) (by omega) (rp.cutD (lo := 6) (by omega))).mono ?_
  rintro _ _ ⟨rfl, rfl⟩
  rw [getR_of (n := 8) (by rw [List.length_drop]; omega)]
  refine ⟨_, _, rfl, by omega, by omega, by omega, by omega, ?_⟩
  refine (refGet_spec (n := 4) (by omega) (rp.cutD (lo := 14) (by omega))).mono ?_
  rintro _ _ ⟨rfl, rfl⟩
  rw [getR_of (n := 4) (by rw [List.length_drop]; omega)]
  refine ⟨_, _, rfl, ?_⟩
  refine ixB rp.rd ll 1 rfl (by omega) ?_
  have en : l[1].toNat = dN l := by unfold dN; simp [List.getD, hl64]
  have ek : l[0].toNat = dK l := by unfold dK; simp [List.getD, hl64]
  rw [en, show leN ((l.drop 2).take 4) = dE l from rfl, show leN ((l.drop 6).take 8) = dS l from rfl, show leN ((l.drop 14).take 4) = dL l from rfl]
  refine IfB.dec (fun hb => refDec_bad r1 rfl e1 13 (.inr ⟨rfl, hl64, fun g => by have := g.2.1.2.2.1; omega⟩)) (fun hs => ?_)
  refine IfB.dec (fun hb => refDec_bad r1 rfl e1 13 (.inr ⟨rfl, hl64, fun g => by have := g.2.1.2.2.2; omega⟩)) (fun hL' => ?_)
  rw [iConv64 (a := (dN l : Int)) (by omega)]
  refine IfB.dec (fun hb => refDec_bad r1 rfl e1 13 (.inr ⟨rfl, hl64, fun g => by have := g.1; omega⟩)) (fun hn => ?_)
  refine ixB rp.rd ll 0 rfl (by omega) ?_
  rw [ek, iConv64 (a := (dK l : Int)) (by omega), iConv64 (a := (dE l : Int)) (by omega), iConv64 (a := (dS l : Int)) (by omega), iConv64 (a := (dL l : Int)) (by omega)]
  have ea : iAdd .i64 (18 : Int) (dN l : Int) = ((18 + dN l : Nat) : Int) := by rw [iAdd64 (by omega)]; push_cast; rfl
  rw [ea]
  refine ⟨by omega, by omega, by omega, by omega, ?_⟩
  have rb := rp.cutB (lo := 18) (hi := 18 + dN l) (m := p.cap) (by omega) (by omega) (by omega)
  rw [show 18 + dN l - 18 = dN l by omega] at rb
  have hbl : (dB l).length = dN l := by simp [dB, hl64]; omega
  have rb : Rd 1 h1 (cutSl p (18 : Int) ((18 + dN l : Nat) : Int) (p.cap : Int) 1) ((dB l).map bv) := rb
  have hN40 : dN l ≤ 40 := by omega
  refine ⟨?_, ?_⟩
  · intro h8
    have e8 : Ext h1 h8 := alc_ext _ _ _
    refine ⟨e8, ?_, ?_⟩
    · refine cpB rb (by omega) fun s h9 o9 l9 e9 => ⟨e9, ?_⟩
      intro h10
      have e10 : Ext h9 h10 := alc_ext _ _ _
      refine ⟨e9.trans e10, ?_⟩
      refine put5 fun h11 e11 r11 => ?_
      have e111 := e9.trans e11
      exact refDec_tail hl64 hN40 (rp.ext e111) (r1.ext e111) rfl (e1.trans e111) r11 (lo := h1.size) (by omega) (o9.ext e11)
    · intro h16
      have e16 : Ext h8 h16 := alc_ext _ _ _
      have e116 := e8.trans e16
      have s8 : h8.size = h1.size + 1 := size_alc _ _ _
      have s16 : h16.size = h1.size + 2 := by show (alc h8 _ _).size = _; rw [size_alc, s8]
      refine ⟨e116, ?_⟩
      have o0 : Own h1.size 1 h16 ⟨some (nw h1), 0, 0⟩ [] := (Own.alc h1 [] ty_uint8 0 1 rfl).ext e16
      have hlb := rb.lenB
      refine AppC_own5 (news := (dB l).map bv) rfl o0 e116.size (by simpa using hlb) (rb.ext e116).rd (cellOk_bv _) (by rw [← hlb, hbl]; simp; omega) (by rw [← hlb, hbl]; simp; omega) fun s h17 o17 l17 k17 x17 b17 => ?_
      have e117 : Ext h1 h17 := (e116.toKeep.trans k17).ext
      refine ⟨e117, ?_⟩
      have r17 : Row h17 h8.size (blkV 0 0 0 0 Sl.nil) := (alc_row h8 _ _).eq (x17 _ (by omega) (fun a ha => by
        have : a = nw h1 := (Option.some.inj ha).symm
        subst this; show h8.size ≠ h1.size; omega))
      refine r17.put (vs := blkV (dK l : Int) (dE l : Int) (dS l : Int) (dL l : Int) s) rfl (blkV_ok _ _ _ _ _) fun h18 r18 s18 x18 => ?_
      have e118 : Ext h1 h18 := ⟨by rw [s18]; exact e117.size, fun k hk => by rw [x18 k (by omega), e117.block k hk]⟩
      have o18 : Own h1.size 1 h18 s ((dB l).map bv) := (o17.eq fun a ha => x18 _ (by
        rcases b17 a ha with h | h
        · have : a = nw h1 := (Option.some.inj h).symm
          subst this; show h1.size ≠ h8.size; omega
        · omega))
      exact refDec_tail hl64 hN40 (rp.ext e118) (r1.ext e118) rfl (e1.trans e118) r18 (lo := h1.size) (by omega) (by simpa using o18)
  · intro h23
    have e23 : Ext h1 h23 := alc_ext _ _ _
    have s23 : h23.size = h1.size + 1 := size_alc _ _ _
    refine ⟨e23, ?_⟩
    intro h24
    have e24 : Ext h23 h24 := alc_ext _ _ _
    refine ⟨e23.trans e24, ?_⟩
    refine cpB (rb.ext e23) (by omega) fun s h25 o25 l25 e25 => ⟨e23.trans e25, ?_⟩
    have r25 : Row h25 h1.size (blkV 0 0 0 0 Sl.nil) := (alc_row h1 _ _).ext e25
    refine r25.put (vs := blkV (dK l : Int) (dE l : Int) (dS l : Int) (dL l : Int) s) rfl (blkV_ok _ _ _ _ _) fun h26 r26 s26 x26 => ?_
    have e125 := e23.trans e25
    have e126 : Ext h1 h26 := ⟨by rw [s26]; exact e125.size, fun k hk => by rw [x26 k (by omega), e125.block k hk]⟩
    have o26 : Own h23.size 1 h26 s ((dB l).map bv) := o25.eq fun a ha => x26 _ (by have := (o25.lt ha).1; omega)
    exact refDec_tail hl64 hN40 (rp.ext e126) (r1.ext e126) rfl (e1.trans e126) r26 (lo := h23.size) (by omega) o26

end Go.Proofs.Ytehhkjgcklhfcaa

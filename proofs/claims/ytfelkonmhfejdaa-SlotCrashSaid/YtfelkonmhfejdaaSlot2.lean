/-
  slot.Open, Room, Dead, Load.
-/
import Derived.Test.YtfelkonmhfejdaaSlot1
namespace Go.Proofs.Ytfelkonmhfejdaa
set_option linter.unusedVariables false
set_option linter.unusedSimpArgs false

/-- a Slots that stands there: its own block and its text. -/
structure SlotAt (F : Nat → Nat) (h : Hp) (sb db : Nat) (S : SlV) (tx : List UInt8) (ts : Sl) : Prop where
  role : F sb = 0
  row : Row h sb (slC db S ts)
  text : Rd 1 h ts (tx.map bv)
  tb : ∀ a, ts.base = some a → F a.block = 0 ∧ a.block < h.size ∧ a.block ≠ sb
theorem SlotAt.eq {F : Nat → Nat} {h h' : Hp} {sb db : Nat} {S : SlV} {tx : List UInt8} {ts : Sl} (x : SlotAt F h sb db S tx ts) (hs : h.size ≤ h'.size) (e1 : h'[sb]? = h[sb]?) (e2 : ∀ a, ts.base = some a → h'[a.block]? = h[a.block]?) : SlotAt F h' sb db S tx ts :=
  ⟨x.role, x.row.eq e1, x.text.eq e2, fun a ha => ⟨(x.tb a ha).1, by have := (x.tb a ha).2.1; omega, (x.tb a ha).2.2⟩⟩
theorem SlotAt.chg {F : Nat → Nat} {h h' : Hp} {sb db : Nat} {S : SlV} {tx : List UInt8} {ts : Sl} (x : SlotAt F h sb db S tx ts) (c : Chg F h h') : SlotAt F h' sb db S tx ts :=
  x.eq c.size (c.block _ x.row.lt x.role) fun a ha => c.block _ (x.tb a ha).2.1 (x.tb a ha).1
theorem SlotAt.relab {F F' : Nat → Nat} {h : Hp} {sb db : Nat} {S : SlV} {tx : List UInt8} {ts : Sl} (x : SlotAt F h sb db S tx ts) (hF : ∀ b, b < h.size → F' b = F b) : SlotAt F' h sb db S tx ts :=
  ⟨by rw [hF _ x.row.lt]; exact x.role, x.row, x.text, fun a ha => ⟨by rw [hF _ (x.tb a ha).2.1]; exact (x.tb a ha).1, (x.tb a ha).2⟩⟩
abbrev sp (sb : Nat) : Value := .pointer (some ⟨sb, 0, none⟩)

abbrev PickV := Nat × (List UInt8 × Nat)
def pick1 (i : Nat) (c : List UInt8 × Nat) (p : PickV) : PickV := if p.2.2 < c.2 then (i, c) else p
noncomputable def pickS (a b : List (List UInt8)) : PickV := pick1 1 (readS b) (pick1 0 (readS a) (1, ([], 0)))
noncomputable def pickN (a b : List (List UInt8)) : Nat → PickV
  | 0 => (1, ([], 0))
  | 1 => pick1 0 (readS a) (1, ([], 0))
  | _ => pickS a b
def OpenOk (d : Dv) (low mid high : Int) : Prop := 0 ≤ low ∧ low < mid ∧ mid < high ∧ high ≤ d.n
/-- what Open makes of it. -/
def OpenR (lo : Nat) (F : Nat → Nat) (h : Hp) (db : Nat) (d : Dv) (low mid high : Int) (r : Value) (h' : Hp) : Prop :=
  (¬ OpenOk d low mid high ∧ r = .tuple #[.pointer none, .int .i64 1] ∧ Ext h h') ∨
  (OpenOk d low mid high ∧ ∃ q, (∃ i, i < 2 ∧ (zRows d (if i = 0 then low.toNat else mid.toNat) (if i = 0 then mid.toNat - low.toNat else high.toNat - mid.toNat)).any oddB = true) ∧ r = .tuple #[.pointer none, .int .i64 13] ∧ DevTo lo F h h' db (withReads d q)) ∨
  (OpenOk d low mid high ∧ ∃ q F', DevAt lo F' h' db (withReads d q).flush.2 ∧ (∀ b, b < h.size → F' b = F b) ∧ Chg F h h' ∧
    (zRows d low.toNat (mid.toNat - low.toNat)).any oddB = false ∧ (zRows d mid.toNat (high.toNat - mid.toNat)).any oddB = false ∧
    ((d.flush.1 ≠ 0 ∧ r = .tuple #[.pointer none, .int .i64 d.flush.1]) ∨
     (d.flush.1 = 0 ∧ ∃ sb ts, h.size ≤ sb ∧ (∀ a, ts.base = some a → sb < a.block) ∧ r = .tuple #[sp sb, .int .i64 0] ∧
       SlotAt F' h' sb db ⟨low.toNat, mid.toNat, high.toNat, d.size, (pickS (zRows d low.toNat (mid.toNat - low.toNat)) (zRows d mid.toNat (high.toNat - mid.toNat))).1, (pickS (zRows d low.toNat (mid.toNat - low.toNat)) (zRows d mid.toNat (high.toNat - mid.toNat))).2.2, false⟩
         (pickS (zRows d low.toNat (mid.toNat - low.toNat)) (zRows d mid.toNat (high.toNat - mid.toNat))).2.1 ts)))
theorem flush_reads (d : Dv) (q : Int) : (withReads d q).flush.1 = d.flush.1 := by
  unfold Dv.flush
  have : (withReads d q).dead = d.dead := rfl
  rw [this]; split <;> rfl
theorem Open_spec {lo : Nat} {F : Nat → Nat} {h : Hp} {db : Nat} {d : Dv} (x : DevAt lo F h db d) (low mid high : Int) :
    HCalls Try.prog fn_slot_Open #[dp db, .int .i64 low, .int .i64 mid, .int .i64 high] h (OpenR lo F h db d low mid high) := by
  apply slot_Open_vc
  unfold vcslot_Open
  have w := x.1
  have hz := w.zones
  have hsz := w.size
  refine (Geometry_spec x).mono ?_
  rintro _ h1 ⟨rfl, e1⟩
  refine ⟨_, _, rfl, ?_⟩
  intro h2
  refine loc2 rfl rfl fun h3 e3 r3 => ?_
  have e03 := e1.trans e3
  refine ⟨_, r3.get0 rfl, IfB.eq (fun hh => by omega) (fun _ => ?_)⟩
  refine IfB.dec (fun hh => .inl ⟨fun k => by have := k.1; omega, rfl, e03⟩) (fun h1 => IfB.dec (fun hh => .inl ⟨fun k => by have := k.2.1; omega, rfl, e03⟩) (fun h2 => IfB.dec (fun hh => .inl ⟨fun k => by have := k.2.2.1; omega, rfl, e03⟩) (fun h3' => ⟨_, r3.get0 rfl, IfB.dec (fun hh => .inl ⟨fun k => by have := k.2.2.2; omega, rfl, e03⟩) (fun h4 => ⟨_, r3.get rfl, ?_⟩)⟩)))
  have hok : OpenOk d low mid high := ⟨by omega, by omega, by omega, by omega⟩
  obtain ⟨L, rfl⟩ : ∃ L : Nat, low = L := ⟨low.toNat, by omega⟩
  obtain ⟨M, rfl⟩ : ∃ M : Nat, mid = M := ⟨mid.toNat, by omega⟩
  obtain ⟨H, rfl⟩ : ∃ H : Nat, high = H := ⟨high.toNat, by omega⟩
  unfold OpenR
  rw [Int.toNat_natCast L, Int.toNat_natCast M, Int.toNat_natCast H]
  intro h5
  have e5 : Ext h3 h5 := alc_ext _ _ _
  have e05 := e03.trans e5
  have s03 := e03.size
  have s5 : h5.size = h3.size + 1 := size_alc _ _ _
  have row5 : Row h5 h3.size (slC db ⟨L, M, H, d.size, 1, 0, false⟩ Sl.nil) := Row.alc _ _ _
  have Fz : ∀ b, h.size ≤ b → F b = 0 := fun b hb => by
    rcases Nat.eq_zero_or_pos (F b) with h0 | h0
    · exact h0
    · have := (x.dom b (by omega)).2; omega
  let A := zRows d L (M - L)
  let B := zRows d M (H - M)
  let Z : Nat → List (List UInt8) := fun i => if i = 0 then A else B
  refine ⟨fun i m h' => ∃ (j : Nat) (ts : Sl) (q : Int), i = j ∧ m + j = 2 ∧ Row h' h3.size (slC db ⟨L, M, H, d.size, (pickN A B j).1, (pickN A B j).2.2, false⟩ ts) ∧ Rd 1 h' ts ((pickN A B j).2.1.map bv) ∧ (∀ a, ts.base = some a → h3.size < a.block ∧ a.block < h'.size) ∧ DevAt lo F h' db (withReads d q) ∧ Chg F h h' ∧ ∀ k, k < j → (Z k).any oddB = false, 2,
    ⟨0, Sl.nil, d.reads, rfl, rfl, row5, Rd.nil _ _, fun a ha => (by cases ha), x.ext e05, e05.chg F, fun k hk => by omega⟩, ?_⟩
  rintro _ _ m h6 ⟨j, ts, q, rfl, hm, row6, rt6, tb6, x6, c6, hodd⟩
  have s6 := c6.size
  refine IfB.dec (fun hlt => ?_) (fun hge => ?_)
  · have hj : j < 2 := by omega
    let S6 : SlV := ⟨L, M, H, d.size, (pickN A B j).1, (pickN A B j).2.2, false⟩
    have hf1 : S6.f j ≤ S6.f (j + 1) := by
      rcases (show j = 0 ∨ j = 1 by omega) with rfl | rfl
      · show L ≤ M; omega
      · show M ≤ H; omega
    have hf2 : S6.f (j + 1) ≤ d.n := by
      rcases (show j = 0 ∨ j = 1 by omega) with rfl | rfl
      · show M ≤ d.n; omega
      · show H ≤ d.n; omega
    refine (blocks_spec (S := S6) x6 row6 (Fz _ s03) j hj hf1 hf2 rfl).mono ?_
    rintro _ h7 ⟨out, rows, q7, rfl, o7, hrows, x7, c7⟩
    have hZ : rows.map (·.2) = Z j := by
      rw [hrows, zRows_reads]
      rcases (show j = 0 ∨ j = 1 by omega) with rfl | rfl
      · rfl
      · rfl
    have x7' : DevAt lo F h7 db (withReads d q7) := x7
    have hrl : rows.length ≤ 1000000 := by
      have h1 := zRows_len w (S6.f j) (S6.f (j + 1) - S6.f j)
      have h2 := congrArg List.length hrows
      rw [zRows_reads] at h2
      simp only [List.length_map] at h2
      have : (S6.f (j + 1) - S6.f j) * 192 ≤ 64 * 192 := Nat.mul_le_mul_right _ (by omega)
      omega
    have h64 : ∀ p ∈ rows.map (·.2), p.length = 64 := by
      rw [hrows, zRows_reads]
      have : ∀ k z, ∀ p ∈ zRows d z k, p.length = 64 := by
        intro k
        induction k with
        | zero => intro z p hp; simp [zRows] at hp
        | succ k ih =>
          intro z p hp
          simp only [zRows] at hp
          rcases List.mem_append.1 hp with hp | hp
          · exact (w.zone z).each p hp
          · split at hp
            · simp at hp
            · exact ih _ p hp
      exact this _ _
    refine ⟨out, rfl, ?_⟩
    refine (rowsContains_spec (p := oddB) o7.own.rd o7.len o7.each hrl fun p hp c rc => odd_spec rc (by have := h64 p.2 (List.mem_map.2 ⟨p, hp, rfl⟩); omega)).mono ?_
    rintro _ h7' ⟨rfl, hh⟩
    obtain rfl := hh.symm
    have hany : (rows.any fun x => oddB x.2) = (Z j).any oddB := by rw [← hZ, List.any_map]; rfl
    rw [hany]
    have c07 := c6.tr c7
    refine ⟨_, rfl, IfB.intro (fun hodd => .inr (.inl ⟨hok, q7, ⟨j, hj, ?_⟩, rfl, DevTo.of x7' c07⟩)) (fun hno => ?_)⟩
    · rcases (show j = 0 ∨ j = 1 by omega) with rfl | rfl
      · exact hodd
      · exact hodd
    refine (read_spec o7.own.rd o7.len o7.each hrl).mono ?_
    rw [hZ]
    rintro _ h8 ⟨e8, t, rfl, ot⟩
    have s7 := c7.size
    have s8 := e8.size
    have row7 := row6.chg c7 (Fz _ s03)
    have row8 := row7.ext e8
    have rt8 : Rd 1 h8 ts ((pickN A B j).2.1.map bv) := (rt6.eq fun a ha => c7.block _ (tb6 a ha).2 (Fz _ (by have := (tb6 a ha).1; omega))).ext e8
    have c08 := c07.tr (e8.chg F)
    have x8 := x7'.ext e8
    have hnext : pickN A B (j + 1) = pick1 j (readS (Z j)) (pickN A B j) := by
      rcases (show j = 0 ∨ j = 1 by omega) with rfl | rfl
      · rfl
      · rfl
    have hodd' : ∀ k, k < j + 1 → (Z k).any oddB = false := fun k hk => by
      by_cases e : k = j
      · subst e; exact hno
      · exact hodd k (by omega)
    have ej : iAdd .i64 (j : Int) (1 : Int) = ((j + 1 : Nat) : Int) := by rw [iAdd64 (by omega)]; push_cast; rfl
    refine ⟨t, _, rfl, _, rfl, _, row8.get rfl, IfB.dec (fun hgt => ?_) (fun hle => ?_)⟩
    · have hgt' : (pickN A B j).2.2 < (readS (Z j)).2 := Int.ofNat_lt.1 hgt
      refine ⟨_, rfl, ?_⟩
      obtain ⟨ok1, row9, y9, s9⟩ := row8.set (i := 5) (by simp [slC]) (.int .i64 (j : Int))
      refine ⟨ok1, _, rfl, ?_⟩
      obtain ⟨ok2, row10, y10, s10⟩ := row9.set (i := 6) (by simp [slC]) (.slice t.base t.len t.cap)
      refine ⟨ok2, _, rfl, ?_⟩
      obtain ⟨ok3, row11, y11, s11⟩ := row10.set (i := 7) (by simp [slC]) (.int .i64 ((readS (Z j)).2 : Int))
      refine ⟨ok3, m - 1, by omega, j + 1, t, q7, ej, by omega, ?_, ?_, fun a ha => ?_, ?_, ?_, hodd'⟩
      · rw [hnext, pick1, if_pos hgt']; exact row11
      · rw [hnext, pick1, if_pos hgt']
        refine ot.toRd.eq fun a ha => ?_
        have := (ot.lt ha).1
        have hne : a.block ≠ h3.size := by have := c7.size; have := row6.lt; omega
        rw [show (nw h3) = (⟨h3.size, 0, none⟩ : Addr) from rfl, y11 _ hne, y10 _ hne, y9 _ hne]
      · have h1 := (ot.lt ha)
        have := row6.lt
        refine ⟨by omega, ?_⟩
        have : (hset (hset (hset h8 ((⟨h3.size, 0, none⟩ : Addr).add 5) (.int .i64 (j : Int))) ((⟨h3.size, 0, none⟩ : Addr).add 6) (.slice t.base t.len t.cap)) ((⟨h3.size, 0, none⟩ : Addr).add 7) (.int .i64 ((readS (Z j)).2 : Int))).size = h8.size := by rw [s11, s10, s9]
        exact this ▸ h1.2
      · have hs : (hset (hset (hset h8 ((⟨h3.size, 0, none⟩ : Addr).add 5) (.int .i64 (j : Int))) ((⟨h3.size, 0, none⟩ : Addr).add 6) (.slice t.base t.len t.cap)) ((⟨h3.size, 0, none⟩ : Addr).add 7) (.int .i64 ((readS (Z j)).2 : Int))).size = h8.size := by rw [s11, s10, s9]
        refine x8.keep (by rw [show (nw h3) = (⟨h3.size, 0, none⟩ : Addr) from rfl, hs]; exact Nat.le_refl _) fun b hb => ?_
        have hne : b ≠ h3.size := fun e => by rw [e, Fz _ s03] at hb; exact hb rfl
        rw [show (nw h3) = (⟨h3.size, 0, none⟩ : Addr) from rfl, y11 _ hne, y10 _ hne, y9 _ hne]
      · refine ⟨by rw [show (nw h3) = (⟨h3.size, 0, none⟩ : Addr) from rfl, s11, s10, s9]; exact c08.size, fun b hb hFb => ?_⟩
        have hne : b ≠ h3.size := by omega
        rw [show (nw h3) = (⟨h3.size, 0, none⟩ : Addr) from rfl, y11 _ hne, y10 _ hne, y9 _ hne, c08.block b hb hFb]
    · have hle' : ¬ (pickN A B j).2.2 < (readS (Z j)).2 := fun h => hle (Int.ofNat_lt.2 h)
      refine ⟨m - 1, by omega, j + 1, ts, q7, ej, by omega, ?_, ?_, fun a ha => ⟨(tb6 a ha).1, by have := (tb6 a ha).2; omega⟩, x8, c08, hodd'⟩
      · rw [hnext, pick1, if_neg hle']; exact row8
      · rw [hnext, pick1, if_neg hle']; exact rt8
  · obtain rfl : j = 2 := by omega
    refine (Flush_spec x6).mono ?_
    rintro _ h7 ⟨rfl, F', x7, g7, c7⟩
    rw [flush_reads]
    have c07 := c6.tr c7
    have g07 : ∀ b, b < h.size → F' b = F b := fun b hb => g7 b (by omega)
    have hA : A.any oddB = false := hodd 0 (by omega)
    have hB : B.any oddB = false := hodd 1 (by omega)
    refine ⟨_, rfl, IfB.ne (fun hne => .inr (.inr ⟨hok, q, F', x7, g07, c07, hA, hB, .inl ⟨hne, rfl⟩⟩)) (fun heq => .inr (.inr ⟨hok, q, F', x7, g07, c07, hA, hB, .inr ⟨heq, h3.size, ts, s03, fun a ha => (tb6 a ha).1, rfl, ?_⟩⟩))⟩
    have sl : SlotAt F h6 h3.size db ⟨L, M, H, d.size, (pickS A B).1, (pickS A B).2.2, false⟩ (pickS A B).2.1 ts :=
      ⟨Fz _ s03, row6, rt6, fun a ha => ⟨Fz _ (by have := (tb6 a ha).1; omega), (tb6 a ha).2, by have := (tb6 a ha).1; omega⟩⟩
    have sl7 := sl.chg c7
    exact ⟨by rw [g7 _ row6.lt]; exact sl.role, sl7.row, sl7.text, fun a ha => ⟨by rw [g7 _ (sl.tb a ha).2.1]; exact (sl.tb a ha).1, (sl7.tb a ha).2⟩⟩

end Go.Proofs.Ytfelkonmhfejdaa

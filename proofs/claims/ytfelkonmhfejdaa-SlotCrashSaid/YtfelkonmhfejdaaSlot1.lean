/-
  slot.blocks: what stands in a slot's zones.
-/
import Derived.Test.YtfelkonmhfejdaaSlot0
namespace Go.Proofs.Ytfelkonmhfejdaa
set_option linter.unusedVariables false
set_option linter.unusedSimpArgs false

/-- a Slots. -/
structure SlV where
  f0 : Nat
  f1 : Nat
  f2 : Nat
  size : Nat
  inn : Nat
  count : Nat
  off : Bool
def SlV.f (S : SlV) (i : Nat) : Nat := if i = 0 then S.f0 else if i = 1 then S.f1 else S.f2
def slC (db : Nat) (S : SlV) (ts : Sl) : List Value := [dp db, .int .i64 (S.f0 : Int), .int .i64 (S.f1 : Int), .int .i64 (S.f2 : Int), .int .i64 (S.size : Int), .int .i64 (S.inn : Int), .slice ts.base ts.len ts.cap, .int .i64 (S.count : Int), .bool S.off]
theorem slC_f {h : Hp} {sb db : Nat} {S : SlV} {ts : Sl} (r : Row h sb (slC db S ts)) {i : Int} (k : Nat) (hi : i = k) (hk : k < 3) {K : Int → Prop} (hK : K (S.f k : Int)) :
    0 ≤ i ∧ i < ((3 : Nat) : Int) ∧ ∃ c : Int, hcell h (((⟨sb, 0, none⟩ : Addr).add 1).add (i.toNat * 1)) = some (.int .i64 c) ∧ K c := by
  subst hi
  refine ⟨by omega, by omega, _, ?_, hK⟩
  rw [add_add, Int.toNat_natCast, Nat.mul_one]
  match k, hk with
  | 0, _ => exact r.get rfl
  | 1, _ => exact r.get rfl
  | 2, _ => exact r.get rfl
theorem blocks_spec {lo : Nat} {F : Nat → Nat} {h : Hp} {db sb : Nat} {d : Dv} {S : SlV} {ts : Sl} (x : DevAt lo F h db d) (row : Row h sb (slC db S ts)) (hF : F sb = 0) (i : Nat) (hi : i < 2) (hr : S.f i ≤ S.f (i + 1)) (hn : S.f (i + 1) ≤ d.n) (hsz : S.size = d.size) :
    HCalls Try.prog fn_slot_Slots_blocks #[.pointer (some ⟨sb, 0, none⟩), .int .i64 (i : Int)] h fun r h' => ∃ (out : Sl) (rows : List (Sl × List UInt8)) (q : Int), r = .slice out.base out.len out.cap ∧ OwnRows h.size h' out rows ∧ rows.map (·.2) = zRows d (S.f i) (S.f (i + 1) - S.f i) ∧ DevAt lo F h' db (withReads d q) ∧ Chg F h h' := by
  apply slot_Slots_blocks_vc
  unfold vcslot_Slots_blocks
  have w := x.1
  have hnz := w.zones
  have hsz2 := w.size
  refine ⟨_, rfl, slC_f row i rfl (by omega) ?_⟩
  have ei : iAdd .i64 (i : Int) (1 : Int) = ((i + 1 : Nat) : Int) := by rw [iAdd64 (by omega)]; push_cast; rfl
  refine ⟨fun out z m h' => ∃ (j : Nat) (rows : List (Sl × List UInt8)) (q : Int), z = ((S.f i + j : Nat) : Int) ∧ m + j = S.f (i + 1) - S.f i ∧ OwnRows h.size h' out rows ∧ rows.map (·.2) ++ zRows d (S.f i + j) (S.f (i + 1) - S.f i - j) = zRows d (S.f i) (S.f (i + 1) - S.f i) ∧ rows.length ≤ j * 192 ∧ DevAt lo F h' db (withReads d q) ∧ Chg F h h', S.f (i + 1) - S.f i,
    ⟨0, [], d.reads, rfl, rfl, OwnRows.nil _ _, by simp, by simp, x, .refl _ _⟩, ?_⟩
  rintro _ out _ m h1 ⟨j, rows, q, rfl, hm, o1, hrows, hlen, x1, c1⟩
  have row1 := row.chg c1 hF
  have s1 := c1.size
  refine ⟨_, rfl, ?_⟩
  rw [ei]
  refine slC_f row1 (i + 1) rfl (by omega) (IfB.dec (fun hlt => ?_) (fun hge => ?_))
  · refine ⟨_, rfl, _, row1.get0 rfl, ?_⟩
    refine (Pointer_spec x1 _).mono ?_
    rintro _ h1' ⟨hh1, ⟨hno, _⟩ | ⟨k', hk', hkn, rfl⟩⟩
    · exact absurd ⟨by omega, by show ((S.f i + j : Nat) : Int) < (d.n : Int); omega⟩ hno
    obtain rfl := hh1.symm
    obtain rfl : k' = S.f i + j := by omega
    refine ⟨_, _, rfl, ?_⟩
    have hzr := (w.zone (S.f i + j)).rows
    refine ⟨fun out t m h' => ∃ (k : Nat) (rows' : List (Sl × List UInt8)) (q : Int), t = k ∧ m + k = (d.z (S.f i + j)).rows.length ∧ OwnRows h.size h' out rows' ∧ rows'.map (·.2) = rows.map (·.2) ++ (d.z (S.f i + j)).rows.take k ∧ DevAt lo F h' db (withReads d q) ∧ Chg F h h', (d.z (S.f i + j)).rows.length,
      ⟨0, rows, q, rfl, rfl, o1, by simp, x1, c1⟩, ?_⟩
    rintro _ out2 _ m2 h2 ⟨k, rows2, q2, rfl, hm2, o2, hrows2, x2, c2⟩
    have row2 := row.chg c2 hF
    have s2 := c2.size
    have hl2 : rows2.length = rows.length + min k (d.z (S.f i + j)).rows.length := by have := congrArg List.length hrows2; simpa using this
    refine IfB.dec (fun hlt2 => ?_) (fun hge2 => ?_)
    · have hk : k < (d.z (S.f i + j)).rows.length := by
        have : ((withReads d q).z (S.f i + j)).rows.length = (d.z (S.f i + j)).rows.length := rfl
        omega
      refine ⟨_, rfl, _, row2.get0 rfl, ?_⟩
      refine (Read_spec x2 _ _).mono ?_
      have hrd : (withReads d q2).read ((S.f i + j : Nat) : Int) (k : Int) = (((d.z (S.f i + j)).rows.getD k [], 0), (withReads d q2).read1) := by
        unfold Dv.read
        rw [if_neg (not_not_intro ⟨by omega, by show _ < (d.n : Int); omega⟩), if_neg (not_not_intro ⟨by omega, by show (k : Int) < (((d.z (((S.f i + j : Nat) : Int)).toNat).rows.length : Nat) : Int); rw [Int.toNat_natCast]; omega⟩)]
        rfl
      rw [hrd]
      rintro _ h3 ⟨u, rfl, ou, lu, x3, c3⟩
      refine ⟨u, _, rfl, ?_⟩
      intro h4
      have s3 := c3.size
      have F0 : ∀ b, h.size ≤ b → b < h2.size → h3[b]? = h2[b]? := fun b hb1 hb2 => by
        refine c3.block b hb2 ?_
        rcases Nat.eq_zero_or_pos (F b) with h0 | h0
        · exact h0
        · have := (x.dom b (by omega)).2; omega
      refine OwnRows.pushG rfl (o2.eq s3 F0) (by omega) ou.toRd (fun a ha => ⟨by have := (ou.lt ha).1; omega, (ou.lt ha).2, fun a' ha' => by have := (ou.lt ha).1; have := (o2.own.lt ha').2; omega⟩) (by omega) (by omega) fun r h5 o5 l5 k5 y5 => ?_
      have hF5 : ∀ b, F b ≠ 0 → h5[b]? = h3[b]? := fun b hb => k5.block b (x.dom b hb).2
      refine ⟨m2 - 1, by omega, k + 1, _, _, by rw [iAdd64 (by omega)]; push_cast; rfl, by omega, o5, ?_, x3.keep k5.size hF5, ?_⟩
      · rw [List.map_append, hrows2, List.take_succ_eq_append_getElem hk, List.append_assoc]
        simp [List.getD_eq_getElem?_getD, hk]
      · have c23 := c2.tr c3
        exact ⟨by have := k5.size; omega, fun b hb hFb => by rw [k5.block b hb, c23.block b hb hFb]⟩
    · have hk : k = (d.z (S.f i + j)).rows.length := by
        have : ((withReads d q).z (S.f i + j)).rows.length = (d.z (S.f i + j)).rows.length := rfl
        omega
      subst hk
      rw [List.take_length] at hrows2
      refine ⟨_, rfl, _, row2.get rfl, ?_⟩
      have hsub : S.f (i + 1) - S.f i - j = (S.f (i + 1) - S.f i - (j + 1)) + 1 := by omega
      rw [hsub, zRows] at hrows
      refine IfB.dec (fun hlt3 => ?_) (fun hge3 => ?_)
      · rw [if_pos (by have : ((withReads d q).z (S.f i + j)).rows.length = (d.z (S.f i + j)).rows.length := rfl; omega), List.append_nil] at hrows
        exact ⟨out2, rows2, q2, rfl, o2, by rw [hrows2, hrows], x2, c2⟩
      · rw [if_neg (by have : ((withReads d q).z (S.f i + j)).rows.length = (d.z (S.f i + j)).rows.length := rfl; omega), ← List.append_assoc, ← hrows2] at hrows
        refine ⟨m - 1, by omega, j + 1, rows2, q2, by rw [iAdd64 (by omega)]; push_cast; rfl, by omega, o2, ?_, by omega, x2, c2⟩
        exact hrows
  · have hj : S.f (i + 1) - S.f i - j = 0 := by omega
    rw [hj] at hrows
    simp only [zRows, List.append_nil] at hrows
    exact ⟨out, rows, q, rfl, o1, hrows, x1, c1⟩

/-- is one of the rows so? -/
theorem rowsContains_spec {f : Nat} {p : List UInt8 → Bool} {h : Hp} {s : Sl} {rows : List (Sl × List UInt8)} (hr : RdC h s.base (rows.map fun p => slV p.1)) (hl : s.len = rows.length) (each : ∀ x ∈ rows, Rd 1 h x.1 (x.2.map bv)) (hmax : rows.length ≤ 1000000)
    (hf : ∀ x ∈ rows, ∀ c : Sl, Rd 1 h c (x.2.map bv) → HCalls Try.prog f #[.slice c.base c.len c.cap] h fun r h' => r = .bool (p x.2) ∧ h' = h) :
    HCalls Try.prog fn_slices_ContainsFunc_ssbytesbyte #[.slice s.base s.len s.cap, .func (.func f) #[] #[]] h fun r h' => r = .bool (rows.any fun x => p x.2) ∧ h' = h := by
  apply slices_ContainsFunc_ssbytesbyte_vc
  unfold vcslices_ContainsFunc_ssbytesbyte
  have ix : HCalls Try.prog fn_slices_IndexFunc_ssbytesbyte #[.slice s.base s.len s.cap, .func (.func f) #[] #[]] h fun r h' => (∃ c : Int, r = .int .i64 c ∧ decide (c ≥ 0) = rows.any fun x => p x.2) ∧ h' = h := by
    apply slices_IndexFunc_ssbytesbyte_vc
    unfold vcslices_IndexFunc_ssbytesbyte
    refine ⟨fun i m h' => h = h' ∧ ∃ k : Nat, i = k ∧ m + k = rows.length ∧ (rows.take k).any (fun x => p x.2) = false, rows.length, ⟨rfl, 0, rfl, rfl, rfl⟩, ?_⟩
    rintro _ _ m _ ⟨rfl, k, rfl, hm, ht⟩
    refine IfB.dec (fun hlt => ?_) (fun hge => ?_)
    · have hk : k < rows.length := by omega
      refine ixS hr hl k rfl hk ?_
      refine (hf _ (List.getElem_mem hk) _ (each _ (List.getElem_mem hk))).mono ?_
      rintro _ h1 ⟨rfl, hh⟩
      obtain rfl := hh.symm
      refine ⟨_, rfl, IfB.intro (fun hp => ⟨⟨_, rfl, ?_⟩, rfl⟩) (fun hp => ⟨m - 1, by omega, rfl, k + 1, by rw [iAdd64 (by omega)]; push_cast; rfl, by omega, ?_⟩)⟩
      · have : (rows.any fun x => p x.2) = true := List.any_eq_true.2 ⟨rows[k], List.getElem_mem hk, hp⟩
        rw [this]; simp
      · rw [List.take_succ_eq_append_getElem hk, List.any_append, ht]; simp [hp]
    · rw [List.take_of_length_le (by omega)] at ht
      exact ⟨⟨_, rfl, by rw [ht]; rfl⟩, rfl⟩
  refine ix.mono ?_
  rintro _ h1 ⟨⟨c, rfl, hc⟩, hh⟩
  obtain rfl := hh.symm
  exact ⟨_, rfl, by rw [hc], rfl⟩
def oddB (p : List UInt8) : Bool := decide ((p.getD 0 0).toNat < 1 ∨ 3 < (p.getD 0 0).toNat)
theorem odd_spec {h : Hp} {s : Sl} {p : List UInt8} (r : Rd 1 h s (p.map bv)) (h0 : 0 < p.length) : HCalls Try.prog fn_slot_Open_1 #[.slice s.base s.len s.cap] h fun r h' => r = .bool (oddB p) ∧ h' = h := by
  apply slot_Open_1_vc
  unfold vcslot_Open_1
  have hl := r.lenB
  have hg : p[0].toNat = (p.getD 0 0).toNat := by rw [List.getD_eq_getElem?_getD, List.getElem?_eq_getElem h0]; rfl
  refine ixB r.rd hl 0 rfl h0 (IfB.dec (fun h1 => ⟨?_, rfl⟩) (fun h1 => ixB r.rd hl 0 rfl h0 ⟨?_, rfl⟩))
  · unfold oddB; rw [decide_eq_true (.inl (by omega))]
  · unfold oddB; rw [Value.bool.injEq, decide_eq_decide]; omega

end Go.Proofs.Ytfelkonmhfejdaa

/-
  BitsApart (chapter 6).
-/
import Derived.Test.YtkakpeojhjifgaaLaw6b
namespace Go.Proofs.Ytkakpeojhjifgaa
set_option linter.unusedVariables false
set_option linter.unusedSimpArgs false

/-- a slice of words, as numbers. -/
structure InN (k : IntKind) (h : Hp) (s : Sl) (l : List Nat) : Prop where
  len : l.length = s.len
  cap : s.len ≤ s.cap
  rd : RdC h s.base (l.map fun (n : Nat) => Value.int k (n : Int))
  lt : ∀ n ∈ l, n < 2 ^ k.bits
theorem InI.nats64 {h : Hp} {s : Sl} {l : List Int} (H : InI .u64 h s l) : ∃ ns : List Nat, InN .u64 h s ns := by
  have e : (l.map Int.toNat).map (fun (n : Nat) => Value.int .u64 (n : Int)) = l.map (Value.int .u64) := by
    rw [List.map_map]
    refine List.map_congr_left fun n hn => ?_
    obtain ⟨m, rfl, _⟩ := in_u64 (H.wf n hn)
    simp
  refine ⟨l.map Int.toNat, by simpa using H.len, H.cap, by rw [e]; exact H.rd, ?_⟩
  intro n hn
  obtain ⟨m, hm, rfl⟩ := List.mem_map.1 hn
  obtain ⟨q, rfl, hq⟩ := in_u64 (H.wf m hm)
  simpa [IntKind.bits] using hq
/-- reading a word. -/
theorem ixN {k : IntKind} {h : Hp} {s : Sl} {l : List Nat} (hr : RdC h s.base (l.map fun (n : Nat) => Value.int k (n : Int))) (hl : l.length = s.len) {i : Int} (j : Nat) (hi : i = j) (hk : j < l.length) {K : Int → Prop}
    (hK : K (l[j] : Int)) : ∃ a : Addr, s.base = some a ∧ 0 ≤ i ∧ i < (s.len : Int) ∧ ∃ c : Int, hcell h (a.add (i.toNat * 1)) = some (.int k c) ∧ K c :=
  ix1 hr (by simpa using hl) j hi (by simpa using hk) fun a _ hc => ⟨_, by simpa using hc, hK⟩
def catV (ns : List Nat) : List UInt8 := (ns.map varintL).flatten
theorem catV_snoc {ns : List Nat} {j : Nat} (hj : j < ns.length) : catV (ns.take (j + 1)) = catV (ns.take j) ++ varintL ns[j] := by
  unfold catV; rw [List.take_succ_eq_append_getElem hj, List.map_append, List.flatten_append]
  simp only [List.map_cons, List.map_nil, List.flatten_cons, List.flatten_nil, List.append_nil]
theorem catV_drop {ns : List Nat} {j : Nat} (hj : j < ns.length) : catV (ns.drop j) = varintL ns[j] ++ catV (ns.drop (j + 1)) := by
  unfold catV; rw [List.drop_eq_getElem_cons hj, List.map_cons, List.flatten_cons]
theorem catV_len {ns : List Nat} (hlt : ∀ n ∈ ns, n < 2 ^ 64) : (catV ns).length ≤ 10 * ns.length := by
  induction ns with
  | nil => simp [catV]
  | cons n r ih =>
    have h1 := vlen_le10 (hlt n (by simp))
    have h2 := ih (fun m hm => hlt m (by simp [hm]))
    have h3 : (varintL n).length = vlen n := rfl
    simp only [catV, List.map_cons, List.flatten_cons, List.length_append, List.length_cons] at h2 ⊢
    omega
theorem minI (a b : Nat) : (if (a : Int) < (b : Int) then (a : Int) else (b : Int)) = ((min b a : Nat) : Int) := by
  split <;> omega

theorem BitsApart_spec {h : Hp} {l : Sl} {ns : List Nat} (hb : InN .u64 h l ns) : HCalls Try.prog fn_scarplaw6_BitsApart #[.slice l.base l.len l.cap] h (Yes h) := by
  apply scarplaw6_BitsApart_vc
  unfold vcscarplaw6_BitsApart
  have ll := hb.len
  have hlt : ∀ j (hj : j < ns.length), ns[j] < 2 ^ 64 := fun j hj => hb.lt _ (List.getElem_mem hj)
  refine IfB.dec (fun _ => aw6 (.refl h)) (fun hle => ?_)
  have h60 : ns.length ≤ 60 := by omega
  refine ⟨fun b i m h' => ∃ j : Nat, i = j ∧ j ≤ ns.length ∧ m = ns.length - j ∧ Ext h h' ∧ Own h.size 1 h' b ((catV (ns.take j)).map bv), ns.length, ⟨0, rfl, by omega, by omega, .refl h, by simpa [catV] using Own.nil h.size 1 h⟩, ?_⟩
  rintro _ b _ _ h1 ⟨j, rfl, hj, rfl, e1, ob⟩
  refine IfB.dec (fun hlt1 => ?_) (fun hge => ?_)
  · have hj' : j < ns.length := by omega
    refine ixN (hb.rd.ext e1) ll j rfl hj' ?_
    refine (Varint_spec _ (hlt j hj') h1).mono ?_
    rintro _ h2 ⟨x, rfl, ox, lx, ex⟩
    refine ⟨_, rfl, ?_⟩
    have hx10 := vlen_le10 (hlt j hj')
    have hxv : (varintL ns[j]).length = vlen ns[j] := rfl
    have hbl := ob.len
    have hcl := catV_len (ns := ns.take j) (fun n hn => hb.lt n (List.mem_of_mem_take hn))
    simp only [List.length_map, List.length_take] at hbl hcl
    refine AppC_own (news := (varintL ns[j]).map bv) rfl (ob.ext ex) (e1.trans ex).size (by simpa using lx.symm) ox.rd (cellOk_bv _) (by omega) (by omega) fun s h3 os ls ks _ => ?_
    have e3 : Ext h h3 := ((e1.trans ex).toKeep.trans ks).ext
    rw [← List.map_append, ← catV_snoc hj'] at os
    refine ⟨fun k m h' => ∃ q : Nat, k = q ∧ q ≤ j ∧ m = j - q ∧ Ext h3 h', j, ⟨0, rfl, by omega, by omega, .refl _⟩, ?_⟩
    rintro _ _ _ h4 ⟨q, rfl, hq, rfl, e4⟩
    refine IfB.dec (fun hq1 => ?_) (fun hq1 => ?_)
    · have hq' : q < ns.length := by omega
      refine ixN (hb.rd.ext (e3.trans e4)) ll j rfl hj' ?_
      refine (Varint_spec _ (hlt j hj') h4).mono ?_
      rintro _ h5 ⟨y, rfl, oy, ly, ey⟩
      refine ⟨_, rfl, ?_⟩
      refine ixN (hb.rd.ext ((e3.trans e4).trans ey)) ll q rfl hq' ?_
      refine (Varint_spec _ (hlt q hq') h5).mono ?_
      rintro _ h6 ⟨z, rfl, oz, lz, ez⟩
      have hy10 := vlen_le10 (hlt q hq')
      have hyv : (varintL ns[q]).length = vlen ns[q] := rfl
      have cy := oy.toRd.cap
      have cz := oz.toRd.cap
      refine ⟨_, rfl, ?_⟩
      rw [minI]
      refine ⟨by omega, by omega, by omega, by omega, by omega, by omega, by omega, by omega, ?_⟩
      have e6 := ((e3.trans e4).trans ey).trans ez
      refine ixN (hb.rd.ext e6) ll j rfl hj' ?_
      refine ixN (hb.rd.ext e6) ll q rfl hq' ?_
      have cc1 := (oy.ext ez).toRd.cutB (lo := 0) (hi := min y.len z.len) (m := y.cap) (by omega) (by omega) (by omega)
      have cc2 := oz.toRd.cutB (lo := 0) (hi := min y.len z.len) (m := z.cap) (by omega) (by omega) (by omega)
      refine (Bytes_spec cc1 cc2 (by simp; omega)).mono ?_
      rintro _ h7 ⟨rfl, rfl⟩
      refine ⟨_, rfl, .refl _, ?_⟩
      have happ := varint_apart (hlt j hj') (hlt q hq')
      refine IfB.no ?_ ?_
      · simp only [List.drop_zero, Nat.sub_zero]
        rw [ly, lz, hxv, hyv]
        by_cases hne : ns[j] = ns[q]
        · simp [hne]
        · have : ¬ (List.take (min (vlen ns[j]) (vlen ns[q])) (varintL ns[j]) = List.take (min (vlen ns[j]) (vlen ns[q])) (varintL ns[q])) := fun hh => hne (happ.1 hh)
          have hne' : ((ns[j] : Int) == (ns[q] : Int)) = false := by simp; omega
          simp [this, hne']
      · refine ⟨j - (q + 1), by omega, q + 1, ?_, by omega, rfl, (e4.trans ey).trans ez⟩
        rw [iAdd64 (by omega)]; omega
    · refine ⟨ns.length - (j + 1), by omega, j + 1, ?_, by omega, rfl, e3.trans e4, os.ext e4⟩
      rw [iAdd64 (by omega)]; omega
  · have hjn : j = ns.length := by omega
    subst hjn
    rw [List.take_length] at ob
    refine ⟨fun b i m h' => h1 = h' ∧ ∃ q : Nat, i = q ∧ q ≤ ns.length ∧ m = ns.length - q ∧ Rd 1 h1 b ((catV (ns.drop q)).map bv), ns.length, ⟨rfl, 0, rfl, by omega, by omega, by simpa using ob.toRd⟩, ?_⟩
    rintro _ b1 _ _ _ ⟨rfl, q, rfl, hq, rfl, rb⟩
    have hcl := catV_len (ns := ns.drop q) (fun n hn => hb.lt n (List.mem_of_mem_drop hn))
    simp only [List.length_drop] at hcl
    have lb := rb.lenB
    have cb := rb.cap
    refine IfB.dec (fun hq1 => ?_) (fun hq1 => ?_)
    · have hq' : q < ns.length := by omega
      refine (Unvarint_spec rb (by omega)).mono ?_
      rintro _ h9 ⟨rfl, rfl⟩
      have hd := catV_drop hq'
      have hu := unvar_whole (hlt q hq') (catV (ns.drop (q + 1)))
      rw [← hd] at hu
      rw [hu]
      refine ⟨_, _, rfl, ?_⟩
      refine ixN (hb.rd.ext e1) ll q rfl hq' ?_
      have hpos : 0 < vlen ns[q] := varintL_len_pos _
      have hlen : (catV (ns.drop q)).length = vlen ns[q] + (catV (ns.drop (q + 1))).length := by rw [hd, List.length_append]; rfl
      refine IfB.no (by simp) (IfB.dec (fun hh => by simp only at hh; omega) (fun _ => IfB.dec (fun hh => by simp only at hh; omega) (fun _ => ?_)))
      refine ⟨by simp only; omega, by simp only; omega, by omega, by omega, ns.length - (q + 1), by omega, rfl, q + 1, ?_, by omega, rfl, ?_⟩
      · rw [iAdd64 (by omega)]; omega
      · have c := rb.cutB (lo := vlen ns[q]) (hi := b1.len) (m := b1.cap) (by omega) (by omega) (by omega)
        have hd2 : (catV (ns.drop q)).drop (vlen ns[q]) = catV (ns.drop (q + 1)) := by rw [hd]; exact List.drop_left' rfl
        rw [hd2, List.take_of_length_le (by omega)] at c
        exact c
    · have : q = ns.length := by omega
      subst this
      have h0 : (catV (ns.drop ns.length)).length = 0 := by simp [catV]
      refine IfB.eq (fun _ => aw6 e1) (fun hne => by omega)
theorem BitsApart_law {h : Hp} (s : Sl) (l : List Int) (w : InI .u64 h s l) : HCalls Try.prog fn_scarplaw6_BitsApart #[.slice s.base s.len s.cap] h (Yes h) := by
  obtain ⟨ns, hb⟩ := w.nats64
  exact BitsApart_spec hb

end Go.Proofs.Ytkakpeojhjifgaa

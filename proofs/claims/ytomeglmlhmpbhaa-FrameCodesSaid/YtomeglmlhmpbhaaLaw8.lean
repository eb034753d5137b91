/-
  FrameLimits (chapter 8).
-/
import Derived.Test.YtomeglmlhmpbhaaFrame2
import Derived.Test.YtomeglmlhmpbhaaBlockB
namespace Go.Proofs.Ytomeglmlhmpbhaa
set_option linter.unusedVariables false
set_option linter.unusedSimpArgs false

theorem encOf_get0 (k e s l : Nat) (bs : List UInt8) : (encOf (preL k e s l bs))[0]? = some (UInt8.ofNat k) := by simp [encOf, covL, preL]
theorem awake8_spec (h : Hp) : HCalls Try.prog fn_scarplaw8_awake #[] h (Yes h) := by
  apply scarplaw8_awake_vc
  unfold vcscarplaw8_awake
  refine (Encode_spec 4 0 0 0 (b := Sl.nil) (bs := []) (Rd.nil 1 h)).mono ?_
  rintro _ h1 ⟨e1, ⟨hn, _⟩ | ⟨_, hl, _⟩ | ⟨_, _, t, rfl, o, lt⟩⟩
  · exact absurd (by decide) hn
  · simp at hl
  refine ⟨t, _, rfl, .yes rfl (.yes (by simp [lt]) ?_)⟩
  have g0 := encOf_get0 (4 : Int).toNat (0 : Int).toNat (0 : Int).toNat (0 : Int).toNat []
  obtain ⟨hlt, hg⟩ := List.getElem?_eq_some_iff.1 g0
  refine ixB o.rd o.toRd.lenB 0 rfl hlt (.yes ?_ ?_)
  · rw [hg]; decide
  · refine MkC_own (n := 64) (by omega) (by omega) ?_
    have rz : Rd 1 (alc h1 (List.replicate 64 (.int .u8 (0 : Int))) ty_uint8) ⟨some (nw h1), 64, 64⟩ ((List.replicate 64 (0 : UInt8)).map bv) := by
      have := (Own.alc h1 (List.replicate 64 (.int .u8 (0 : Int))) ty_uint8 64 1 (by simp)).toRd
      simpa [bv] using this
    refine (Plain_spec rz (by simp)).mono ?_
    rintro _ _ ⟨rfl, rfl⟩
    refine ⟨_, rfl, .yes (by decide) ?_⟩
    have o2 := o.ext (alc_ext h1 (List.replicate 64 (.int .u8 (0 : Int))) ty_uint8)
    have hl64 := o.toRd.lenB
    refine (Plain_spec o2.toRd (by omega)).mono ?_
    rintro _ h3 ⟨rfl, rfl⟩
    refine ⟨_, rfl, ?_, e1.trans (alc_ext _ _ _)⟩
    have : (List.any (encOf (preL (4 : Int).toNat (0 : Int).toNat (0 : Int).toNat (0 : Int).toNat [])) fun c => (c.toNat : Int) != 0) = true :=
      List.any_eq_true.2 ⟨_, List.getElem_mem hlt, by rw [hg]; decide⟩
    rw [this]; simp
theorem aw8 {h h1 : Hp} (e : Ext h h1) : HCalls Try.prog fn_scarplaw8_awake #[] h1 fun r vh => ∃ c1 : Bool, r = .bool c1 ∧ Yes h (.bool c1) vh :=
  (awake8_spec h1).mono (by rintro _ h2 ⟨rfl, e2⟩; exact ⟨_, rfl, rfl, e.trans e2⟩)
theorem FrameLimits_law {h : Hp} (n : Int) (_ : (Lit.int .i64 n).wf = true) (lba : Int) (_ : (Lit.int .i64 lba).wf = true) (seq : Int) (_ : (Lit.int .i64 seq).wf = true) (epoch : Int) (_ : (Lit.int .i64 epoch).wf = true) (kind : Int) (_ : (Lit.int .i64 kind).wf = true) :
    HCalls Try.prog fn_scarplaw8_FrameLimits #[.int .i64 n, .int .i64 lba, .int .i64 seq, .int .i64 epoch, .int .i64 kind] h (Yes h) := by
  apply scarplaw8_FrameLimits_vc
  unfold vcscarplaw8_FrameLimits
  refine IfB.dec (fun _ => aw8 (.refl _)) (fun h0 => IfB.dec (fun _ => aw8 (.refl _)) (fun h60 => ?_))
  refine (Block_spec n 1 (by omega) h).mono ?_
  rintro _ h1 ⟨t, rfl, ot, lt, e1⟩
  rw [blockL_length] at lt
  refine ⟨_, rfl, ?_⟩
  refine (Encode_spec kind epoch seq lba ot.toRd).mono ?_
  rintro r h2 ⟨e2, hr⟩
  rw [blockL_length] at hr
  have ex := e1.trans e2
  obtain ⟨b, c, rfl, hc⟩ : ∃ (b : Sl) (c : Int), r = .tuple #[.slice b.base b.len b.cap, .int .i64 c] ∧ (okB kind epoch seq lba → (40 < n.toNat → c = 3) ∧ (¬ 40 < n.toNat → c = 0)) ∧ (¬ okB kind epoch seq lba → c = 1) := by
    rcases hr with ⟨hn, rfl⟩ | ⟨ok, hl, rfl⟩ | ⟨ok, hl, u, rfl, _, _⟩
    · exact ⟨Sl.nil, 1, rfl, fun ok => absurd ok hn, fun _ => rfl⟩
    · exact ⟨Sl.nil, 3, rfl, fun _ => ⟨fun _ => rfl, fun h => absurd hl h⟩, fun h => absurd ok h⟩
    · exact ⟨u, 0, rfl, fun _ => ⟨fun h => by omega, fun _ => rfl⟩, fun h => absurd ok h⟩
  refine ⟨b, c, rfl, ?_⟩
  by_cases ok : okB kind epoch seq lba
  · have hc1 := hc.1 ok
    obtain ⟨o1, o2, o3, o4⟩ := ok
    refine IfB.dec (fun _ => by omega) (fun _ => IfB.dec (fun _ => by omega) (fun _ => IfB.dec (fun _ => by omega) (fun _ => IfB.dec (fun _ => by omega) (fun _ => IfB.dec (fun _ => by omega) (fun _ => IfB.dec (fun _ => by omega) (fun _ => IfB.dec (fun _ => by omega) (fun _ => IfB.dec (fun _ => by omega) (fun _ => IfB.dec (fun h40 => ?_) (fun h40 => ?_)))))))))
    · exact .yes (by rw [hc1.1 (by omega)]; rfl) (aw8 ex)
    · exact .yes (by rw [hc1.2 (by omega)]; rfl) (aw8 ex)
  · have hc1 := hc.2 ok
    subst hc1
    refine IfB.dec (fun _ => ?_) (fun _ => IfB.dec (fun _ => ?_) (fun _ => IfB.dec (fun _ => ?_) (fun _ => IfB.dec (fun _ => ?_) (fun _ => IfB.dec (fun _ => ?_) (fun _ => IfB.dec (fun _ => ?_) (fun _ => IfB.dec (fun _ => ?_) (fun _ => IfB.dec (fun _ => ?_) (fun _ => ?_))))))))
    iterate 8 (first | exact .yes rfl (aw8 ex) | skip)
    all_goals first | exact .yes rfl (aw8 ex) | exact absurd (show okB kind epoch seq lba from ⟨by omega, by omega, by omega, by omega⟩) ok

end Go.Proofs.Ytomeglmlhmpbhaa

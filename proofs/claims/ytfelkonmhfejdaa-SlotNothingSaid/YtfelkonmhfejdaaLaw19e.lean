/-
  SlotNothing (chapter 19).
-/
import Derived.Test.YtfelkonmhfejdaaLaw19
namespace Go.Proofs.Ytfelkonmhfejdaa
set_option linter.unusedVariables false
set_option linter.unusedSimpArgs false

theorem OpenNone_spec (h : Hp) (a b c : Int) : HCalls Try.prog fn_slot_Open #[.pointer none, .int .i64 a, .int .i64 b, .int .i64 c] h fun r h' => r = .tuple #[.pointer none, .int .i64 1] ∧ Ext h h' := by
  apply slot_Open_vc
  unfold vcslot_Open
  refine (Geometry_none h).mono ?_
  rintro _ h1 ⟨rfl, e1⟩
  refine ⟨_, _, rfl, ?_⟩
  intro h2
  refine loc2 rfl rfl fun h3 e3 r3 => ?_
  exact ⟨_, r3.get0 rfl, .yes rfl ⟨rfl, e1.trans e3⟩⟩
theorem RoomNone_spec (h : Hp) : HCalls Try.prog fn_slot_Slots_Room #[.pointer none] h fun r h' => r = .int .i64 0 ∧ h' = h := by
  apply slot_Slots_Room_vc
  unfold vcslot_Slots_Room
  exact .yes rfl ⟨rfl, rfl⟩
theorem DeadNone_spec (h : Hp) : HCalls Try.prog fn_slot_Slots_Dead #[.pointer none] h fun r h' => r = .bool true ∧ h' = h := by
  apply slot_Slots_Dead_vc
  unfold vcslot_Slots_Dead
  exact .yes rfl ⟨rfl, rfl⟩
theorem LoadNone_spec (h : Hp) : HCalls Try.prog fn_slot_Slots_Load #[.pointer none] h fun r h' => r = .tuple #[.slice Sl.nil.base Sl.nil.len Sl.nil.cap, .int .i64 0] ∧ h' = h := by
  apply slot_Slots_Load_vc
  unfold vcslot_Slots_Load
  exact .yes rfl ⟨rfl, rfl⟩
theorem SaveNone_spec (h : Hp) (s : Sl) : HCalls Try.prog fn_slot_Slots_Save #[.pointer none, .slice s.base s.len s.cap] h fun r h' => r = .int .i64 (if 0 < s.len then 7 else 12) ∧ h' = h := by
  apply slot_Slots_Save_vc
  unfold vcslot_Slots_Save
  refine (RoomNone_spec h).mono ?_
  rintro _ h1 ⟨rfl, hh⟩
  obtain rfl := hh.symm
  refine ⟨_, rfl, IfB.dec (fun h1 => ⟨by rw [if_pos (by omega)], rfl⟩) (fun h1 => ?_)⟩
  refine (DeadNone_spec _).mono ?_
  rintro _ h2 ⟨rfl, hh⟩
  obtain rfl := hh.symm
  exact ⟨_, rfl, .yes rfl ⟨by rw [if_neg (by omega)], rfl⟩⟩
theorem new_rows (f k : Nat) : zRows (Dv.new 8 96) f k = [] := zRows_nil _ _ fun j _ _ => by rw [Dv.new_z]
theorem SlotNothing_law {h : Hp} (low : Int) (_ : (Lit.int .i64 low).wf = true) (mid : Int) (_ : (Lit.int .i64 mid).wf = true) (high : Int) (_ : (Lit.int .i64 high).wf = true) :
    HCalls Try.prog fn_scarplaw19_SlotNothing #[.int .i64 low, .int .i64 mid, .int .i64 high] h (Yes h) := by
  apply scarplaw19_SlotNothing_vc
  unfold vcscarplaw19_SlotNothing
  refine (dev19_spec h).mono ?_
  rintro _ h1 ⟨_, _, rfl, F, db, rfl, rfl, x, e1⟩
  refine ⟨_, _, rfl, .no rfl ?_⟩
  have op : HCalls Try.prog fn_slot_Open #[dp db, .int .i64 low, .int .i64 mid, .int .i64 high] h1 fun r h' => ∃ (c : Option Addr) (e : Int), r = .tuple #[.pointer c, .int .i64 e] ∧ Ext h h' ∧ ((OpenOk (Dv.new 8 96) low mid high ∧ c.isSome = true ∧ e = 0) ∨ (¬ OpenOk (Dv.new 8 96) low mid high ∧ c = none ∧ e = 1)) := by
    refine (Open_spec x low mid high).mono ?_
    rintro _ h2 (⟨hno, rfl, e2⟩ | ⟨_, q, ⟨i, hi, hodd⟩, _⟩ | ⟨ok, q, F', x', g', c', _, _, hcase⟩)
    · exact ⟨_, _, rfl, e1.trans e2, .inr ⟨hno, rfl, rfl⟩⟩
    · rw [new_rows] at hodd; cases hodd
    · rcases hcase with ⟨hne, _⟩ | ⟨_, sb, ts, _, _, rfl, _⟩
      · rw [flush_live (new_live 8 96)] at hne; exact absurd rfl hne
      · exact ⟨_, _, rfl, c'.ext e1 fun b hb => x.F0 hb, .inl ⟨ok, rfl, rfl⟩⟩
  refine op.mono ?_
  rintro _ h2 ⟨c, e, rfl, e2, hcase⟩
  refine ⟨_, _, rfl, ?_⟩
  refine (OpenNone_spec h2 _ _ _).mono ?_
  rintro _ h3 ⟨rfl, e3⟩
  refine ⟨_, _, rfl, ?_⟩
  refine (LoadNone_spec h3).mono ?_
  rintro _ h3' ⟨rfl, hh⟩
  obtain rfl := hh.symm
  have e03 := e2.trans e3
  refine ⟨Sl.nil, _, rfl, ?_⟩
  have hn8 : ((Dv.new 8 96).n : Int) = 8 := rfl
  -- what comes behind
  have rest : HCalls Try.prog fn_slot_Slots_Room #[.pointer none] h3 fun r4 vh5 =>
            ∃ c8 : Int, r4 = .int .i64 c8 ∧
            IfB (c8 == (0 : Int)) (let vh6 := alc vh5 [.int .u8 (120 : Int)] ty_uint8;
              ∃ a : Addr, (Sl.mk (some (nw vh5)) 1 1).base = some a ∧
              let vh7 := hstr vh6 a;
              HCalls Try.prog fn_slot_Slots_Save #[.pointer none, .slice (Sl.mk (some (nw vh5)) 1 1).base (Sl.mk (some (nw vh5)) 1 1).len (Sl.mk (some (nw vh5)) 1 1).cap] vh7 fun r5 vh8 =>
              ∃ c9 : Int, r5 = .int .i64 c9 ∧
              IfB (c9 == (7 : Int)) (HCalls Try.prog fn_slot_Slots_Save #[.pointer none, .slice Sl.nil.base Sl.nil.len Sl.nil.cap] vh8 fun r6 vh9 =>
                ∃ c10 : Int, r6 = .int .i64 c10 ∧
                IfB (c10 == (12 : Int)) (IfB ((Sl.nil.len : Int) == (0 : Int)) (IfB ((0 : Int) == (0 : Int)) (HCalls Try.prog fn_slot_Slots_Dead #[.pointer none] vh9 fun r7 vh10 =>
                      ∃ c11 : Bool, r7 = .bool c11 ∧
                      IfB c11 (HCalls Try.prog fn_scarplaw19_awake #[] vh10 fun r8 vh11 =>
                        ∃ c12 : Bool, r8 = .bool c12 ∧
                        Yes h (.bool c12) vh11)
                      (Yes h (.bool false) vh10))
                    (Yes h (.bool false) vh9))
                  (Yes h (.bool false) vh9))
                (Yes h (.bool false) vh9))
              (Yes h (.bool false) vh8))
            (Yes h (.bool false) vh5) := by
    refine (RoomNone_spec h3).mono ?_
    rintro _ h4 ⟨rfl, hh⟩
    obtain rfl := hh.symm
    refine ⟨_, rfl, .yes rfl ?_⟩
    intro h5
    refine ⟨_, rfl, ?_⟩
    intro h6
    obtain ⟨e6, s6, r6⟩ : Ext h3 h6 ∧ h6.size = h3.size + 1 ∧ RdC h6 (some (nw h3)) ([120].map bv) := strFacts h3 [120] ty_uint8
    refine (SaveNone_spec h6 (Sl.mk (some (nw h3)) 1 1)).mono ?_
    rintro _ h7 ⟨rfl, hh⟩
    obtain rfl := hh.symm
    refine ⟨_, rfl, .yes rfl ?_⟩
    refine (SaveNone_spec h6 Sl.nil).mono ?_
    rintro _ h7 ⟨rfl, hh⟩
    obtain rfl := hh.symm
    refine ⟨_, rfl, .yes rfl (.yes rfl (.yes rfl ?_))⟩
    refine (DeadNone_spec h6).mono ?_
    rintro _ h7 ⟨rfl, hh⟩
    obtain rfl := hh.symm
    exact ⟨_, rfl, .tt (aw19 (e03.trans e6))⟩
  rcases hcase with ⟨ok, hc, rfl⟩ | ⟨hno, rfl, rfl⟩
  · obtain ⟨o1, o2, o3, o4⟩ := ok
    rw [hn8] at o4
    refine ⟨fun b vh => b = true ∧ h3 = vh, .yes (by simp; omega) (.yes (by simp; omega) (.yes (by simp; omega) ⟨by simp; omega, rfl⟩)), ?_⟩
    rintro _ _ vh4 ⟨rfl, rfl⟩
    obtain ⟨a, rfl⟩ := Option.isSome_iff_exists.1 hc
    exact .yes rfl (.yes rfl (.tt (.yes rfl rest)))
  · refine ⟨fun b vh => b = false ∧ h3 = vh, IfB.dec (fun h1 => IfB.dec (fun h2 => IfB.dec (fun h3 => ⟨by simp only [decide_eq_false_iff_not]; intro h4; exact hno ⟨by omega, h2, h3, by rw [hn8]; exact h4⟩, rfl⟩) (fun _ => ⟨rfl, rfl⟩)) (fun _ => ⟨rfl, rfl⟩)) (fun _ => ⟨rfl, rfl⟩), ?_⟩
    rintro _ _ vh4 ⟨rfl, rfl⟩
    exact .yes rfl (.yes rfl (.ff (.yes rfl (.yes rfl rest))))

end Go.Proofs.Ytfelkonmhfejdaa

-- Written by this repo's gprint.py over the kit's printer, out of the translation. Not trusted: Lean checks it.
import Derived.Test.YtfnicahlnpngkaaDoorPPaxReadsx0
import Derived.Test.YtfnicahlnpngkaaDoorPPaxReadsx1
import Derived.Test.YtfnicahlnpngkaaDoorPPaxReadsx2
import Derived.Test.YtfnicahlnpngkaaDoorPPaxReadsx3
import Derived.Test.YtfnicahlnpngkaaDoorPPaxReadsx4
import Derived.Test.YtfnicahlnpngkaaDoorPPaxReadsx6
import Derived.Test.YtfnicahlnpngkaaDoorDoorPutOfPaxReads
namespace Go.Proofs.YtfnicahlnpngkaaDoor.PPaxReads
open Go.RowKit Go.Proofs.YtfnicahlnpngkaaDoorW.PrintWords Go.Proofs.YtfnicahlnpngkaaDoorW.PrintLast Go.Proofs.YtfnicahlnpngkaaDoorW.PrintMore
attribute [local go_sem] max2_int min2_int max_two min_two max_three min_three max_four min_four   -- for this text's walks alone
open Go.Proofs.YtfnicahlnpngkaaDoor.DoorCut Go.Proofs.YtfnicahlnpngkaaDoor.DoorLen Go.Proofs.YtfnicahlnpngkaaDoor.DoorPutOfPaxReads
set_option linter.unusedVariables false
set_option linter.unusedSimpArgs false

attribute [local go_sem high] eqA39
/-! ### stevedoreref23_SameRecords: function 13 -/
def stevedoreref23_SameRecords.l0 : Nat → List (S39) → List (S39) → Int → Option (Bool)
  | 0, _, _, _ => none
  | k + 1, x0, x1, x5 => if x5 < (x0.length : Int) then (if 0 ≤ x5 then (if x5 < (x1.length : Int) then (if (!((((rd_T39 x0 x5).f0).toList) == (((rd_T39 x1 x5).f0).toList)) || (!((((rd_T39 x0 x5).f1).toList) == (((rd_T39 x1 x5).f1).toList)))) = true then (some false) else (stevedoreref23_SameRecords.l0 k x0 x1 (wrap64 (x5 + 1)))) else (none)) else (none)) else (some true)
def stevedoreref23_SameRecords.f (k : Nat) (l0 : List (S39)) (l1 : List (S39)) : Option (Bool) := if (l0.length : Int) = (l1.length : Int) then (stevedoreref23_SameRecords.l0 k l0 l1 0) else (some false)
theorem stevedoreref23_SameRecords.mono_l : ∀ k, (∀ y0 y1 y2, LeO (stevedoreref23_SameRecords.l0 k y0 y1 y2) (stevedoreref23_SameRecords.l0 (k + 1) y0 y1 y2))
  | 0 => fun _ _ _ r h => by simp [stevedoreref23_SameRecords.l0] at h
  | k + 1 => by
    have ih0 := stevedoreref23_SameRecords.mono_l k
    · intro y0 y1 y2
      unfold stevedoreref23_SameRecords.l0
      repeat' first
      | (with_reducible exact ih0 _ _ _)
      | (with_reducible exact LeO.refl _)
      | (with_reducible exact LeO.none _)
      | (with_reducible refine LeO.ite ?_ ?_)
      | (with_reducible refine LeO.bind ?_ (fun _ => ?_))
      | exact ih0 _ _ _
      | exact LeO.none _
      | refine LeO.ite ?_ ?_
      | refine LeO.bind ?_ (fun _ => ?_)
theorem stevedoreref23_SameRecords.mono : ∀ a0 a1 k, LeO (stevedoreref23_SameRecords.f k a0 a1) (stevedoreref23_SameRecords.f (k + 1) a0 a1) := by
  intro a0 a1 k
  have ih0 := stevedoreref23_SameRecords.mono_l k
  unfold stevedoreref23_SameRecords.f
  repeat' first
      | (with_reducible exact ih0 _ _ _)
      | (with_reducible exact LeO.refl _)
      | (with_reducible exact LeO.none _)
      | (with_reducible refine LeO.ite ?_ ?_)
      | (with_reducible refine LeO.bind ?_ (fun _ => ?_))
      | exact ih0 _ _ _
      | exact LeO.none _
      | refine LeO.ite ?_ ?_
      | refine LeO.bind ?_ (fun _ => ?_)
set_option maxHeartbeats 8000000 in
set_option maxRecDepth 100000 in
theorem stevedoreref23_SameRecords.calls (k : Nat) (A0 : Option Addr) (c0 : Nat) (l0 : List (S39)) (A1 : Option Addr) (c1 : Nat) (l1 : List (S39)) (r : Bool) (w : World) (hr0 : Kd.C k39 w A0 l0.length l0) (hc0 : l0.length ≤ c0) (hr1 : Kd.C k39 w A1 l1.length l1) (hc1 : l1.length ≤ c1) (h : stevedoreref23_SameRecords.f k l0 l1 = some r) :
    Calls Tryd.prog 13 #[.slice A0 l0.length c0, .slice A1 l1.length c1] w fun e w' => e = .returned (.bool r) ∧ Drawn0 w w' := by
  have hu39 := Tryd.underlying39
  have HR0 := Aside0.mk hr0
  have HC0 := Aside0.mk hc0
  clear hr0 hc0
  have HR1 := Aside0.mk hr1
  have HC1 := Aside0.mk hc1
  clear hr1 hc1
  have H : (if (l0.length : Int) = (l1.length : Int) then (stevedoreref23_SameRecords.l0 k l0 l1 0) else (some false)) = some r := h
  clear h
  by_cases c3 : (l0.length : Int) = (l1.length : Int)
  · rw [if_pos c3] at H
    have c3b0 : ((l0.length : Int) == (l1.length : Int)) = true := beq_iff_eq.mpr c3
    have c3b1 : ((l0.length : Int) != (l1.length : Int)) = false := bne_eq_false_iff_eq.mpr c3
    have c3b2 : (l0.length == l1.length) = true := by first | simpa using c3 | (simp at c3 ⊢; omega)
    clear c3
    have H' := Aside0.mk H
    clear H
    go_enter Tryd.func13, Tryd.ntmps13
    go_wp2
    repeat (go_quiet (fail); try go_wp2)
    go_loopg [5] k (fun kq v5 w' => ∃ (x5_1 : Int), v5 = .int .i64 x5_1 ∧ Aside0 (stevedoreref23_SameRecords.l0 kq l0 l1 x5_1 = some r) ∧ Aside0 (kq ≤ k) ∧ Drawn0 w w')
    case atStart => exact ⟨(0), (by first | rfl | (simp; done) | (simp [*]; done)), H', ⟨Nat.le_refl _⟩, by repeat (first | exact Drawn0.refl _ | apply Drawn0.step)⟩
    case round =>
      clear H'
      try clear c1
      try clear p2
      try clear c3
      try clear c3b0
      try clear c3b1
      try clear c3b2
      obtain ⟨x5_1, rfl, HA, HK1, ⟨m1, rfl⟩⟩ := hrel
      cases gk with
      | zero => exact absurd HA.out (by simp [stevedoreref23_SameRecords.l0])
      | succ k1 =>
        have H := HA.out
        clear HA
        simp only [stevedoreref23_SameRecords.l0] at H
        by_cases c4 : x5_1 < (l0.length : Int)
        · rw [if_pos c4] at H
          have c4b0 : decide (x5_1 < (l0.length : Int)) = true := decide_eq_true c4
          clear c4
          by_cases c5 : 0 ≤ x5_1
          · rw [if_pos c5] at H
            have c5b0 : decide (0 ≤ x5_1) = true := decide_eq_true c5
            clear c5
            by_cases c6 : x5_1 < (l1.length : Int)
            · rw [if_pos c6] at H
              have c6b0 : decide (x5_1 < (l1.length : Int)) = true := decide_eq_true c6
              clear c6
              by_cases c7 : (!((((rd_T39 l0 x5_1).f0).toList) == (((rd_T39 l1 x5_1).f0).toList)) || (!((((rd_T39 l0 x5_1).f1).toList) == (((rd_T39 l1 x5_1).f1).toList)))) = true
              · rw [if_pos c7] at H
                have c7b0 : (!((((rd_T39 l0 x5_1).f0).toList) == (((rd_T39 l1 x5_1).f0).toList)) || (!((((rd_T39 l0 x5_1).f1).toList) == (((rd_T39 l1 x5_1).f1).toList)))) = true := c7
                clear c7
                obtain rfl := Option.some.inj H
                have p149 : 0 ≤ (x5_1 : Int) := of_decide_eq_true (by first | (with_reducible assumption) | assumption)
                have q149 : x5_1 < (l0.length : Int) := of_decide_eq_true (by first | (with_reducible assumption) | assumption)
                obtain ⟨ad149, e149, hx149_0, hx149_1⟩ := at_T39 HR0.out x5_1 p149 q149
                cases e149
                replace p149 := eq_true p149
                replace q149 := eq_true q149
                have p150 : 0 ≤ (x5_1 : Int) := of_decide_eq_true (by first | (with_reducible assumption) | assumption)
                have q150 : x5_1 < (l1.length : Int) := of_decide_eq_true (by first | (with_reducible assumption) | assumption)
                obtain ⟨ad150, e150, hx150_0, hx150_1⟩ := at_T39 HR1.out x5_1 p150 q150
                cases e150
                replace p150 := eq_true p150
                replace q150 := eq_true q150
                go_wp2
                repeat (go_quiet (fail); try go_wp2)
                go_ret
                exact ⟨by first | rfl | (simp; done) | (simp [*]; done), by repeat (first | exact Drawn0.refl _ | apply Drawn0.step)⟩
              · rw [if_neg c7] at H
                have c7b0 : (!((((rd_T39 l0 x5_1).f0).toList) == (((rd_T39 l1 x5_1).f0).toList)) || (!((((rd_T39 l0 x5_1).f1).toList) == (((rd_T39 l1 x5_1).f1).toList)))) = false := by simpa using c7
                clear c7
                have H' := Aside0.mk H
                clear H
                have p149 : 0 ≤ (x5_1 : Int) := of_decide_eq_true (by first | (with_reducible assumption) | assumption)
                have q149 : x5_1 < (l0.length : Int) := of_decide_eq_true (by first | (with_reducible assumption) | assumption)
                obtain ⟨ad149, e149, hx149_0, hx149_1⟩ := at_T39 HR0.out x5_1 p149 q149
                cases e149
                replace p149 := eq_true p149
                replace q149 := eq_true q149
                have p150 : 0 ≤ (x5_1 : Int) := of_decide_eq_true (by first | (with_reducible assumption) | assumption)
                have q150 : x5_1 < (l1.length : Int) := of_decide_eq_true (by first | (with_reducible assumption) | assumption)
                obtain ⟨ad150, e150, hx150_0, hx150_1⟩ := at_T39 HR1.out x5_1 p150 q150
                cases e150
                replace p150 := eq_true p150
                replace q150 := eq_true q150
                go_wp2
                repeat (go_quiet (fail); try go_wp2)
                go_roundg k1
                case measure => have := HK1.out; omega
                case rel => exact ⟨(wrap64 (x5_1 + 1)), (by first | rfl | (simp; done) | (simp [*]; done)), H', ⟨by have := HK1.out; omega⟩, by repeat (first | exact Drawn0.refl _ | apply Drawn0.step)⟩
            · rw [if_neg c6] at H
              exact absurd H (by simp)
          · rw [if_neg c5] at H
            exact absurd H (by simp)
        · rw [if_neg c4] at H
          have c4b0 : decide (x5_1 < (l0.length : Int)) = false := decide_eq_false c4
          clear c4
          obtain rfl := Option.some.inj H
          go_wp2
          repeat (go_quiet (fail); try go_wp2)
          go_ret
          exact ⟨by first | rfl | (simp; done) | (simp [*]; done), by repeat (first | exact Drawn0.refl _ | apply Drawn0.step)⟩
  · rw [if_neg c3] at H
    have c3b0 : ((l0.length : Int) == (l1.length : Int)) = false := beq_eq_false_iff_ne.mpr c3
    have c3b1 : ((l0.length : Int) != (l1.length : Int)) = true := bne_iff_ne.mpr c3
    have c3b2 : (l0.length == l1.length) = false := by first | simpa using c3 | (simp at c3 ⊢; omega)
    obtain rfl := Option.some.inj H
    go_enter Tryd.func13, Tryd.ntmps13
    go_wp2
    repeat (go_quiet (fail); try go_wp2)
    go_ret
    exact ⟨by first | rfl | (simp; done) | (simp [*]; done), by repeat (first | exact Drawn0.refl _ | apply Drawn0.step)⟩

/-! ### stevedorelaw24_PaxReads: function 3 -/
mutual
def stevedorelaw24_PaxReads.j0 : Nat → ByteArray → List (S39) → Int → Int → Bool → Option (Bool)
  | 0, _, _, _, _, _ => none
  | k + 1, x0, x1, x2, x3, x25 => if x25 = true then ((stevedorelaw24_told.f k).bind fun t152 => (some t152)) else ((stevedoreref23_PutRecords.f k x1).bind fun bt153 => (if (bt153.1.size : Int) > 0 then (if (bt153.1.size : Int) = 0 then (none) else (if 0 ≤ (Int.tmod (wrap64 ((Int.tmod x2 (bt153.1.size : Int)) + (bt153.1.size : Int))) (bt153.1.size : Int)) then (if (Int.tmod (wrap64 ((Int.tmod x2 (bt153.1.size : Int)) + (bt153.1.size : Int))) (bt153.1.size : Int)) ≤ (bt153.1.size : Int) then (if (Int.tmod (wrap64 ((Int.tmod x2 (bt153.1.size : Int)) + (bt153.1.size : Int))) (bt153.1.size : Int)) < (bt153.1.size : Int) then ((some (([Go.bits .xor .u8 (bt bt153.1 (Int.tmod (wrap64 ((Int.tmod x2 (bt153.1.size : Int)) + (bt153.1.size : Int))) (bt153.1.size : Int))) x3] : List Int) : List Int)).bind fun y155 => (if (bt153.1.extract 0 ((Int.tmod (wrap64 ((Int.tmod x2 (bt153.1.size : Int)) + (bt153.1.size : Int))) (bt153.1.size : Int)) : Int).toNat).size + (strOfNums y155).size ≤ 9223372036854775807 then (if 0 ≤ (wrap64 ((Int.tmod (wrap64 ((Int.tmod x2 (bt153.1.size : Int)) + (bt153.1.size : Int))) (bt153.1.size : Int)) + 1)) then (if (wrap64 ((Int.tmod (wrap64 ((Int.tmod x2 (bt153.1.size : Int)) + (bt153.1.size : Int))) (bt153.1.size : Int)) + 1)) ≤ (bt153.1.size : Int) then (if ((bt153.1.extract 0 ((Int.tmod (wrap64 ((Int.tmod x2 (bt153.1.size : Int)) + (bt153.1.size : Int))) (bt153.1.size : Int)) : Int).toNat) ++ (strOfNums y155)).size + (bt153.1.extract ((wrap64 ((Int.tmod (wrap64 ((Int.tmod x2 (bt153.1.size : Int)) + (bt153.1.size : Int))) (bt153.1.size : Int)) + 1)) : Int).toNat bt153.1.size).size ≤ 9223372036854775807 then (stevedorelaw24_PaxReads.j1 k x0 (((bt153.1.extract 0 ((Int.tmod (wrap64 ((Int.tmod x2 (bt153.1.size : Int)) + (bt153.1.size : Int))) (bt153.1.size : Int)) : Int).toNat) ++ (strOfNums y155)) ++ (bt153.1.extract ((wrap64 ((Int.tmod (wrap64 ((Int.tmod x2 (bt153.1.size : Int)) + (bt153.1.size : Int))) (bt153.1.size : Int)) + 1)) : Int).toNat bt153.1.size))) else (none)) else (none)) else (none)) else (none))) else (none)) else (none)) else (none))) else (stevedorelaw24_PaxReads.j1 k x0 bt153.1)))
def stevedorelaw24_PaxReads.j1 : Nat → ByteArray → ByteArray → Option (Bool)
  | 0, _, _ => none
  | k + 1, x0, x9 => (some (([x0, x9] : List ByteArray) : List ByteArray)).bind fun y158 => (stevedorelaw24_PaxReads.l0 k y158 (y158.length : Int) 0)
def stevedorelaw24_PaxReads.l0 : Nat → List ByteArray → Int → Int → Option (Bool)
  | 0, _, _, _ => none
  | k + 1, x63, x64, x65 => if x65 < x64 then (if 0 ≤ x65 then (if x65 < (x63.length : Int) then ((pax_Read.f k (rdOf ByteArray.empty x63 x65)).bind fun bt163 => ((stevedoreref23_Records.f k (rdOf ByteArray.empty x63 x65)).bind fun bt167 => ((stevedoreref23_SameRecords.f k bt163.1 bt167.1).bind fun t171 => (if t171 = true then (if bt163.2 = bt167.2 then (stevedorelaw24_PaxReads.l0 k x63 x64 (wrap64 (x65 + 1))) else (some false)) else (some false))))) else (none)) else (none)) else ((stevedorelaw24_told.f k).bind fun t161 => (some t161))
end
def stevedorelaw24_PaxReads.f (k : Nat) (a0 : ByteArray) (l1 : List (S39)) (a2 : Int) (a3 : Int) : Option (Bool) := if (a0.size : Int) > 2000 then (stevedorelaw24_PaxReads.j0 k a0 l1 a2 a3 true) else ((stevedorelaw24_few.f k l1).bind fun t151 => (stevedorelaw24_PaxReads.j0 k a0 l1 a2 a3 (!t151)))
theorem stevedorelaw24_PaxReads.mono_l : ∀ k, (∀ y0 y1 y2 y3 y4, LeO (stevedorelaw24_PaxReads.j0 k y0 y1 y2 y3 y4) (stevedorelaw24_PaxReads.j0 (k + 1) y0 y1 y2 y3 y4)) ∧ (∀ y0 y1, LeO (stevedorelaw24_PaxReads.j1 k y0 y1) (stevedorelaw24_PaxReads.j1 (k + 1) y0 y1)) ∧ (∀ y0 y1 y2, LeO (stevedorelaw24_PaxReads.l0 k y0 y1 y2) (stevedorelaw24_PaxReads.l0 (k + 1) y0 y1 y2))
  | 0 => ⟨fun _ _ _ _ _ r h => by simp [stevedorelaw24_PaxReads.j0] at h, fun _ _ r h => by simp [stevedorelaw24_PaxReads.j1] at h, fun _ _ _ r h => by simp [stevedorelaw24_PaxReads.l0] at h⟩
  | k + 1 => by
    obtain ⟨ih0, ih1, ih2⟩ := stevedorelaw24_PaxReads.mono_l k
    refine ⟨?_, ?_, ?_⟩
    · intro y0 y1 y2 y3 y4
      unfold stevedorelaw24_PaxReads.j0
      repeat' first
      | (with_reducible exact ih0 _ _ _ _ _)
      | (with_reducible exact ih1 _ _)
      | (with_reducible exact ih2 _ _ _)
      | (with_reducible exact pax_Read.mono _ _)
      | (with_reducible exact stevedorelaw24_few.mono _ _)
      | (with_reducible exact stevedorelaw24_told.mono _)
      | (with_reducible exact stevedoreref23_PutRecords.mono _ _)
      | (with_reducible exact stevedoreref23_Records.mono _ _)
      | (with_reducible exact stevedoreref23_SameRecords.mono _ _ _)
      | (with_reducible exact LeO.refl _)
      | (with_reducible exact LeO.none _)
      | (with_reducible refine LeO.ite ?_ ?_)
      | (with_reducible refine LeO.bind ?_ (fun _ => ?_))
      | exact ih0 _ _ _ _ _
      | exact ih1 _ _
      | exact ih2 _ _ _
      | exact pax_Read.mono _ _
      | exact stevedorelaw24_few.mono _ _
      | exact stevedorelaw24_told.mono _
      | exact stevedoreref23_PutRecords.mono _ _
      | exact stevedoreref23_Records.mono _ _
      | exact stevedoreref23_SameRecords.mono _ _ _
      | exact LeO.none _
      | refine LeO.ite ?_ ?_
      | refine LeO.bind ?_ (fun _ => ?_)
    · intro y0 y1
      unfold stevedorelaw24_PaxReads.j1
      repeat' first
      | (with_reducible exact ih0 _ _ _ _ _)
      | (with_reducible exact ih1 _ _)
      | (with_reducible exact ih2 _ _ _)
      | (with_reducible exact pax_Read.mono _ _)
      | (with_reducible exact stevedorelaw24_few.mono _ _)
      | (with_reducible exact stevedorelaw24_told.mono _)
      | (with_reducible exact stevedoreref23_PutRecords.mono _ _)
      | (with_reducible exact stevedoreref23_Records.mono _ _)
      | (with_reducible exact stevedoreref23_SameRecords.mono _ _ _)
      | (with_reducible exact LeO.refl _)
      | (with_reducible exact LeO.none _)
      | (with_reducible refine LeO.ite ?_ ?_)
      | (with_reducible refine LeO.bind ?_ (fun _ => ?_))
      | exact ih0 _ _ _ _ _
      | exact ih1 _ _
      | exact ih2 _ _ _
      | exact pax_Read.mono _ _
      | exact stevedorelaw24_few.mono _ _
      | exact stevedorelaw24_told.mono _
      | exact stevedoreref23_PutRecords.mono _ _
      | exact stevedoreref23_Records.mono _ _
      | exact stevedoreref23_SameRecords.mono _ _ _
      | exact LeO.none _
      | refine LeO.ite ?_ ?_
      | refine LeO.bind ?_ (fun _ => ?_)
    · intro y0 y1 y2
      unfold stevedorelaw24_PaxReads.l0
      repeat' first
      | (with_reducible exact ih0 _ _ _ _ _)
      | (with_reducible exact ih1 _ _)
      | (with_reducible exact ih2 _ _ _)
      | (with_reducible exact pax_Read.mono _ _)
      | (with_reducible exact stevedorelaw24_few.mono _ _)
      | (with_reducible exact stevedorelaw24_told.mono _)
      | (with_reducible exact stevedoreref23_PutRecords.mono _ _)
      | (with_reducible exact stevedoreref23_Records.mono _ _)
      | (with_reducible exact stevedoreref23_SameRecords.mono _ _ _)
      | (with_reducible exact LeO.refl _)
      | (with_reducible exact LeO.none _)
      | (with_reducible refine LeO.ite ?_ ?_)
      | (with_reducible refine LeO.bind ?_ (fun _ => ?_))
      | exact ih0 _ _ _ _ _
      | exact ih1 _ _
      | exact ih2 _ _ _
      | exact pax_Read.mono _ _
      | exact stevedorelaw24_few.mono _ _
      | exact stevedorelaw24_told.mono _
      | exact stevedoreref23_PutRecords.mono _ _
      | exact stevedoreref23_Records.mono _ _
      | exact stevedoreref23_SameRecords.mono _ _ _
      | exact LeO.none _
      | refine LeO.ite ?_ ?_
      | refine LeO.bind ?_ (fun _ => ?_)
theorem stevedorelaw24_PaxReads.mono : ∀ a0 a1 a2 a3 k, LeO (stevedorelaw24_PaxReads.f k a0 a1 a2 a3) (stevedorelaw24_PaxReads.f (k + 1) a0 a1 a2 a3) := by
  intro a0 a1 a2 a3 k
  obtain ⟨ih0, ih1, ih2⟩ := stevedorelaw24_PaxReads.mono_l k
  unfold stevedorelaw24_PaxReads.f
  repeat' first
      | (with_reducible exact ih0 _ _ _ _ _)
      | (with_reducible exact ih1 _ _)
      | (with_reducible exact ih2 _ _ _)
      | (with_reducible exact pax_Read.mono _ _)
      | (with_reducible exact stevedorelaw24_few.mono _ _)
      | (with_reducible exact stevedorelaw24_told.mono _)
      | (with_reducible exact stevedoreref23_PutRecords.mono _ _)
      | (with_reducible exact stevedoreref23_Records.mono _ _)
      | (with_reducible exact stevedoreref23_SameRecords.mono _ _ _)
      | (with_reducible exact LeO.refl _)
      | (with_reducible exact LeO.none _)
      | (with_reducible refine LeO.ite ?_ ?_)
      | (with_reducible refine LeO.bind ?_ (fun _ => ?_))
      | exact ih0 _ _ _ _ _
      | exact ih1 _ _
      | exact ih2 _ _ _
      | exact pax_Read.mono _ _
      | exact stevedorelaw24_few.mono _ _
      | exact stevedorelaw24_told.mono _
      | exact stevedoreref23_PutRecords.mono _ _
      | exact stevedoreref23_Records.mono _ _
      | exact stevedoreref23_SameRecords.mono _ _ _
      | exact LeO.none _
      | refine LeO.ite ?_ ?_
      | refine LeO.bind ?_ (fun _ => ?_)
def stevedorelaw24_PaxReads.T6 : Bool × List (List Nat × List Nat) := (true, [([], []), ([], []), ([0, 1], [0, 1]), ([], []), ([], []), ([3, 4], [3, 4]), ([], []), ([5, 6], [5, 6]), ([7], [7]), ([8], [8]), ([2, 9], [2, 9]), ([], []), ([], []), ([12], [12]), ([11, 13], [11, 13]), ([10, 14], [10, 14]), ([15, 0, 1, 2, 3, 4, 5, 6, 7, 8, 9, 10, 11, 12, 13, 14, 15], [0, 3, 11, 15])])
def stevedorelaw24_PaxReads.B6 : List Nat := [0, 0, 3, 0, 0, 24, 0, 120, 248, 504, 1023, 0, 0, 4096, 14336, 32767, 65535]
theorem stevedorelaw24_PaxReads.tab6 : rtab .any (opsOf Tryd.f3 6) = stevedorelaw24_PaxReads.T6 := by kernel_rfl
theorem stevedorelaw24_PaxReads.bits6 : waitsOk stevedorelaw24_PaxReads.T6.2 stevedorelaw24_PaxReads.B6 = true := by kernel_rfl
set_option maxHeartbeats 8000000 in
set_option maxRecDepth 100000 in
theorem stevedorelaw24_PaxReads.calls (k : Nat) (a0 : ByteArray) (A1 : Option Addr) (c1 : Nat) (l1 : List (S39)) (a2 : Int) (a3 : Int) (r : Bool) (w : World) (hr1 : Kd.C k39 w A1 l1.length l1) (hc1 : l1.length ≤ c1) (h : stevedorelaw24_PaxReads.f k a0 l1 a2 a3 = some r) (hv : Vars w) :
    Calls Tryd.prog 3 #[.string a0, .slice A1 l1.length c1, .int .i64 a2, .int .u8 a3] w fun e w' => e = .returned (.bool r) ∧ Below w.heap.size w w' := by
  have HVARS := Aside0.mk hv
  have HR1 := Aside0.mk hr1
  have HC1 := Aside0.mk hc1
  clear hr1 hc1
  have HB := Aside0.mk (Below.refl w.heap.size w)
  have H : (if (a0.size : Int) > 2000 then (stevedorelaw24_PaxReads.j0 k a0 l1 a2 a3 true) else ((stevedorelaw24_few.f k l1).bind fun t151 => (stevedorelaw24_PaxReads.j0 k a0 l1 a2 a3 (!t151)))) = some r := h
  clear h
  have HC5 := Aside0.mk H
  clear H
  go_enter Tryd.func3, Tryd.ntmps3
  go_upto_region 1 with (fail)
  go_cut [25] (fun v25 wc => ∃ (kq : Nat) (x25_4 : Bool), v25 = .bool x25_4 ∧ Aside0 (stevedorelaw24_PaxReads.j0 kq a0 l1 a2 a3 x25_4 = some r) ∧ Aside0 (kq ≤ k) ∧ Aside0 (Below w.heap.size w wc))
  case first =>
    have H := HC5.out
    clear HC5
    by_cases c6 : (a0.size : Int) > 2000
    · rw [if_pos c6] at H
      have c6b0 : decide (2000 < (a0.size : Int)) = true := decide_eq_true c6
      have c6b1 : decide (2000 < a0.size) = true := decide_eq_true (by omega)
      clear c6
      (first | rw [c6b0] | (simp only [i64_w, i32_w]; rw [c6b0]) | rw [c6b1] | skip)
      have H' := Aside0.mk H
      clear H
      go_wp2
      go_meet
      case rel => exact ⟨_, (true), (by first | rfl | (simp; done) | (simp [*]; done)), H', ⟨by first | omega | exact Nat.le_refl _⟩, ⟨by repeat (first | (with_reducible first | exact HB.out | apply below_alloc | apply pw_below_drewN | apply below_drew1) | exact HB.out)⟩⟩
    · rw [if_neg c6] at H
      have c6b0 : decide (2000 < (a0.size : Int)) = false := decide_eq_false c6
      have c6b1 : decide (2000 < a0.size) = false := decide_eq_false (by omega)
      clear c6
      (first | rw [c6b0] | (simp only [i64_w, i32_w]; rw [c6b0]) | rw [c6b1] | skip)
      replace H := Option.bind_eq_some_iff.mp H
      obtain ⟨t151, A70, H⟩ := H
      replace H : (stevedorelaw24_PaxReads.j0 k a0 l1 a2 a3 (!t151)) = some r := H
      have A7 := Aside0.mk A70
      clear A70
      have H' := Aside0.mk H
      clear H
      go_wp2_with (first | (go_at_call 8; (with_reducible refine (stevedorelaw24_few.calls k _ _ l1 t151 _ ?side1 ?side2 A7.out).mono ?_); (case side1 => repeat (first | exact (Kd.C_below HR1.out HB.out) | (with_reducible refine Kd.C_alloc ?_ _) | (with_reducible refine Kd.C_drewN ?_ _) | (with_reducible refine Kd.C_drew ?_))); (case side2 => exact HC1.out); rintro e w' ⟨rfl, ⟨nd, rfl⟩⟩))
      go_meet
      case rel => exact ⟨_, (!t151), (by first | rfl | (simp; done) | (simp [*]; done)), H', ⟨by first | omega | exact Nat.le_refl _⟩, ⟨by repeat (first | (with_reducible first | exact HB.out | apply below_alloc | apply pw_below_drewN | apply below_drew1) | exact HB.out)⟩⟩
  case rest =>
    clear HC5
    try clear c1
    try clear p2
    try clear c3
    try clear c6
    try clear c6b0
    try clear c6b1
    obtain ⟨kq, x25_4, rfl, HA, HJ4, HB⟩ := hcut
    cases kq with
    | zero => exact absurd HA.out (by simp [stevedorelaw24_PaxReads.j0])
    | succ kj4 =>
      have H := HA.out
      clear HA
      simp only [stevedorelaw24_PaxReads.j0] at H
      by_cases c8 : x25_4 = true
      · subst c8
        have H1 : ((stevedorelaw24_told.f kj4).bind fun t152 => (some t152)) = some r := by rw [if_pos rfl] at H; exact H
        clear H
        have H := H1
        clear H1
        replace H := Option.bind_eq_some_iff.mp H
        obtain ⟨t152, A90, H⟩ := H
        replace H : (some t152) = some r := H
        have A9 := Aside0.mk A90
        clear A90
        obtain rfl := Option.some.inj H
        go_wp2_with (first | ((with_reducible refine gate_callee (f := 9) rfl ?_); refine goesL_ (some 26) rfl rfl Tryd.func9 (by kernel_rfl) rfl #[] rfl (by (try simp only [List.map_toArray, List.map_cons, List.map_nil]); first | done | rfl | (simp only [List.length_drop, List.length_take]; rfl)) ?_; (with_reducible refine (stevedorelaw24_told.calls kj4  t152 _ A9.out (Vars.below HVARS.out (by repeat (first | (with_reducible first | exact HB.out | apply below_alloc | apply pw_below_drewN | apply below_drew1) | exact HB.out)))).mono ?_); rintro e w10 ⟨rfl, hb⟩; refine ⟨_, rfl, ?_⟩; have n0_ := Aside0.mk (below_step (by repeat (first | (with_reducible first | exact HB.out | apply below_alloc | apply pw_below_drewN | apply below_drew1) | exact HB.out)) hb); clear HB; have HB := n0_; clear n0_; (try clear hb); (try clear hb2); (try clear hk); (try clear hi)))
        go_ret
        exact ⟨by first | rfl | (simp only [show ∀ l : List UInt8, (l != []) = (!l.isEmpty) from fun l => by cases l <;> rfl]; rfl) | (simp [errW_none, errW_some] <;> rfl) | (simp [*, errW_none, errW_some] <;> rfl), by repeat (first | (with_reducible first | exact HB.out | apply below_alloc | apply pw_below_drewN | apply below_drew1) | exact HB.out)⟩
      · replace c8 := Bool.eq_false_iff.mpr c8
        subst c8
        have H1 : ((stevedoreref23_PutRecords.f kj4 l1).bind fun bt153 => (if (bt153.1.size : Int) > 0 then (if (bt153.1.size : Int) = 0 then (none) else (if 0 ≤ (Int.tmod (wrap64 ((Int.tmod a2 (bt153.1.size : Int)) + (bt153.1.size : Int))) (bt153.1.size : Int)) then (if (Int.tmod (wrap64 ((Int.tmod a2 (bt153.1.size : Int)) + (bt153.1.size : Int))) (bt153.1.size : Int)) ≤ (bt153.1.size : Int) then (if (Int.tmod (wrap64 ((Int.tmod a2 (bt153.1.size : Int)) + (bt153.1.size : Int))) (bt153.1.size : Int)) < (bt153.1.size : Int) then ((some (([Go.bits .xor .u8 (bt bt153.1 (Int.tmod (wrap64 ((Int.tmod a2 (bt153.1.size : Int)) + (bt153.1.size : Int))) (bt153.1.size : Int))) a3] : List Int) : List Int)).bind fun y155 => (if (bt153.1.extract 0 ((Int.tmod (wrap64 ((Int.tmod a2 (bt153.1.size : Int)) + (bt153.1.size : Int))) (bt153.1.size : Int)) : Int).toNat).size + (strOfNums y155).size ≤ 9223372036854775807 then (if 0 ≤ (wrap64 ((Int.tmod (wrap64 ((Int.tmod a2 (bt153.1.size : Int)) + (bt153.1.size : Int))) (bt153.1.size : Int)) + 1)) then (if (wrap64 ((Int.tmod (wrap64 ((Int.tmod a2 (bt153.1.size : Int)) + (bt153.1.size : Int))) (bt153.1.size : Int)) + 1)) ≤ (bt153.1.size : Int) then (if ((bt153.1.extract 0 ((Int.tmod (wrap64 ((Int.tmod a2 (bt153.1.size : Int)) + (bt153.1.size : Int))) (bt153.1.size : Int)) : Int).toNat) ++ (strOfNums y155)).size + (bt153.1.extract ((wrap64 ((Int.tmod (wrap64 ((Int.tmod a2 (bt153.1.size : Int)) + (bt153.1.size : Int))) (bt153.1.size : Int)) + 1)) : Int).toNat bt153.1.size).size ≤ 9223372036854775807 then (stevedorelaw24_PaxReads.j1 kj4 a0 (((bt153.1.extract 0 ((Int.tmod (wrap64 ((Int.tmod a2 (bt153.1.size : Int)) + (bt153.1.size : Int))) (bt153.1.size : Int)) : Int).toNat) ++ (strOfNums y155)) ++ (bt153.1.extract ((wrap64 ((Int.tmod (wrap64 ((Int.tmod a2 (bt153.1.size : Int)) + (bt153.1.size : Int))) (bt153.1.size : Int)) + 1)) : Int).toNat bt153.1.size))) else (none)) else (none)) else (none)) else (none))) else (none)) else (none)) else (none))) else (stevedorelaw24_PaxReads.j1 kj4 a0 bt153.1))) = some r := by rw [if_neg (show ¬ (false = true) by decide)] at H; exact H
        clear H
        have H := H1
        clear H1
        replace H := Option.bind_eq_some_iff.mp H
        obtain ⟨⟨t153, t154⟩, A110, H⟩ := H
        replace H : (if (t153.size : Int) > 0 then (if (t153.size : Int) = 0 then (none) else (if 0 ≤ (Int.tmod (wrap64 ((Int.tmod a2 (t153.size : Int)) + (t153.size : Int))) (t153.size : Int)) then (if (Int.tmod (wrap64 ((Int.tmod a2 (t153.size : Int)) + (t153.size : Int))) (t153.size : Int)) ≤ (t153.size : Int) then (if (Int.tmod (wrap64 ((Int.tmod a2 (t153.size : Int)) + (t153.size : Int))) (t153.size : Int)) < (t153.size : Int) then ((some (([Go.bits .xor .u8 (bt t153 (Int.tmod (wrap64 ((Int.tmod a2 (t153.size : Int)) + (t153.size : Int))) (t153.size : Int))) a3] : List Int) : List Int)).bind fun y155 => (if (t153.extract 0 ((Int.tmod (wrap64 ((Int.tmod a2 (t153.size : Int)) + (t153.size : Int))) (t153.size : Int)) : Int).toNat).size + (strOfNums y155).size ≤ 9223372036854775807 then (if 0 ≤ (wrap64 ((Int.tmod (wrap64 ((Int.tmod a2 (t153.size : Int)) + (t153.size : Int))) (t153.size : Int)) + 1)) then (if (wrap64 ((Int.tmod (wrap64 ((Int.tmod a2 (t153.size : Int)) + (t153.size : Int))) (t153.size : Int)) + 1)) ≤ (t153.size : Int) then (if ((t153.extract 0 ((Int.tmod (wrap64 ((Int.tmod a2 (t153.size : Int)) + (t153.size : Int))) (t153.size : Int)) : Int).toNat) ++ (strOfNums y155)).size + (t153.extract ((wrap64 ((Int.tmod (wrap64 ((Int.tmod a2 (t153.size : Int)) + (t153.size : Int))) (t153.size : Int)) + 1)) : Int).toNat t153.size).size ≤ 9223372036854775807 then (stevedorelaw24_PaxReads.j1 kj4 a0 (((t153.extract 0 ((Int.tmod (wrap64 ((Int.tmod a2 (t153.size : Int)) + (t153.size : Int))) (t153.size : Int)) : Int).toNat) ++ (strOfNums y155)) ++ (t153.extract ((wrap64 ((Int.tmod (wrap64 ((Int.tmod a2 (t153.size : Int)) + (t153.size : Int))) (t153.size : Int)) + 1)) : Int).toNat t153.size))) else (none)) else (none)) else (none)) else (none))) else (none)) else (none)) else (none))) else (stevedorelaw24_PaxReads.j1 kj4 a0 t153)) = some r := H
        have A11 := Aside0.mk A110
        clear A110
        have HC12 := Aside0.mk H
        clear H
        go_upto_if 34 with (first | ((with_reducible refine gate_callee (f := 10) rfl ?_); refine goesL_ (some 29) rfl rfl Tryd.func10 (by kernel_rfl) rfl #[.slice A1 l1.length c1] rfl (by (try simp only [List.map_toArray, List.map_cons, List.map_nil]); first | done | rfl | (simp only [List.length_drop, List.length_take]; rfl)) ?_; (with_reducible refine (stevedoreref23_PutRecords.calls kj4 _ _ l1 t153 t154 _ ?side1 ?side2 A11.out (Vars.below HVARS.out (by repeat (first | (with_reducible first | exact HB.out | apply below_alloc | apply pw_below_drewN | apply below_drew1) | exact HB.out)))).mono ?_); (case side1 => repeat (first | exact (Kd.C_below HR1.out HB.out) | (with_reducible refine Kd.C_alloc ?_ _) | (with_reducible refine Kd.C_drewN ?_ _) | (with_reducible refine Kd.C_drew ?_))); (case side2 => exact HC1.out); rintro e w13 ⟨rfl, hb⟩; refine ⟨_, rfl, ?_⟩; have n0_ := Aside0.mk (below_step (by repeat (first | (with_reducible first | exact HB.out | apply below_alloc | apply pw_below_drewN | apply below_drew1) | exact HB.out)) hb); clear HB; have HB := n0_; clear n0_; (try clear hb); (try clear hb2); (try clear hk); (try clear hi)))
        (try simp only [Act.put, List.setIfInBounds_toArray, List.set_cons_zero, List.set_cons_succ])
        go_cut [9] (fun v9 wc => ∃ (kq : Nat) (x9_11 : ByteArray), v9 = .string x9_11 ∧ Aside0 (stevedorelaw24_PaxReads.j1 kq a0 x9_11 = some r) ∧ Aside0 (kq ≤ kj4) ∧ Aside0 (Below w.heap.size w wc))
        case first =>
          have H := HC12.out
          clear HC12
          by_cases c14 : (t153.size : Int) > 0
          · rw [if_pos c14] at H
            have c14b0 : decide (0 < (t153.size : Int)) = true := decide_eq_true c14
            have c14b1 : decide (0 < t153.size) = true := decide_eq_true (by omega)
            clear c14
            (first | rw [c14b0] | (simp only [i64_w, i32_w]; rw [c14b0]) | rw [c14b1] | skip)
            by_cases c15 : (t153.size : Int) = 0
            · rw [if_pos c15] at H
              exact absurd H (by simp)
            · rw [if_neg c15] at H
              have c15b0 : ((t153.size : Int) == 0) = false := beq_eq_false_iff_ne.mpr c15
              have c15b1 : ((t153.size : Int) != 0) = true := bne_iff_ne.mpr c15
              obtain ⟨ji16, hji16⟩ : ∃ j_ : Int, (Int.tmod (wrap64 ((Int.tmod a2 (t153.size : Int)) + (t153.size : Int))) (t153.size : Int)) = j_ := ⟨_, rfl⟩
              replace H : (if 0 ≤ (ji16) then (if (ji16) ≤ (t153.size : Int) then (if (ji16) < (t153.size : Int) then ((some (([Go.bits .xor .u8 (bt t153 (ji16)) a3] : List Int) : List Int)).bind fun y155 => (if (t153.extract 0 ((ji16) : Int).toNat).size + (strOfNums y155).size ≤ 9223372036854775807 then (if 0 ≤ (wrap64 ((ji16) + 1)) then (if (wrap64 ((ji16) + 1)) ≤ (t153.size : Int) then (if ((t153.extract 0 ((ji16) : Int).toNat) ++ (strOfNums y155)).size + (t153.extract ((wrap64 ((ji16) + 1)) : Int).toNat t153.size).size ≤ 9223372036854775807 then (stevedorelaw24_PaxReads.j1 kj4 a0 (((t153.extract 0 ((ji16) : Int).toNat) ++ (strOfNums y155)) ++ (t153.extract ((wrap64 ((ji16) + 1)) : Int).toNat t153.size))) else (none)) else (none)) else (none)) else (none))) else (none)) else (none)) else (none)) = some r := by first | (rw [hji16] at H; exact H) | (simp only [hji16] at H ⊢; exact H)
              by_cases c17 : 0 ≤ (ji16)
              · rw [if_pos c17] at H
                have c17b0 := eq_true c17
                have c17b1 : decide (0 ≤ (ji16)) = true := decide_eq_true c17
                clear c17
                by_cases c18 : (ji16) ≤ (t153.size : Int)
                · rw [if_pos c18] at H
                  have c18b0 := eq_true c18
                  have c18b1 : decide ((ji16) ≤ (t153.size : Int)) = true := decide_eq_true c18
                  clear c18
                  by_cases c19 : (ji16) < (t153.size : Int)
                  · rw [if_pos c19] at H
                    have c19b0 : decide ((ji16) < (t153.size : Int)) = true := decide_eq_true c19
                    clear c19
                    obtain ⟨y155, hy155⟩ : ∃ y_ : List Int, y_ = (([Go.bits .xor .u8 (bt t153 (ji16)) a3] : List Int)) := ⟨_, rfl⟩
                    replace H : (if (t153.extract 0 ((ji16) : Int).toNat).size + (strOfNums y155).size ≤ 9223372036854775807 then (if 0 ≤ (wrap64 ((ji16) + 1)) then (if (wrap64 ((ji16) + 1)) ≤ (t153.size : Int) then (if ((t153.extract 0 ((ji16) : Int).toNat) ++ (strOfNums y155)).size + (t153.extract ((wrap64 ((ji16) + 1)) : Int).toNat t153.size).size ≤ 9223372036854775807 then (stevedorelaw24_PaxReads.j1 kj4 a0 (((t153.extract 0 ((ji16) : Int).toNat) ++ (strOfNums y155)) ++ (t153.extract ((wrap64 ((ji16) + 1)) : Int).toNat t153.size))) else (none)) else (none)) else (none)) else (none)) = some r := by first | (rw [hy155]; with_reducible exact H) | (have H2_ := (Option.bind_some _ _).symm.trans H; rw [hy155]; with_reducible exact H2_) | (have H2_ := (Option.bind_some _ _).symm.trans H; with_reducible exact H2_) | with_reducible exact H | (rw [hy155]; exact H) | exact H
                    have Ny155 := Aside0.mk hy155
                    clear hy155
                    by_cases c21 : (t153.extract 0 ((ji16) : Int).toNat).size + (strOfNums y155).size ≤ 9223372036854775807
                    · rw [if_pos c21] at H
                      have c21b0 := eq_true c21
                      have c21b1 : decide ((t153.extract 0 ((ji16) : Int).toNat).size + (strOfNums y155).size ≤ 9223372036854775807) = true := decide_eq_true c21
                      try have c21b1m0 : min (ji16 : Int).toNat t153.size = (ji16 : Int).toNat := by (try simp only [eq_iff_iff, iff_true, decide_eq_true_eq] at *); omega
                      (try (have c21b1s := c21b1; simp only [ByteArray.size_append, ByteArray.size_extract] at c21b1s))
                      (try (have c21b1t := c21b1; simp only [ByteArray.size_append, ByteArray.size_extract, Int.natCast_add, Int.cast_ofNat_Int] at c21b1t))
                      (try (have c21b1v0 := c21b1; simp only [ByteArray.size_append, ByteArray.size_extract, c21b1m0, Nat.min_self, Nat.sub_zero] at c21b1v0; try clear c21b1m0))
                      try have c21b2 : (9223372036854775807 < (t153.extract 0 ((ji16) : Int).toNat).size + (strOfNums y155).size) = False := eq_false (Nat.not_lt.2 c21)
                      try have c21b2m0 : min (ji16 : Int).toNat t153.size = (ji16 : Int).toNat := by (try simp only [eq_iff_iff, iff_true, decide_eq_true_eq] at *); omega
                      (try (have c21b2s := c21b2; simp only [ByteArray.size_append, ByteArray.size_extract] at c21b2s))
                      (try (have c21b2t := c21b2; simp only [ByteArray.size_append, ByteArray.size_extract, Int.natCast_add, Int.cast_ofNat_Int] at c21b2t))
                      (try (have c21b2v0 := c21b2; simp only [ByteArray.size_append, ByteArray.size_extract, c21b2m0, Nat.min_self, Nat.sub_zero] at c21b2v0; try clear c21b2m0))
                      obtain ⟨ji22, hji22⟩ : ∃ j_ : Int, (wrap64 ((ji16) + 1)) = j_ := ⟨_, rfl⟩
                      replace H : (if 0 ≤ (ji22) then (if (ji22) ≤ (t153.size : Int) then (if ((t153.extract 0 ((ji16) : Int).toNat) ++ (strOfNums y155)).size + (t153.extract ((ji22) : Int).toNat t153.size).size ≤ 9223372036854775807 then (stevedorelaw24_PaxReads.j1 kj4 a0 (((t153.extract 0 ((ji16) : Int).toNat) ++ (strOfNums y155)) ++ (t153.extract ((ji22) : Int).toNat t153.size))) else (none)) else (none)) else (none)) = some r := by first | (rw [hji22] at H; exact H) | (simp only [hji22] at H ⊢; exact H)
                      have hji22w : (IntKind.i64.wrap ((ji16) + 1)) = ji22 := (i64_w _).trans hji22
                      by_cases c23 : 0 ≤ (ji22)
                      · rw [if_pos c23] at H
                        have c23b0 := eq_true c23
                        have c23b1 : decide (0 ≤ (ji22)) = true := decide_eq_true c23
                        clear c23
                        by_cases c24 : (ji22) ≤ (t153.size : Int)
                        · rw [if_pos c24] at H
                          have c24b0 := eq_true c24
                          have c24b1 : decide ((ji22) ≤ (t153.size : Int)) = true := decide_eq_true c24
                          clear c24
                          by_cases c25 : ((t153.extract 0 ((ji16) : Int).toNat) ++ (strOfNums y155)).size + (t153.extract ((ji22) : Int).toNat t153.size).size ≤ 9223372036854775807
                          · rw [if_pos c25] at H
                            have c25b0 := eq_true c25
                            have c25b1 : decide (((t153.extract 0 ((ji16) : Int).toNat) ++ (strOfNums y155)).size + (t153.extract ((ji22) : Int).toNat t153.size).size ≤ 9223372036854775807) = true := decide_eq_true c25
                            try have c25b1m0 : min (ji16 : Int).toNat t153.size = (ji16 : Int).toNat := by (try simp only [eq_iff_iff, iff_true, decide_eq_true_eq] at *); omega
                            (try (have c25b1s := c25b1; simp only [ByteArray.size_append, ByteArray.size_extract] at c25b1s))
                            (try (have c25b1t := c25b1; simp only [ByteArray.size_append, ByteArray.size_extract, Int.natCast_add, Int.cast_ofNat_Int] at c25b1t))
                            (try (have c25b1v0 := c25b1; simp only [ByteArray.size_append, ByteArray.size_extract, c25b1m0, Nat.min_self, Nat.sub_zero] at c25b1v0; try clear c25b1m0))
                            try have c25b2 : (9223372036854775807 < ((t153.extract 0 ((ji16) : Int).toNat) ++ (strOfNums y155)).size + (t153.extract ((ji22) : Int).toNat t153.size).size) = False := eq_false (Nat.not_lt.2 c25)
                            try have c25b2m0 : min (ji16 : Int).toNat t153.size = (ji16 : Int).toNat := by (try simp only [eq_iff_iff, iff_true, decide_eq_true_eq] at *); omega
                            (try (have c25b2s := c25b2; simp only [ByteArray.size_append, ByteArray.size_extract] at c25b2s))
                            (try (have c25b2t := c25b2; simp only [ByteArray.size_append, ByteArray.size_extract, Int.natCast_add, Int.cast_ofNat_Int] at c25b2t))
                            (try (have c25b2v0 := c25b2; simp only [ByteArray.size_append, ByteArray.size_extract, c25b2m0, Nat.min_self, Nat.sub_zero] at c25b2v0; try clear c25b2m0))
                            have H' := Aside0.mk H
                            clear H
                            try go_wp2
                            have n0_ := Aside0.mk (below_drew1 HB.out)
                            clear HB
                            have HB := n0_
                            clear n0_
                            have p20 : 0 ≤ ((ji16) : Int) := of_decide_eq_true (by first | (with_reducible assumption) | assumption)
                            have q20 : (ji16) < (t153.size : Int) := of_decide_eq_true (by first | (with_reducible assumption) | assumption)
                            have hx20 := bt_at t153 (ji16)
                            replace p20 := eq_true p20
                            replace q20 := eq_true q20
                            refine start_ (n := 17) (S := fun w' => True) (ds := []) #[false, false, false, false, false, false, false, false, false, false, false, false, false, false, false, false, false] (by kernel_rfl) rfl rfl trivial (fun hHeld => ?_); refine with_tabW stevedorelaw24_PaxReads.tab6 stevedorelaw24_PaxReads.bits6 (fun HT_ HW_ => ?_)
                            generalize w13.drew = w26 at HB hHeld ⊢
                            refine pure_ (i := 0) (N := some 45) (v := ?_) (a' := ?_) #[true, false, false, false, false, false, false, false, false, false, false, false, false, false, false, false, false] rfl rfl (any_of HT_.out (by kernel_rfl)) (fun _ _ _ h => h) (Or.inl ⟨by rfl, ?_⟩) ?_ ?_
                            rotate_left
                            · intro w'
                              go_simp
                              with_reducible rfl
                            rotate_left
                            · simp only [Act.put, List.setIfInBounds_toArray, List.set_cons_zero, List.set_cons_succ, i64_w, i32_w]
                              rfl
                            refine pure_ (i := 1) (N := some 46) (v := ?_) (a' := ?_) #[true, true, false, false, false, false, false, false, false, false, false, false, false, false, false, false, false] rfl rfl (any_of HT_.out (by kernel_rfl)) (fun _ _ _ h => h) (Or.inl ⟨by rfl, ?_⟩) ?_ ?_
                            rotate_left
                            · intro w'
                              go_simp
                              with_reducible rfl
                            rotate_left
                            · simp only [Act.put, List.setIfInBounds_toArray, List.set_cons_zero, List.set_cons_succ, i64_w, i32_w]
                              rfl
                            refine pure_ (i := 2) (N := some 47) (v := ?_) (a' := ?_) #[true, true, true, false, false, false, false, false, false, false, false, false, false, false, false, false, false] rfl rfl (any_of HT_.out (by kernel_rfl)) (fun _ _ _ h => h) (Or.inl ⟨by rfl, ?_⟩) ?_ ?_
                            rotate_left
                            · intro w'
                              go_simp
                              with_reducible rfl
                            rotate_left
                            · simp only [Act.put, List.setIfInBounds_toArray, List.set_cons_zero, List.set_cons_succ, i64_w, i32_w]
                              rfl
                            refine pure_ (i := 3) (N := some 48) (v := ?_) (a' := ?_) #[true, true, true, true, false, false, false, false, false, false, false, false, false, false, false, false, false] rfl rfl (any_of HT_.out (by kernel_rfl)) (fun _ _ _ h => h) (Or.inl ⟨by rfl, ?_⟩) ?_ ?_
                            rotate_left
                            · intro w'
                              go_simp
                              with_reducible rfl
                            rotate_left
                            · simp only [Act.put, List.setIfInBounds_toArray, List.set_cons_zero, List.set_cons_succ, i64_w, i32_w]
                              rfl
                            refine pure_ (i := 4) (N := some 49) (v := ?_) (a' := ?_) #[true, true, true, true, true, false, false, false, false, false, false, false, false, false, false, false, false] rfl rfl (any_of HT_.out (by kernel_rfl)) (fun _ _ _ h => h) (Or.inl ⟨by rfl, ?_⟩) ?_ ?_
                            rotate_left
                            · intro w'
                              go_simp
                              with_reducible rfl
                            rotate_left
                            · simp only [Act.put, List.setIfInBounds_toArray, List.set_cons_zero, List.set_cons_succ, i64_w, i32_w]
                              rfl
                            refine pure_ (i := 6) (N := some 51) (v := ?_) (a' := ?_) #[true, true, true, true, true, false, true, false, false, false, false, false, false, false, false, false, false] rfl rfl (any_of HT_.out (by kernel_rfl)) (fun _ _ _ h => h) (Or.inl ⟨by rfl, ?_⟩) ?_ ?_
                            rotate_left
                            · intro w'
                              go_simp
                              with_reducible rfl
                            rotate_left
                            · simp only [Act.put, List.setIfInBounds_toArray, List.set_cons_zero, List.set_cons_succ, i64_w, i32_w]
                              rfl
                            refine pure_ (i := 11) (N := some 56) (v := ?_) (a' := ?_) #[true, true, true, true, true, false, true, false, false, false, false, true, false, false, false, false, false] rfl rfl (any_of HT_.out (by kernel_rfl)) (fun _ _ _ h => h) (Or.inl ⟨by rfl, ?_⟩) ?_ ?_
                            rotate_left
                            · intro w'
                              go_simp
                              with_reducible rfl
                            rotate_left
                            · simp only [Act.put, List.setIfInBounds_toArray, List.set_cons_zero, List.set_cons_succ, i64_w, i32_w]
                              rfl
                            refine pure_ (i := 12) (N := some 57) (v := ?_) (a' := ?_) #[true, true, true, true, true, false, true, false, false, false, false, true, true, false, false, false, false] rfl rfl (any_of HT_.out (by kernel_rfl)) (fun _ _ _ h => h) (Or.inl ⟨by rfl, ?_⟩) ?_ ?_
                            rotate_left
                            · intro w'
                              go_simp
                              with_reducible rfl
                            rotate_left
                            · simp only [Act.put, List.setIfInBounds_toArray, List.set_cons_zero, List.set_cons_succ, i64_w, i32_w]
                              rfl
                            refine pure_ (i := 13) (N := some 58) (v := ?_) (a' := ?_) #[true, true, true, true, true, false, true, false, false, false, false, true, true, true, false, false, false] rfl rfl (any_of HT_.out (by kernel_rfl)) (fun _ _ _ h => h) (Or.inl ⟨by rfl, ?_⟩) ?_ ?_
                            rotate_left
                            · intro w'
                              go_simp
                              with_reducible rfl
                            rotate_left
                            · simp only [Act.put, List.setIfInBounds_toArray, List.set_cons_zero, List.set_cons_succ, i64_w, i32_w]
                              rfl
                            refine pure_ (i := 14) (N := some 59) (v := ?_) (a' := ?_) #[true, true, true, true, true, false, true, false, false, false, false, true, true, true, true, false, false] rfl rfl (any_of HT_.out (by kernel_rfl)) (fun _ _ _ h => h) (Or.inl ⟨by rfl, ?_⟩) ?_ ?_
                            rotate_left
                            · intro w'
                              go_simp
                              with_reducible rfl
                            rotate_left
                            · simp only [Act.put, List.setIfInBounds_toArray, List.set_cons_zero, List.set_cons_succ, i64_w, i32_w]
                              rfl
                            refine take_ (i := 5) (N := some 50) (v := ?_) (a' := ?_) #[true, true, true, true, true, true, true, false, false, false, false, true, true, true, true, false, false] rfl rfl (take_ofW HT_.out HW_.out (by kernel_rfl)) (fun _ _ _ h => h) (Or.inl ⟨by rfl, ?_⟩) hHeld ?_ ?_
                            rotate_left
                            · intro w' _
                              go_simp
                              with_reducible rfl
                            rotate_left
                            · simp only [Act.put, List.setIfInBounds_toArray, List.set_cons_zero, List.set_cons_succ, i64_w, i32_w]
                              rfl
                            refine pure_ (i := 7) (N := some 52) (v := ?_) (a' := ?_) #[true, true, true, true, true, true, true, true, false, false, false, true, true, true, true, false, false] rfl rfl (any_of HT_.out (by kernel_rfl)) (fun _ _ _ h => h) (Or.inl ⟨by rfl, ?_⟩) ?_ ?_
                            rotate_left
                            · intro w'
                              go_simp
                              with_reducible rfl
                            rotate_left
                            · simp only [Act.put, List.setIfInBounds_toArray, List.set_cons_zero, List.set_cons_succ, i64_w, i32_w]
                              rfl
                            refine one_ (i := 8) (N := some 53) #[true, true, true, true, true, true, true, true, true, false, false, true, true, true, true, false, false] rfl rfl (one_of HT_.out (by kernel_rfl)) (by decide) (fun K hK => ?_)
                            refine Kd.R_lit_step (Kd.int .u8) _ 5 ?hg (N := 53) ?hd (xs := ([Go.bits .xor .u8 (bt t153 (ji16)) a3] : List Int)) (inner := [.int .u8 (Go.bits .xor .u8 (bt t153 (ji16)) a3)]) (ok := fun _ => True) (okp := fun _ => True) ?hr ?hp (fun _ hk => hk) trivial (Below.refl _ _) (Nat.le_refl _) (by simp) ?_; (case hd => rfl); (case hg => rfl); (case hr => first | (go_simp; done) | (go_simp; rfl)); (case hp => exact (Reps.one (show Kd.M (Kd.int .u8) _ _ _ (Go.bits .xor .u8 (bt t153 (ji16)) a3) [.int .u8 (Go.bits .xor .u8 (bt t153 (ji16)) a3)] from rfl) (Reps.none _ _)))
                            intro v156 w27 ho28 hb hg_ hnew_
                            clear hg_ hnew_
                            (first | rw [← Ny155.out] at ho28 | (simp only [Int.reduceToNat] at ho28; rw [← Ny155.out] at ho28))
                            have n0_ := Aside0.mk (Kd.R_lower ho28 (below_size (by repeat (first | (with_reducible first | exact HB.out | apply below_alloc | apply pw_below_drewN | apply below_drew1) | exact HB.out))))
                            have n1_ := Aside0.mk (below_step (by repeat (first | (with_reducible first | exact HB.out | apply below_alloc | apply pw_below_drewN | apply below_drew1) | exact HB.out)) hb)
                            clear HB
                            have HO157 := n0_
                            have HB := n1_
                            clear n0_ n1_
                            clear hb ho28
                            refine hK.out _ _ trivial (fun hHeld => ?_)
                            clear hK K
                            refine norm_ (a' := ?_) ?_ ?_
                            rotate_left
                            · show Act.put _ (some 53) _ = _
                              simp only [Act.put, List.setIfInBounds_toArray, List.set_cons_zero, List.set_cons_succ, i64_w, i32_w]
                              rfl
                            refine one_ (i := 9) (N := some 54) #[true, true, true, true, true, true, true, true, true, true, false, true, true, true, true, false, false] rfl rfl (one_of HT_.out (by kernel_rfl)) (by decide) (fun K hK => ?_)
                            have hcv29 := own_string (P := Tryd.prog) Tryd.underlying27 Tryd.underlying5 Tryd.underlying9 (Kd.own_of_R HO157.out)
                            refine value_ (w1 := ?_) (v := ?_) (by rfl) rfl ?_ ?_
                            rotate_left 2
                            · go_simp
                              constructor
                              · rfl
                              · rfl
                            clear hcv29
                            refine hK.out _ _ trivial (fun hHeld => ?_)
                            clear hK K
                            refine norm_ (a' := ?_) ?_ ?_
                            rotate_left
                            · show Act.put _ (some 54) _ = _
                              simp only [Act.put, List.setIfInBounds_toArray, List.set_cons_zero, List.set_cons_succ, i64_w, i32_w]
                              rfl
                            refine pure_ (i := 10) (N := some 55) (v := ?_) (a' := ?_) #[true, true, true, true, true, true, true, true, true, true, true, true, true, true, true, false, false] rfl rfl (any_of HT_.out (by kernel_rfl)) (fun _ _ _ h => h) (Or.inl ⟨by rfl, ?_⟩) ?_ ?_
                            rotate_left
                            · intro w'
                              go_simp
                              with_reducible rfl
                            rotate_left
                            · simp only [Act.put, List.setIfInBounds_toArray, List.set_cons_zero, List.set_cons_succ, i64_w, i32_w]
                              rfl
                            refine pure_ (i := 15) (N := some 60) (v := ?_) (a' := ?_) #[true, true, true, true, true, true, true, true, true, true, true, true, true, true, true, true, false] rfl rfl (any_of HT_.out (by kernel_rfl)) (fun _ _ _ h => h) (Or.inl ⟨by rfl, ?_⟩) ?_ ?_
                            rotate_left
                            · intro w'
                              go_simp
                              with_reducible rfl
                            rotate_left
                            · simp only [Act.put, List.setIfInBounds_toArray, List.set_cons_zero, List.set_cons_succ, i64_w, i32_w]
                              rfl
                            refine pure_ (i := 16) (N := some 9) (v := ?_) (a' := ?_) #[true, true, true, true, true, true, true, true, true, true, true, true, true, true, true, true, true] rfl rfl (any_of HT_.out (by kernel_rfl)) (fun _ _ _ h => h) (Or.inl ⟨by rfl, ?_⟩) ?_ ?_
                            rotate_left
                            · intro w'
                              go_simp
                              with_reducible rfl
                            rotate_left
                            · simp only [Act.put, List.setIfInBounds_toArray, List.set_cons_zero, List.set_cons_succ, i64_w, i32_w]
                              rfl
                            refine done_ (done_of HT_.out (by kernel_rfl)) ?_
                            try go_wp2
                            go_meet
                            case rel => exact ⟨_, (((t153.extract 0 ((ji16) : Int).toNat) ++ (strOfNums y155)) ++ (t153.extract ((ji22) : Int).toNat t153.size)), (by first | rfl | (simp; done) | (simp only [← hji16, ← hji22] <;> (first | rfl | simp)) | (simp [*]; done)), H', ⟨by have := HJ4.out; first | omega | exact Nat.le_refl _⟩, ⟨by repeat (first | (with_reducible first | exact HB.out | apply below_alloc | apply pw_below_drewN | apply below_drew1) | exact HB.out)⟩⟩
                          · rw [if_neg c25] at H
                            exact absurd H (by simp)
                        · rw [if_neg c24] at H
                          exact absurd H (by simp)
                      · rw [if_neg c23] at H
                        exact absurd H (by simp)
                    · rw [if_neg c21] at H
                      exact absurd H (by simp)
                  · rw [if_neg c19] at H
                    exact absurd H (by simp)
                · rw [if_neg c18] at H
                  exact absurd H (by simp)
              · rw [if_neg c17] at H
                exact absurd H (by simp)
          · rw [if_neg c14] at H
            have c14b0 : decide (0 < (t153.size : Int)) = false := decide_eq_false c14
            have c14b1 : decide (0 < t153.size) = false := decide_eq_false (by omega)
            clear c14
            (first | rw [c14b0] | (simp only [i64_w, i32_w]; rw [c14b0]) | rw [c14b1] | skip)
            have H' := Aside0.mk H
            clear H
            go_wp2
            go_meet
            case rel => exact ⟨_, (t153), (by first | rfl | (simp; done) | (simp [*]; done)), H', ⟨by have := HJ4.out; first | omega | exact Nat.le_refl _⟩, ⟨by repeat (first | (with_reducible first | exact HB.out | apply below_alloc | apply pw_below_drewN | apply below_drew1) | exact HB.out)⟩⟩
        case rest =>
          clear HC12
          try clear c1
          try clear c2
          try clear p2
          try clear q2
          try clear hx2
          try clear hcv2
          try clear c3
          try clear c6
          try clear c6b0
          try clear c6b1
          try clear p6
          try clear c8
          try clear c9
          try clear c10
          try clear c14
          try clear c14b0
          try clear c14b1
          try clear c15
          try clear c15b0
          try clear c15b1
          try clear c17
          try clear c17b0
          try clear c17b1
          try clear c18
          try clear c18b0
          try clear c18b1
          try clear c19
          try clear c19b0
          try clear p20
          try clear q20
          try clear hx20
          try clear c21
          try clear c21b0
          try clear c21b1
          try clear c21b2
          try clear c23
          try clear c23b0
          try clear c23b1
          try clear c24
          try clear c24b0
          try clear c24b1
          try clear c25
          try clear c25b0
          try clear c25b1
          try clear c25b2
          try clear hcv29
          try clear p2
          try clear p20
          try clear q20
          obtain ⟨kq, x9_11, rfl, HA, HJ11, HB⟩ := hcut
          cases kq with
          | zero => exact absurd HA.out (by simp [stevedorelaw24_PaxReads.j1])
          | succ kj11 =>
            have H := HA.out
            clear HA
            simp only [stevedorelaw24_PaxReads.j1] at H
            obtain ⟨y158, hy158⟩ : ∃ y_ : List ByteArray, y_ = (([a0, x9_11] : List ByteArray)) := ⟨_, rfl⟩
            replace H : (stevedorelaw24_PaxReads.l0 kj11 y158 (y158.length : Int) 0) = some r := by first | (rw [hy158]; with_reducible exact H) | (have H2_ := (Option.bind_some _ _).symm.trans H; rw [hy158]; with_reducible exact H2_) | (have H2_ := (Option.bind_some _ _).symm.trans H; with_reducible exact H2_) | with_reducible exact H | (rw [hy158]; exact H) | exact H
            have Ny158 := Aside0.mk hy158
            clear hy158
            have H' := Aside0.mk H
            clear H
            go_wp2_with (first | ((with_reducible refine gate_dst (N := 63) rfl ?_); refine Kd.R_lit Kd.string _ 9 ?hg (N := 63) ?hd (xs := ([a0, x9_11] : List ByteArray)) (inner := [.string a0, .string x9_11]) (ok := fun _ => True) (okp := fun _ => True) ?hr ?hp (fun _ hk => hk) trivial (Below.refl _ _) (Nat.le_refl _) (by simp) ?_; (case hd => rfl); (case hg => rfl); (case hr => first | (go_simp; done) | (go_simp; rfl)); (case hp => exact (Reps.one (show Kd.M Kd.string _ _ _ a0 [.string a0] from rfl) (Reps.one (show Kd.M Kd.string _ _ _ x9_11 [.string x9_11] from rfl) (Reps.none _ _)))); intro v159 w30 ho31 hb hg_ hnew_; clear hg_ hnew_; (first | rw [← Ny158.out] at ho31 | (simp only [Int.reduceToNat] at ho31; rw [← Ny158.out] at ho31)); have n0_ := Aside0.mk (Kd.R_lower ho31 (below_size (by repeat (first | (with_reducible first | exact HB.out | apply below_alloc | apply pw_below_drewN | apply below_drew1) | exact HB.out)))); have n1_ := Aside0.mk (below_step (by repeat (first | (with_reducible first | exact HB.out | apply below_alloc | apply pw_below_drewN | apply below_drew1) | exact HB.out)) hb); clear HB; have HO160 := n0_; have HB := n1_; clear n0_ n1_; clear hb ho31; obtain ⟨Ao32, co32, eo32⟩ := Kd.R_slice HO160.out; subst eo32))
            go_loopg [65] kj11 (fun kq v65 w' => ∃ (x65_3 : Int), v65 = .int .i64 x65_3 ∧ Aside0 (stevedorelaw24_PaxReads.l0 kq y158 (y158.length : Int) x65_3 = some r) ∧ Aside0 (kq ≤ kj11) ∧ Aside0 (Kd.R Kd.string 9 w' w.heap.size (fun _ => True) (.slice Ao32 y158.length co32) y158) ∧ Aside0 (Below w.heap.size w w'))
            case atStart => exact ⟨(0), (by first | rfl | (simp; done) | (simp [*]; done)), H', ⟨Nat.le_refl _⟩, ⟨by (with_reducible repeat (first | apply Kd.R_alloc | apply Kd.R_drewN | apply Kd.R_drew)); exact HO160.out⟩, ⟨by repeat (first | (with_reducible first | exact HB.out | apply below_alloc | apply pw_below_drewN | apply below_drew1) | exact HB.out)⟩⟩
            case round =>
              clear H'
              try clear c1
              try clear c2
              try clear p2
              try clear q2
              try clear hx2
              try clear hcv2
              try clear c3
              try clear c6
              try clear c6b0
              try clear c6b1
              try clear p6
              try clear c8
              try clear c9
              try clear c10
              try clear c14
              try clear c14b0
              try clear c14b1
              try clear c15
              try clear c15b0
              try clear c15b1
              try clear c17
              try clear c17b0
              try clear c17b1
              try clear c18
              try clear c18b0
              try clear c18b1
              try clear c19
              try clear c19b0
              try clear p20
              try clear q20
              try clear hx20
              try clear c21
              try clear c21b0
              try clear c21b1
              try clear c21b2
              try clear c23
              try clear c23b0
              try clear c23b1
              try clear c24
              try clear c24b0
              try clear c24b1
              try clear c25
              try clear c25b0
              try clear c25b1
              try clear c25b2
              try clear hcv29
              try clear p2
              try clear p20
              try clear p6
              try clear q2
              try clear q20
              obtain ⟨x65_3, rfl, HA, HK3, HO_63, HB⟩ := hrel
              cases gk with
              | zero => exact absurd HA.out (by simp [stevedorelaw24_PaxReads.l0])
              | succ k3 =>
                have H := HA.out
                clear HA
                simp only [stevedorelaw24_PaxReads.l0] at H
                by_cases c33 : x65_3 < (y158.length : Int)
                · rw [if_pos c33] at H
                  have c33b0 : decide (x65_3 < (y158.length : Int)) = true := decide_eq_true c33
                  clear c33
                  by_cases c34 : 0 ≤ x65_3
                  · rw [if_pos c34] at H
                    have c34b0 : decide (0 ≤ x65_3) = true := decide_eq_true c34
                    clear c34
                    by_cases c35 : x65_3 < (y158.length : Int)
                    · rw [if_pos c35] at H
                      have c35b0 : decide (x65_3 < (y158.length : Int)) = true := decide_eq_true c35
                      clear c35
                      replace H := Option.bind_eq_some_iff.mp H
                      obtain ⟨⟨t163, t164⟩, A360, H⟩ := H
                      replace H : ((stevedoreref23_Records.f k3 (rdOf ByteArray.empty y158 x65_3)).bind fun bt167 => ((stevedoreref23_SameRecords.f k3 t163 bt167.1).bind fun t171 => (if t171 = true then (if t164 = bt167.2 then (stevedorelaw24_PaxReads.l0 k3 y158 (y158.length : Int) (wrap64 (x65_3 + 1))) else (some false)) else (some false)))) = some r := H
                      have A36 := Aside0.mk A360
                      clear A360
                      replace H := Option.bind_eq_some_iff.mp H
                      obtain ⟨⟨t167, t168⟩, A370, H⟩ := H
                      replace H : ((stevedoreref23_SameRecords.f k3 t163 t167).bind fun t171 => (if t171 = true then (if t164 = t168 then (stevedorelaw24_PaxReads.l0 k3 y158 (y158.length : Int) (wrap64 (x65_3 + 1))) else (some false)) else (some false))) = some r := H
                      have A37 := Aside0.mk A370
                      clear A370
                      replace H := Option.bind_eq_some_iff.mp H
                      obtain ⟨t171, A380, H⟩ := H
                      replace H : (if t171 = true then (if t164 = t168 then (stevedorelaw24_PaxReads.l0 k3 y158 (y158.length : Int) (wrap64 (x65_3 + 1))) else (some false)) else (some false)) = some r := H
                      have A38 := Aside0.mk A380
                      clear A380
                      by_cases c39 : t171 = true
                      · subst c39
                        have H1 : (if t164 = t168 then (stevedorelaw24_PaxReads.l0 k3 y158 (y158.length : Int) (wrap64 (x65_3 + 1))) else (some false)) = some r := by rw [if_pos rfl] at H; exact H
                        clear H
                        have H := H1
                        clear H1
                        by_cases c40 : t164 = t168
                        · rw [if_pos c40] at H
                          have c40b0 : (t164 == t168) = true := beq_iff_eq.mpr c40
                          have c40b1 : (t164 != t168) = false := bne_eq_false_iff_eq.mpr c40
                          clear c40
                          have H' := Aside0.mk H
                          clear H
                          have p162 : 0 ≤ (x65_3 : Int) := of_decide_eq_true (by first | (with_reducible assumption) | assumption)
                          have q162 : x65_3 < (y158.length : Int) := of_decide_eq_true (by first | (with_reducible assumption) | assumption)
                          obtain ⟨ad162, e162, hx162_0⟩ := Kd.at_string (Kd.R_reads' HO_63.out).2.2 x65_3 p162 q162
                          cases e162
                          replace p162 := eq_true p162
                          replace q162 := eq_true q162
                          go_wp2_with (first | ((with_reducible refine gate_callee (f := 11) rfl ?_); refine goesL_ (some 71) rfl rfl Tryd.func11 (by kernel_rfl) rfl #[.string (rdOf ByteArray.empty y158 x65_3)] rfl (by (try simp only [List.map_toArray, List.map_cons, List.map_nil]); first | done | rfl | (simp only [List.length_drop, List.length_take]; rfl)) ?_; (with_reducible refine (pax_Read.calls k3 (rdOf ByteArray.empty y158 x65_3) t163 t164 _ A36.out).mono ?_); rintro e w41 ⟨v165, rfl, ho0, hb⟩; refine ⟨_, rfl, ?_⟩; have n0_ := Aside0.mk (Kd.R_below (by (with_reducible repeat (first | apply Kd.R_alloc | apply Kd.R_drewN | apply Kd.R_drew)); exact HO_63.out) hb); have n1_ := Aside0.mk (Kd.R_lower ho0 (below_size (by repeat (first | (with_reducible first | exact HB.out | apply below_alloc | apply pw_below_drewN | apply below_drew1) | exact HB.out)))); have n2_ := Aside0.mk (below_step (by repeat (first | (with_reducible first | exact HB.out | apply below_alloc | apply pw_below_drewN | apply below_drew1) | exact HB.out)) hb); clear HO_63; clear HB; have HO_63 := n0_; have HO166 := n1_; have HB := n2_; clear n0_ n1_ n2_; (try clear hb); (try clear hb2); (try clear hk); (try clear hi); (try clear ho0)) | ((with_reducible refine gate_callee (f := 12) rfl ?_); refine goesL_ (some 76) rfl rfl Tryd.func12 (by kernel_rfl) rfl #[.string (rdOf ByteArray.empty y158 x65_3)] rfl (by (try simp only [List.map_toArray, List.map_cons, List.map_nil]); first | done | rfl | (simp only [List.length_drop, List.length_take]; rfl)) ?_; (with_reducible refine (stevedoreref23_Records.calls k3 (rdOf ByteArray.empty y158 x65_3) t167 t168 _ A37.out).mono ?_); rintro e w42 ⟨v169, rfl, ho0, hb⟩; refine ⟨_, rfl, ?_⟩; have n0_ := Aside0.mk (Kd.R_below (by (with_reducible repeat (first | apply Kd.R_alloc | apply Kd.R_drewN | apply Kd.R_drew)); exact HO_63.out) hb); have n1_ := Aside0.mk (Kd.R_elder' (by (with_reducible repeat (first | apply Kd.R_alloc | apply Kd.R_drewN | apply Kd.R_drew)); exact HO166.out) (Kd.R_base ho0) hb); have n2_ := Aside0.mk (Kd.R_lower (Kd.R_new' ho0 (Kd.R_lt (by (with_reducible repeat (first | apply Kd.R_alloc | apply Kd.R_drewN | apply Kd.R_drew)); exact HO166.out))) (below_size (by repeat (first | (with_reducible first | exact HB.out | apply below_alloc | apply pw_below_drewN | apply below_drew1) | exact HB.out)))); have n3_ := Aside0.mk (below_step (by repeat (first | (with_reducible first | exact HB.out | apply below_alloc | apply pw_below_drewN | apply below_drew1) | exact HB.out)) hb); clear HO_63; clear HO166; clear HB; have HO_63 := n0_; have HO166 := n1_; have HO170 := n2_; have HB := n3_; clear n0_ n1_ n2_ n3_; (try clear hb); (try clear hb2); (try clear hk); (try clear hi); (try clear ho0); obtain ⟨Ao43, co43, eo43⟩ := Kd.R_slice HO166.out; subst eo43; obtain ⟨Ao44, co44, eo44⟩ := Kd.R_slice HO170.out; subst eo44) | ((with_reducible refine gate_callee (f := 13) rfl ?_); refine goesL_ (some 81) rfl rfl Tryd.func13 (by kernel_rfl) rfl #[.slice Ao43 t163.length co43, .slice Ao44 t167.length co44] rfl (by (try simp only [List.map_toArray, List.map_cons, List.map_nil]); first | done | rfl | (simp only [List.length_drop, List.length_take]; rfl)) ?_; (with_reducible refine (stevedoreref23_SameRecords.calls k3 _ _ t163 _ _ t167 true _ ?side1 ?side2 ?side3 ?side4 A38.out).mono ?_); (case side1 => repeat (first | exact (Kd.R_reads' HO166.out).2.2 | (with_reducible refine Kd.C_alloc ?_ _) | (with_reducible refine Kd.C_drewN ?_ _) | (with_reducible refine Kd.C_drew ?_))); (case side2 => exact (Kd.R_reads' HO166.out).2.1); (case side3 => repeat (first | exact (Kd.R_reads' HO170.out).2.2 | (with_reducible refine Kd.C_alloc ?_ _) | (with_reducible refine Kd.C_drewN ?_ _) | (with_reducible refine Kd.C_drew ?_))); (case side4 => exact (Kd.R_reads' HO170.out).2.1); rintro e w' ⟨rfl, ⟨nd, rfl⟩⟩; refine ⟨_, rfl, ?_⟩))
                          go_roundg k3
                          case measure => have := HJ4.out; have := HJ11.out; have := HK3.out; omega
                          case rel => exact ⟨(wrap64 (x65_3 + 1)), (by first | rfl | (simp; done) | (simp [*]; done)), H', ⟨by have := HJ4.out; have := HJ11.out; have := HK3.out; omega⟩, ⟨by (with_reducible repeat (first | apply Kd.R_alloc | apply Kd.R_drewN | apply Kd.R_drew)); exact HO_63.out⟩, ⟨by repeat (first | (with_reducible first | exact HB.out | apply below_alloc | apply pw_below_drewN | apply below_drew1) | exact HB.out)⟩⟩
                        · rw [if_neg c40] at H
                          have c40b0 : (t164 == t168) = false := beq_eq_false_iff_ne.mpr c40
                          have c40b1 : (t164 != t168) = true := bne_iff_ne.mpr c40
                          obtain rfl := Option.some.inj H
                          have p162 : 0 ≤ (x65_3 : Int) := of_decide_eq_true (by first | (with_reducible assumption) | assumption)
                          have q162 : x65_3 < (y158.length : Int) := of_decide_eq_true (by first | (with_reducible assumption) | assumption)
                          obtain ⟨ad162, e162, hx162_0⟩ := Kd.at_string (Kd.R_reads' HO_63.out).2.2 x65_3 p162 q162
                          cases e162
                          replace p162 := eq_true p162
                          replace q162 := eq_true q162
                          go_wp2_with (first | ((with_reducible refine gate_callee (f := 11) rfl ?_); refine goesL_ (some 71) rfl rfl Tryd.func11 (by kernel_rfl) rfl #[.string (rdOf ByteArray.empty y158 x65_3)] rfl (by (try simp only [List.map_toArray, List.map_cons, List.map_nil]); first | done | rfl | (simp only [List.length_drop, List.length_take]; rfl)) ?_; (with_reducible refine (pax_Read.calls k3 (rdOf ByteArray.empty y158 x65_3) t163 t164 _ A36.out).mono ?_); rintro e w45 ⟨v165, rfl, ho0, hb⟩; refine ⟨_, rfl, ?_⟩; have n0_ := Aside0.mk (Kd.R_below (by (with_reducible repeat (first | apply Kd.R_alloc | apply Kd.R_drewN | apply Kd.R_drew)); exact HO_63.out) hb); have n1_ := Aside0.mk (Kd.R_lower ho0 (below_size (by repeat (first | (with_reducible first | exact HB.out | apply below_alloc | apply pw_below_drewN | apply below_drew1) | exact HB.out)))); have n2_ := Aside0.mk (below_step (by repeat (first | (with_reducible first | exact HB.out | apply below_alloc | apply pw_below_drewN | apply below_drew1) | exact HB.out)) hb); clear HO_63; clear HB; have HO_63 := n0_; have HO166 := n1_; have HB := n2_; clear n0_ n1_ n2_; (try clear hb); (try clear hb2); (try clear hk); (try clear hi); (try clear ho0)) | ((with_reducible refine gate_callee (f := 12) rfl ?_); refine goesL_ (some 76) rfl rfl Tryd.func12 (by kernel_rfl) rfl #[.string (rdOf ByteArray.empty y158 x65_3)] rfl (by (try simp only [List.map_toArray, List.map_cons, List.map_nil]); first | done | rfl | (simp only [List.length_drop, List.length_take]; rfl)) ?_; (with_reducible refine (stevedoreref23_Records.calls k3 (rdOf ByteArray.empty y158 x65_3) t167 t168 _ A37.out).mono ?_); rintro e w46 ⟨v169, rfl, ho0, hb⟩; refine ⟨_, rfl, ?_⟩; have n0_ := Aside0.mk (Kd.R_below (by (with_reducible repeat (first | apply Kd.R_alloc | apply Kd.R_drewN | apply Kd.R_drew)); exact HO_63.out) hb); have n1_ := Aside0.mk (Kd.R_elder' (by (with_reducible repeat (first | apply Kd.R_alloc | apply Kd.R_drewN | apply Kd.R_drew)); exact HO166.out) (Kd.R_base ho0) hb); have n2_ := Aside0.mk (Kd.R_lower (Kd.R_new' ho0 (Kd.R_lt (by (with_reducible repeat (first | apply Kd.R_alloc | apply Kd.R_drewN | apply Kd.R_drew)); exact HO166.out))) (below_size (by repeat (first | (with_reducible first | exact HB.out | apply below_alloc | apply pw_below_drewN | apply below_drew1) | exact HB.out)))); have n3_ := Aside0.mk (below_step (by repeat (first | (with_reducible first | exact HB.out | apply below_alloc | apply pw_below_drewN | apply below_drew1) | exact HB.out)) hb); clear HO_63; clear HO166; clear HB; have HO_63 := n0_; have HO166 := n1_; have HO170 := n2_; have HB := n3_; clear n0_ n1_ n2_ n3_; (try clear hb); (try clear hb2); (try clear hk); (try clear hi); (try clear ho0); obtain ⟨Ao47, co47, eo47⟩ := Kd.R_slice HO166.out; subst eo47; obtain ⟨Ao48, co48, eo48⟩ := Kd.R_slice HO170.out; subst eo48) | ((with_reducible refine gate_callee (f := 13) rfl ?_); refine goesL_ (some 81) rfl rfl Tryd.func13 (by kernel_rfl) rfl #[.slice Ao47 t163.length co47, .slice Ao48 t167.length co48] rfl (by (try simp only [List.map_toArray, List.map_cons, List.map_nil]); first | done | rfl | (simp only [List.length_drop, List.length_take]; rfl)) ?_; (with_reducible refine (stevedoreref23_SameRecords.calls k3 _ _ t163 _ _ t167 true _ ?side1 ?side2 ?side3 ?side4 A38.out).mono ?_); (case side1 => repeat (first | exact (Kd.R_reads' HO166.out).2.2 | (with_reducible refine Kd.C_alloc ?_ _) | (with_reducible refine Kd.C_drewN ?_ _) | (with_reducible refine Kd.C_drew ?_))); (case side2 => exact (Kd.R_reads' HO166.out).2.1); (case side3 => repeat (first | exact (Kd.R_reads' HO170.out).2.2 | (with_reducible refine Kd.C_alloc ?_ _) | (with_reducible refine Kd.C_drewN ?_ _) | (with_reducible refine Kd.C_drew ?_))); (case side4 => exact (Kd.R_reads' HO170.out).2.1); rintro e w' ⟨rfl, ⟨nd, rfl⟩⟩; refine ⟨_, rfl, ?_⟩))
                          go_ret
                          exact ⟨by first | rfl | (simp only [show ∀ l : List UInt8, (l != []) = (!l.isEmpty) from fun l => by cases l <;> rfl]; rfl) | (simp [errW_none, errW_some] <;> rfl) | (simp [*, errW_none, errW_some] <;> rfl), by repeat (first | (with_reducible first | exact HB.out | apply below_alloc | apply pw_below_drewN | apply below_drew1) | exact HB.out)⟩
                      · replace c39 := Bool.eq_false_iff.mpr c39
                        subst c39
                        have H1 : (some false) = some r := by rw [if_neg (show ¬ (false = true) by decide)] at H; exact H
                        clear H
                        have H := H1
                        clear H1
                        obtain rfl := Option.some.inj H
                        have p162 : 0 ≤ (x65_3 : Int) := of_decide_eq_true (by first | (with_reducible assumption) | assumption)
                        have q162 : x65_3 < (y158.length : Int) := of_decide_eq_true (by first | (with_reducible assumption) | assumption)
                        obtain ⟨ad162, e162, hx162_0⟩ := Kd.at_string (Kd.R_reads' HO_63.out).2.2 x65_3 p162 q162
                        cases e162
                        replace p162 := eq_true p162
                        replace q162 := eq_true q162
                        go_wp2_with (first | ((with_reducible refine gate_callee (f := 11) rfl ?_); refine goesL_ (some 71) rfl rfl Tryd.func11 (by kernel_rfl) rfl #[.string (rdOf ByteArray.empty y158 x65_3)] rfl (by (try simp only [List.map_toArray, List.map_cons, List.map_nil]); first | done | rfl | (simp only [List.length_drop, List.length_take]; rfl)) ?_; (with_reducible refine (pax_Read.calls k3 (rdOf ByteArray.empty y158 x65_3) t163 t164 _ A36.out).mono ?_); rintro e w49 ⟨v165, rfl, ho0, hb⟩; refine ⟨_, rfl, ?_⟩; have n0_ := Aside0.mk (Kd.R_below (by (with_reducible repeat (first | apply Kd.R_alloc | apply Kd.R_drewN | apply Kd.R_drew)); exact HO_63.out) hb); have n1_ := Aside0.mk (Kd.R_lower ho0 (below_size (by repeat (first | (with_reducible first | exact HB.out | apply below_alloc | apply pw_below_drewN | apply below_drew1) | exact HB.out)))); have n2_ := Aside0.mk (below_step (by repeat (first | (with_reducible first | exact HB.out | apply below_alloc | apply pw_below_drewN | apply below_drew1) | exact HB.out)) hb); clear HO_63; clear HB; have HO_63 := n0_; have HO166 := n1_; have HB := n2_; clear n0_ n1_ n2_; (try clear hb); (try clear hb2); (try clear hk); (try clear hi); (try clear ho0)) | ((with_reducible refine gate_callee (f := 12) rfl ?_); refine goesL_ (some 76) rfl rfl Tryd.func12 (by kernel_rfl) rfl #[.string (rdOf ByteArray.empty y158 x65_3)] rfl (by (try simp only [List.map_toArray, List.map_cons, List.map_nil]); first | done | rfl | (simp only [List.length_drop, List.length_take]; rfl)) ?_; (with_reducible refine (stevedoreref23_Records.calls k3 (rdOf ByteArray.empty y158 x65_3) t167 t168 _ A37.out).mono ?_); rintro e w50 ⟨v169, rfl, ho0, hb⟩; refine ⟨_, rfl, ?_⟩; have n0_ := Aside0.mk (Kd.R_below (by (with_reducible repeat (first | apply Kd.R_alloc | apply Kd.R_drewN | apply Kd.R_drew)); exact HO_63.out) hb); have n1_ := Aside0.mk (Kd.R_elder' (by (with_reducible repeat (first | apply Kd.R_alloc | apply Kd.R_drewN | apply Kd.R_drew)); exact HO166.out) (Kd.R_base ho0) hb); have n2_ := Aside0.mk (Kd.R_lower (Kd.R_new' ho0 (Kd.R_lt (by (with_reducible repeat (first | apply Kd.R_alloc | apply Kd.R_drewN | apply Kd.R_drew)); exact HO166.out))) (below_size (by repeat (first | (with_reducible first | exact HB.out | apply below_alloc | apply pw_below_drewN | apply below_drew1) | exact HB.out)))); have n3_ := Aside0.mk (below_step (by repeat (first | (with_reducible first | exact HB.out | apply below_alloc | apply pw_below_drewN | apply below_drew1) | exact HB.out)) hb); clear HO_63; clear HO166; clear HB; have HO_63 := n0_; have HO166 := n1_; have HO170 := n2_; have HB := n3_; clear n0_ n1_ n2_ n3_; (try clear hb); (try clear hb2); (try clear hk); (try clear hi); (try clear ho0); obtain ⟨Ao51, co51, eo51⟩ := Kd.R_slice HO166.out; subst eo51; obtain ⟨Ao52, co52, eo52⟩ := Kd.R_slice HO170.out; subst eo52) | ((with_reducible refine gate_callee (f := 13) rfl ?_); refine goesL_ (some 81) rfl rfl Tryd.func13 (by kernel_rfl) rfl #[.slice Ao51 t163.length co51, .slice Ao52 t167.length co52] rfl (by (try simp only [List.map_toArray, List.map_cons, List.map_nil]); first | done | rfl | (simp only [List.length_drop, List.length_take]; rfl)) ?_; (with_reducible refine (stevedoreref23_SameRecords.calls k3 _ _ t163 _ _ t167 false _ ?side1 ?side2 ?side3 ?side4 A38.out).mono ?_); (case side1 => repeat (first | exact (Kd.R_reads' HO166.out).2.2 | (with_reducible refine Kd.C_alloc ?_ _) | (with_reducible refine Kd.C_drewN ?_ _) | (with_reducible refine Kd.C_drew ?_))); (case side2 => exact (Kd.R_reads' HO166.out).2.1); (case side3 => repeat (first | exact (Kd.R_reads' HO170.out).2.2 | (with_reducible refine Kd.C_alloc ?_ _) | (with_reducible refine Kd.C_drewN ?_ _) | (with_reducible refine Kd.C_drew ?_))); (case side4 => exact (Kd.R_reads' HO170.out).2.1); rintro e w' ⟨rfl, ⟨nd, rfl⟩⟩; refine ⟨_, rfl, ?_⟩))
                        go_ret
                        exact ⟨by first | rfl | (simp only [show ∀ l : List UInt8, (l != []) = (!l.isEmpty) from fun l => by cases l <;> rfl]; rfl) | (simp [errW_none, errW_some] <;> rfl) | (simp [*, errW_none, errW_some] <;> rfl), by repeat (first | (with_reducible first | exact HB.out | apply below_alloc | apply pw_below_drewN | apply below_drew1) | exact HB.out)⟩
                    · rw [if_neg c35] at H
                      exact absurd H (by simp)
                  · rw [if_neg c34] at H
                    exact absurd H (by simp)
                · rw [if_neg c33] at H
                  have c33b0 : decide (x65_3 < (y158.length : Int)) = false := decide_eq_false c33
                  clear c33
                  replace H := Option.bind_eq_some_iff.mp H
                  obtain ⟨t161, A530, H⟩ := H
                  replace H : (some t161) = some r := H
                  have A53 := Aside0.mk A530
                  clear A530
                  obtain rfl := Option.some.inj H
                  go_wp2_with (first | ((with_reducible refine gate_callee (f := 9) rfl ?_); refine goesL_ (some 89) rfl rfl Tryd.func9 (by kernel_rfl) rfl #[] rfl (by (try simp only [List.map_toArray, List.map_cons, List.map_nil]); first | done | rfl | (simp only [List.length_drop, List.length_take]; rfl)) ?_; (with_reducible refine (stevedorelaw24_told.calls k3  t161 _ A53.out (Vars.below HVARS.out (by repeat (first | (with_reducible first | exact HB.out | apply below_alloc | apply pw_below_drewN | apply below_drew1) | exact HB.out)))).mono ?_); rintro e w54 ⟨rfl, hb⟩; refine ⟨_, rfl, ?_⟩; have n0_ := Aside0.mk (Kd.R_below (by (with_reducible repeat (first | apply Kd.R_alloc | apply Kd.R_drewN | apply Kd.R_drew)); exact HO_63.out) hb); have n1_ := Aside0.mk (below_step (by repeat (first | (with_reducible first | exact HB.out | apply below_alloc | apply pw_below_drewN | apply below_drew1) | exact HB.out)) hb); clear HO_63; clear HB; have HO_63 := n0_; have HB := n1_; clear n0_ n1_; (try clear hb); (try clear hb2); (try clear hk); (try clear hi)))
                  go_ret
                  exact ⟨by first | rfl | (simp only [show ∀ l : List UInt8, (l != []) = (!l.isEmpty) from fun l => by cases l <;> rfl]; rfl) | (simp [errW_none, errW_some] <;> rfl) | (simp [*, errW_none, errW_some] <;> rfl), by repeat (first | (with_reducible first | exact HB.out | apply below_alloc | apply pw_below_drewN | apply below_drew1) | exact HB.out)⟩

end Go.Proofs.YtfnicahlnpngkaaDoor.PPaxReads

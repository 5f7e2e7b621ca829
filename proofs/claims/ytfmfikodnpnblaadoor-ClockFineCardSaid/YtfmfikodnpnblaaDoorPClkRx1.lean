-- Written by this repo's gprint.py over the kit's printer, out of the translation. Not trusted: Lean checks it.
import Derived.Test.YtfmfikodnpnblaaDoorPClkRx0
namespace Go.Proofs.YtfmfikodnpnblaaDoor.PClkR
open Go.RowKit Go.Proofs.YtfmfikodnpnblaaDoorW.PrintWords Go.Proofs.YtfmfikodnpnblaaDoorW.PrintLast Go.Proofs.YtfmfikodnpnblaaDoorW.PrintMore
attribute [local go_sem] max2_int min2_int max_two min_two max_three min_three max_four min_four   -- for this text's walks alone
open Go.Proofs.YtfmfikodnpnblaaDoor.ClkLib
attribute [local go_sem] fop_run fint_run fofint_run
set_option linter.unusedVariables false
set_option linter.unusedSimpArgs false

/-! ### stevedoreref4_Parse: function 33 -/
mutual
def stevedoreref4_Parse.j0 : Nat → ByteArray → Int → Bool → Bool → Option (Nat × Int)
  | 0, _, _, _, _ => none
  | k + 1, x0, x4, x5, x23 => if x23 = true then (stevedoreref4_Parse.j1 k x0 (wrap64 (x4 + 1)) true) else (stevedoreref4_Parse.j1 k x0 x4 x5)
def stevedoreref4_Parse.j1 : Nat → ByteArray → Int → Bool → Option (Nat × Int)
  | 0, _, _, _ => none
  | k + 1, x0, x4, x5 => stevedoreref4_Parse.l0 k x0 x4 x5 0 x4 false
def stevedoreref4_Parse.l0 : Nat → ByteArray → Int → Bool → Int → Int → Bool → Option (Nat × Int)
  | 0, _, _, _, _, _, _ => none
  | k + 1, x0, x4, x5, x6, x7, x8 => if x4 < (x0.size : Int) then (if 0 ≤ x4 then (if (bt x0 x4) ≥ 48 then (stevedoreref4_Parse.j3 k x0 x4 x5 x6 x7 x8 (decide ((bt x0 x4) ≤ 57))) else (stevedoreref4_Parse.j3 k x0 x4 x5 x6 x7 x8 false)) else (none)) else (stevedoreref4_Parse.j3 k x0 x4 x5 x6 x7 x8 false)
def stevedoreref4_Parse.j3 : Nat → ByteArray → Int → Bool → Int → Int → Bool → Bool → Option (Nat × Int)
  | 0, _, _, _, _, _, _, _ => none
  | k + 1, x0, x4, x5, x6, x7, x8, x42 => if x42 = true then (if x8 = true then (stevedoreref4_Parse.l0 k x0 (wrap64 (x4 + 1)) x5 x6 x7 true) else (if 0 ≤ x4 then (if x4 < (x0.size : Int) then (stevedoreref4_Parse.l0 k x0 (wrap64 (x4 + 1)) x5 (wrap64 ((wrap64 (x6 * 10)) + (((bt x0 x4) - 48) % 256))) x7 (decide ((wrap64 ((wrap64 (x6 * 10)) + (((bt x0 x4) - 48) % 256))) > 8589934592))) else (none)) else (none))) else (if x4 = x7 then (some (0, 2)) else (if x4 < (x0.size : Int) then (if 0 ≤ x4 then (if (bt x0 x4) = 46 then (stevedoreref4_Parse.j4 k x0 x4 x5 x6 x8 0 0 false (decide ((wrap64 (x4 + 1)) ≥ (x0.size : Int)))) else (stevedoreref4_Parse.j4 k x0 x4 x5 x6 x8 0 0 false true)) else (none)) else (stevedoreref4_Parse.j7 k x5 x6 x8 0 0 false)))
def stevedoreref4_Parse.j7 : Nat → Bool → Int → Bool → Int → Int → Bool → Option (Nat × Int)
  | 0, _, _, _, _, _, _ => none
  | k + 1, x5, x6, x8, x9, x10, x11 => stevedoreref4_Parse.l2 k x5 x6 x8 x9 x10 x11
def stevedoreref4_Parse.l2 : Nat → Bool → Int → Bool → Int → Int → Bool → Option (Nat × Int)
  | 0, _, _, _, _, _, _ => none
  | k + 1, x5, x6, x8, x9, x10, x11 => if x10 < 9 then (stevedoreref4_Parse.l2 k x5 x6 x8 (wrap64 (x9 * 10)) (wrap64 (x10 + 1)) x11) else (if x8 = true then (stevedoreref4_Parse.j9 k x5 x6 x9 x11 true) else (if x6 = 8589934592 then (if x9 > 0 then (stevedoreref4_Parse.j9 k x5 x6 x9 x11 true) else (stevedoreref4_Parse.j9 k x5 x6 x9 x11 x11)) else (stevedoreref4_Parse.j9 k x5 x6 x9 x11 false)))
def stevedoreref4_Parse.j9 : Nat → Bool → Int → Int → Bool → Bool → Option (Nat × Int)
  | 0, _, _, _, _, _ => none
  | k + 1, x5, x6, x9, x11, x132 => if x132 = true then (some (0, 7)) else (if (Int.tmod (wrap64 (x9 * 512)) 1000000000) = 0 then (stevedoreref4_Parse.j10 k x5 (wrap64 ((wrap64 (x6 * 512)) + (wrap64 (Int.tdiv (wrap64 (x9 * 512)) 1000000000)))) (!x11)) else (stevedoreref4_Parse.j10 k x5 (wrap64 ((wrap64 (x6 * 512)) + (wrap64 (Int.tdiv (wrap64 (x9 * 512)) 1000000000)))) false))
def stevedoreref4_Parse.j10 : Nat → Bool → Int → Bool → Option (Nat × Int)
  | 0, _, _, _ => none
  | k + 1, x5, x12, x13 => if x5 = true then (if x13 = true then (if (fvalid .quo (floatOfInt .f64 (wrap64 (-x12))) 4647714815446351872) = true then (some (fop .quo (floatOfInt .f64 (wrap64 (-x12))) 4647714815446351872, 0)) else (none)) else (if (fvalid .quo (floatOfInt .f64 (wrap64 ((wrap64 (-x12)) - 1))) 4647714815446351872) = true then (some (fop .quo (floatOfInt .f64 (wrap64 ((wrap64 (-x12)) - 1))) 4647714815446351872, 0)) else (none))) else (if (fvalid .quo (floatOfInt .f64 x12) 4647714815446351872) = true then (some (fop .quo (floatOfInt .f64 x12) 4647714815446351872, 0)) else (none))
def stevedoreref4_Parse.j4 : Nat → ByteArray → Int → Bool → Int → Bool → Int → Int → Bool → Bool → Option (Nat × Int)
  | 0, _, _, _, _, _, _, _, _, _ => none
  | k + 1, x0, x4, x5, x6, x8, x9, x10, x11, x77 => if x77 = true then (some (0, 2)) else (stevedoreref4_Parse.l1 k x0 (wrap64 (x4 + 1)) x5 x6 x8 x9 x10 x11)
def stevedoreref4_Parse.l1 : Nat → ByteArray → Int → Bool → Int → Bool → Int → Int → Bool → Option (Nat × Int)
  | 0, _, _, _, _, _, _, _, _ => none
  | k + 1, x0, x4, x5, x6, x8, x9, x10, x11 => if x4 < (x0.size : Int) then (if 0 ≤ x4 then (if (bt x0 x4) < 48 then (stevedoreref4_Parse.j6 k x0 x4 x5 x6 x8 x9 x10 x11 true) else (stevedoreref4_Parse.j6 k x0 x4 x5 x6 x8 x9 x10 x11 (decide ((bt x0 x4) > 57)))) else (none)) else (stevedoreref4_Parse.j7 k x5 x6 x8 x9 x10 x11)
def stevedoreref4_Parse.j6 : Nat → ByteArray → Int → Bool → Int → Bool → Int → Int → Bool → Bool → Option (Nat × Int)
  | 0, _, _, _, _, _, _, _, _, _ => none
  | k + 1, x0, x4, x5, x6, x8, x9, x10, x11, x95 => if x95 = true then (some (0, 2)) else (if x10 < 9 then (if 0 ≤ x4 then (if x4 < (x0.size : Int) then (stevedoreref4_Parse.l1 k x0 (wrap64 (x4 + 1)) x5 x6 x8 (wrap64 ((wrap64 (x9 * 10)) + (((bt x0 x4) - 48) % 256))) (wrap64 (x10 + 1)) x11) else (none)) else (none)) else (if x11 = true then (stevedoreref4_Parse.l1 k x0 (wrap64 (x4 + 1)) x5 x6 x8 x9 x10 true) else (if 0 ≤ x4 then (if x4 < (x0.size : Int) then (stevedoreref4_Parse.l1 k x0 (wrap64 (x4 + 1)) x5 x6 x8 x9 x10 ((bt x0 x4) != 48)) else (none)) else (none))))
end
def stevedoreref4_Parse.f (k : Nat) (a0 : ByteArray) : Option (Nat × Int) := if 0 < (a0.size : Int) then (stevedoreref4_Parse.j0 k a0 0 false ((bt a0 0) == 45)) else (stevedoreref4_Parse.j0 k a0 0 false false)
theorem stevedoreref4_Parse.mono_l : ∀ k, (∀ y0 y1 y2 y3, LeO (stevedoreref4_Parse.j0 k y0 y1 y2 y3) (stevedoreref4_Parse.j0 (k + 1) y0 y1 y2 y3)) ∧ (∀ y0 y1 y2, LeO (stevedoreref4_Parse.j1 k y0 y1 y2) (stevedoreref4_Parse.j1 (k + 1) y0 y1 y2)) ∧ (∀ y0 y1 y2 y3 y4 y5, LeO (stevedoreref4_Parse.l0 k y0 y1 y2 y3 y4 y5) (stevedoreref4_Parse.l0 (k + 1) y0 y1 y2 y3 y4 y5)) ∧ (∀ y0 y1 y2 y3 y4 y5 y6, LeO (stevedoreref4_Parse.j3 k y0 y1 y2 y3 y4 y5 y6) (stevedoreref4_Parse.j3 (k + 1) y0 y1 y2 y3 y4 y5 y6)) ∧ (∀ y0 y1 y2 y3 y4 y5, LeO (stevedoreref4_Parse.j7 k y0 y1 y2 y3 y4 y5) (stevedoreref4_Parse.j7 (k + 1) y0 y1 y2 y3 y4 y5)) ∧ (∀ y0 y1 y2 y3 y4 y5, LeO (stevedoreref4_Parse.l2 k y0 y1 y2 y3 y4 y5) (stevedoreref4_Parse.l2 (k + 1) y0 y1 y2 y3 y4 y5)) ∧ (∀ y0 y1 y2 y3 y4, LeO (stevedoreref4_Parse.j9 k y0 y1 y2 y3 y4) (stevedoreref4_Parse.j9 (k + 1) y0 y1 y2 y3 y4)) ∧ (∀ y0 y1 y2, LeO (stevedoreref4_Parse.j10 k y0 y1 y2) (stevedoreref4_Parse.j10 (k + 1) y0 y1 y2)) ∧ (∀ y0 y1 y2 y3 y4 y5 y6 y7 y8, LeO (stevedoreref4_Parse.j4 k y0 y1 y2 y3 y4 y5 y6 y7 y8) (stevedoreref4_Parse.j4 (k + 1) y0 y1 y2 y3 y4 y5 y6 y7 y8)) ∧ (∀ y0 y1 y2 y3 y4 y5 y6 y7, LeO (stevedoreref4_Parse.l1 k y0 y1 y2 y3 y4 y5 y6 y7) (stevedoreref4_Parse.l1 (k + 1) y0 y1 y2 y3 y4 y5 y6 y7)) ∧ (∀ y0 y1 y2 y3 y4 y5 y6 y7 y8, LeO (stevedoreref4_Parse.j6 k y0 y1 y2 y3 y4 y5 y6 y7 y8) (stevedoreref4_Parse.j6 (k + 1) y0 y1 y2 y3 y4 y5 y6 y7 y8))
  | 0 => ⟨fun _ _ _ _ r h => by simp [stevedoreref4_Parse.j0] at h, fun _ _ _ r h => by simp [stevedoreref4_Parse.j1] at h, fun _ _ _ _ _ _ r h => by simp [stevedoreref4_Parse.l0] at h, fun _ _ _ _ _ _ _ r h => by simp [stevedoreref4_Parse.j3] at h, fun _ _ _ _ _ _ r h => by simp [stevedoreref4_Parse.j7] at h, fun _ _ _ _ _ _ r h => by simp [stevedoreref4_Parse.l2] at h, fun _ _ _ _ _ r h => by simp [stevedoreref4_Parse.j9] at h, fun _ _ _ r h => by simp [stevedoreref4_Parse.j10] at h, fun _ _ _ _ _ _ _ _ _ r h => by simp [stevedoreref4_Parse.j4] at h, fun _ _ _ _ _ _ _ _ r h => by simp [stevedoreref4_Parse.l1] at h, fun _ _ _ _ _ _ _ _ _ r h => by simp [stevedoreref4_Parse.j6] at h⟩
  | k + 1 => by
    obtain ⟨ih0, ih1, ih2, ih3, ih4, ih5, ih6, ih7, ih8, ih9, ih10⟩ := stevedoreref4_Parse.mono_l k
    refine ⟨?_, ?_, ?_, ?_, ?_, ?_, ?_, ?_, ?_, ?_, ?_⟩
    · intro y0 y1 y2 y3
      unfold stevedoreref4_Parse.j0
      repeat' first
      | (with_reducible exact ih0 _ _ _ _)
      | (with_reducible exact ih1 _ _ _)
      | (with_reducible exact ih2 _ _ _ _ _ _)
      | (with_reducible exact ih3 _ _ _ _ _ _ _)
      | (with_reducible exact ih4 _ _ _ _ _ _)
      | (with_reducible exact ih5 _ _ _ _ _ _)
      | (with_reducible exact ih6 _ _ _ _ _)
      | (with_reducible exact ih7 _ _ _)
      | (with_reducible exact ih8 _ _ _ _ _ _ _ _ _)
      | (with_reducible exact ih9 _ _ _ _ _ _ _ _)
      | (with_reducible exact ih10 _ _ _ _ _ _ _ _ _)
      | (with_reducible exact LeO.refl _)
      | (with_reducible exact LeO.none _)
      | (with_reducible refine LeO.ite ?_ ?_)
      | (with_reducible refine LeO.bind ?_ (fun _ => ?_))
      | exact ih0 _ _ _ _
      | exact ih1 _ _ _
      | exact ih2 _ _ _ _ _ _
      | exact ih3 _ _ _ _ _ _ _
      | exact ih4 _ _ _ _ _ _
      | exact ih5 _ _ _ _ _ _
      | exact ih6 _ _ _ _ _
      | exact ih7 _ _ _
      | exact ih8 _ _ _ _ _ _ _ _ _
      | exact ih9 _ _ _ _ _ _ _ _
      | exact ih10 _ _ _ _ _ _ _ _ _
      | exact LeO.none _
      | refine LeO.ite ?_ ?_
      | refine LeO.bind ?_ (fun _ => ?_)
    · intro y0 y1 y2
      unfold stevedoreref4_Parse.j1
      repeat' first
      | (with_reducible exact ih0 _ _ _ _)
      | (with_reducible exact ih1 _ _ _)
      | (with_reducible exact ih2 _ _ _ _ _ _)
      | (with_reducible exact ih3 _ _ _ _ _ _ _)
      | (with_reducible exact ih4 _ _ _ _ _ _)
      | (with_reducible exact ih5 _ _ _ _ _ _)
      | (with_reducible exact ih6 _ _ _ _ _)
      | (with_reducible exact ih7 _ _ _)
      | (with_reducible exact ih8 _ _ _ _ _ _ _ _ _)
      | (with_reducible exact ih9 _ _ _ _ _ _ _ _)
      | (with_reducible exact ih10 _ _ _ _ _ _ _ _ _)
      | (with_reducible exact LeO.refl _)
      | (with_reducible exact LeO.none _)
      | (with_reducible refine LeO.ite ?_ ?_)
      | (with_reducible refine LeO.bind ?_ (fun _ => ?_))
      | exact ih0 _ _ _ _
      | exact ih1 _ _ _
      | exact ih2 _ _ _ _ _ _
      | exact ih3 _ _ _ _ _ _ _
      | exact ih4 _ _ _ _ _ _
      | exact ih5 _ _ _ _ _ _
      | exact ih6 _ _ _ _ _
      | exact ih7 _ _ _
      | exact ih8 _ _ _ _ _ _ _ _ _
      | exact ih9 _ _ _ _ _ _ _ _
      | exact ih10 _ _ _ _ _ _ _ _ _
      | exact LeO.none _
      | refine LeO.ite ?_ ?_
      | refine LeO.bind ?_ (fun _ => ?_)
    · intro y0 y1 y2 y3 y4 y5
      unfold stevedoreref4_Parse.l0
      repeat' first
      | (with_reducible exact ih0 _ _ _ _)
      | (with_reducible exact ih1 _ _ _)
      | (with_reducible exact ih2 _ _ _ _ _ _)
      | (with_reducible exact ih3 _ _ _ _ _ _ _)
      | (with_reducible exact ih4 _ _ _ _ _ _)
      | (with_reducible exact ih5 _ _ _ _ _ _)
      | (with_reducible exact ih6 _ _ _ _ _)
      | (with_reducible exact ih7 _ _ _)
      | (with_reducible exact ih8 _ _ _ _ _ _ _ _ _)
      | (with_reducible exact ih9 _ _ _ _ _ _ _ _)
      | (with_reducible exact ih10 _ _ _ _ _ _ _ _ _)
      | (with_reducible exact LeO.refl _)
      | (with_reducible exact LeO.none _)
      | (with_reducible refine LeO.ite ?_ ?_)
      | (with_reducible refine LeO.bind ?_ (fun _ => ?_))
      | exact ih0 _ _ _ _
      | exact ih1 _ _ _
      | exact ih2 _ _ _ _ _ _
      | exact ih3 _ _ _ _ _ _ _
      | exact ih4 _ _ _ _ _ _
      | exact ih5 _ _ _ _ _ _
      | exact ih6 _ _ _ _ _
      | exact ih7 _ _ _
      | exact ih8 _ _ _ _ _ _ _ _ _
      | exact ih9 _ _ _ _ _ _ _ _
      | exact ih10 _ _ _ _ _ _ _ _ _
      | exact LeO.none _
      | refine LeO.ite ?_ ?_
      | refine LeO.bind ?_ (fun _ => ?_)
    · intro y0 y1 y2 y3 y4 y5 y6
      unfold stevedoreref4_Parse.j3
      repeat' first
      | (with_reducible exact ih0 _ _ _ _)
      | (with_reducible exact ih1 _ _ _)
      | (with_reducible exact ih2 _ _ _ _ _ _)
      | (with_reducible exact ih3 _ _ _ _ _ _ _)
      | (with_reducible exact ih4 _ _ _ _ _ _)
      | (with_reducible exact ih5 _ _ _ _ _ _)
      | (with_reducible exact ih6 _ _ _ _ _)
      | (with_reducible exact ih7 _ _ _)
      | (with_reducible exact ih8 _ _ _ _ _ _ _ _ _)
      | (with_reducible exact ih9 _ _ _ _ _ _ _ _)
      | (with_reducible exact ih10 _ _ _ _ _ _ _ _ _)
      | (with_reducible exact LeO.refl _)
      | (with_reducible exact LeO.none _)
      | (with_reducible refine LeO.ite ?_ ?_)
      | (with_reducible refine LeO.bind ?_ (fun _ => ?_))
      | exact ih0 _ _ _ _
      | exact ih1 _ _ _
      | exact ih2 _ _ _ _ _ _
      | exact ih3 _ _ _ _ _ _ _
      | exact ih4 _ _ _ _ _ _
      | exact ih5 _ _ _ _ _ _
      | exact ih6 _ _ _ _ _
      | exact ih7 _ _ _
      | exact ih8 _ _ _ _ _ _ _ _ _
      | exact ih9 _ _ _ _ _ _ _ _
      | exact ih10 _ _ _ _ _ _ _ _ _
      | exact LeO.none _
      | refine LeO.ite ?_ ?_
      | refine LeO.bind ?_ (fun _ => ?_)
    · intro y0 y1 y2 y3 y4 y5
      unfold stevedoreref4_Parse.j7
      repeat' first
      | (with_reducible exact ih0 _ _ _ _)
      | (with_reducible exact ih1 _ _ _)
      | (with_reducible exact ih2 _ _ _ _ _ _)
      | (with_reducible exact ih3 _ _ _ _ _ _ _)
      | (with_reducible exact ih4 _ _ _ _ _ _)
      | (with_reducible exact ih5 _ _ _ _ _ _)
      | (with_reducible exact ih6 _ _ _ _ _)
      | (with_reducible exact ih7 _ _ _)
      | (with_reducible exact ih8 _ _ _ _ _ _ _ _ _)
      | (with_reducible exact ih9 _ _ _ _ _ _ _ _)
      | (with_reducible exact ih10 _ _ _ _ _ _ _ _ _)
      | (with_reducible exact LeO.refl _)
      | (with_reducible exact LeO.none _)
      | (with_reducible refine LeO.ite ?_ ?_)
      | (with_reducible refine LeO.bind ?_ (fun _ => ?_))
      | exact ih0 _ _ _ _
      | exact ih1 _ _ _
      | exact ih2 _ _ _ _ _ _
      | exact ih3 _ _ _ _ _ _ _
      | exact ih4 _ _ _ _ _ _
      | exact ih5 _ _ _ _ _ _
      | exact ih6 _ _ _ _ _
      | exact ih7 _ _ _
      | exact ih8 _ _ _ _ _ _ _ _ _
      | exact ih9 _ _ _ _ _ _ _ _
      | exact ih10 _ _ _ _ _ _ _ _ _
      | exact LeO.none _
      | refine LeO.ite ?_ ?_
      | refine LeO.bind ?_ (fun _ => ?_)
    · intro y0 y1 y2 y3 y4 y5
      unfold stevedoreref4_Parse.l2
      repeat' first
      | (with_reducible exact ih0 _ _ _ _)
      | (with_reducible exact ih1 _ _ _)
      | (with_reducible exact ih2 _ _ _ _ _ _)
      | (with_reducible exact ih3 _ _ _ _ _ _ _)
      | (with_reducible exact ih4 _ _ _ _ _ _)
      | (with_reducible exact ih5 _ _ _ _ _ _)
      | (with_reducible exact ih6 _ _ _ _ _)
      | (with_reducible exact ih7 _ _ _)
      | (with_reducible exact ih8 _ _ _ _ _ _ _ _ _)
      | (with_reducible exact ih9 _ _ _ _ _ _ _ _)
      | (with_reducible exact ih10 _ _ _ _ _ _ _ _ _)
      | (with_reducible exact LeO.refl _)
      | (with_reducible exact LeO.none _)
      | (with_reducible refine LeO.ite ?_ ?_)
      | (with_reducible refine LeO.bind ?_ (fun _ => ?_))
      | exact ih0 _ _ _ _
      | exact ih1 _ _ _
      | exact ih2 _ _ _ _ _ _
      | exact ih3 _ _ _ _ _ _ _
      | exact ih4 _ _ _ _ _ _
      | exact ih5 _ _ _ _ _ _
      | exact ih6 _ _ _ _ _
      | exact ih7 _ _ _
      | exact ih8 _ _ _ _ _ _ _ _ _
      | exact ih9 _ _ _ _ _ _ _ _
      | exact ih10 _ _ _ _ _ _ _ _ _
      | exact LeO.none _
      | refine LeO.ite ?_ ?_
      | refine LeO.bind ?_ (fun _ => ?_)
    · intro y0 y1 y2 y3 y4
      unfold stevedoreref4_Parse.j9
      repeat' first
      | (with_reducible exact ih0 _ _ _ _)
      | (with_reducible exact ih1 _ _ _)
      | (with_reducible exact ih2 _ _ _ _ _ _)
      | (with_reducible exact ih3 _ _ _ _ _ _ _)
      | (with_reducible exact ih4 _ _ _ _ _ _)
      | (with_reducible exact ih5 _ _ _ _ _ _)
      | (with_reducible exact ih6 _ _ _ _ _)
      | (with_reducible exact ih7 _ _ _)
      | (with_reducible exact ih8 _ _ _ _ _ _ _ _ _)
      | (with_reducible exact ih9 _ _ _ _ _ _ _ _)
      | (with_reducible exact ih10 _ _ _ _ _ _ _ _ _)
      | (with_reducible exact LeO.refl _)
      | (with_reducible exact LeO.none _)
      | (with_reducible refine LeO.ite ?_ ?_)
      | (with_reducible refine LeO.bind ?_ (fun _ => ?_))
      | exact ih0 _ _ _ _
      | exact ih1 _ _ _
      | exact ih2 _ _ _ _ _ _
      | exact ih3 _ _ _ _ _ _ _
      | exact ih4 _ _ _ _ _ _
      | exact ih5 _ _ _ _ _ _
      | exact ih6 _ _ _ _ _
      | exact ih7 _ _ _
      | exact ih8 _ _ _ _ _ _ _ _ _
      | exact ih9 _ _ _ _ _ _ _ _
      | exact ih10 _ _ _ _ _ _ _ _ _
      | exact LeO.none _
      | refine LeO.ite ?_ ?_
      | refine LeO.bind ?_ (fun _ => ?_)
    · intro y0 y1 y2
      unfold stevedoreref4_Parse.j10
      repeat' first
      | (with_reducible exact ih0 _ _ _ _)
      | (with_reducible exact ih1 _ _ _)
      | (with_reducible exact ih2 _ _ _ _ _ _)
      | (with_reducible exact ih3 _ _ _ _ _ _ _)
      | (with_reducible exact ih4 _ _ _ _ _ _)
      | (with_reducible exact ih5 _ _ _ _ _ _)
      | (with_reducible exact ih6 _ _ _ _ _)
      | (with_reducible exact ih7 _ _ _)
      | (with_reducible exact ih8 _ _ _ _ _ _ _ _ _)
      | (with_reducible exact ih9 _ _ _ _ _ _ _ _)
      | (with_reducible exact ih10 _ _ _ _ _ _ _ _ _)
      | (with_reducible exact LeO.refl _)
      | (with_reducible exact LeO.none _)
      | (with_reducible refine LeO.ite ?_ ?_)
      | (with_reducible refine LeO.bind ?_ (fun _ => ?_))
      | exact ih0 _ _ _ _
      | exact ih1 _ _ _
      | exact ih2 _ _ _ _ _ _
      | exact ih3 _ _ _ _ _ _ _
      | exact ih4 _ _ _ _ _ _
      | exact ih5 _ _ _ _ _ _
      | exact ih6 _ _ _ _ _
      | exact ih7 _ _ _
      | exact ih8 _ _ _ _ _ _ _ _ _
      | exact ih9 _ _ _ _ _ _ _ _
      | exact ih10 _ _ _ _ _ _ _ _ _
      | exact LeO.none _
      | refine LeO.ite ?_ ?_
      | refine LeO.bind ?_ (fun _ => ?_)
    · intro y0 y1 y2 y3 y4 y5 y6 y7 y8
      unfold stevedoreref4_Parse.j4
      repeat' first
      | (with_reducible exact ih0 _ _ _ _)
      | (with_reducible exact ih1 _ _ _)
      | (with_reducible exact ih2 _ _ _ _ _ _)
      | (with_reducible exact ih3 _ _ _ _ _ _ _)
      | (with_reducible exact ih4 _ _ _ _ _ _)
      | (with_reducible exact ih5 _ _ _ _ _ _)
      | (with_reducible exact ih6 _ _ _ _ _)
      | (with_reducible exact ih7 _ _ _)
      | (with_reducible exact ih8 _ _ _ _ _ _ _ _ _)
      | (with_reducible exact ih9 _ _ _ _ _ _ _ _)
      | (with_reducible exact ih10 _ _ _ _ _ _ _ _ _)
      | (with_reducible exact LeO.refl _)
      | (with_reducible exact LeO.none _)
      | (with_reducible refine LeO.ite ?_ ?_)
      | (with_reducible refine LeO.bind ?_ (fun _ => ?_))
      | exact ih0 _ _ _ _
      | exact ih1 _ _ _
      | exact ih2 _ _ _ _ _ _
      | exact ih3 _ _ _ _ _ _ _
      | exact ih4 _ _ _ _ _ _
      | exact ih5 _ _ _ _ _ _
      | exact ih6 _ _ _ _ _
      | exact ih7 _ _ _
      | exact ih8 _ _ _ _ _ _ _ _ _
      | exact ih9 _ _ _ _ _ _ _ _
      | exact ih10 _ _ _ _ _ _ _ _ _
      | exact LeO.none _
      | refine LeO.ite ?_ ?_
      | refine LeO.bind ?_ (fun _ => ?_)
    · intro y0 y1 y2 y3 y4 y5 y6 y7
      unfold stevedoreref4_Parse.l1
      repeat' first
      | (with_reducible exact ih0 _ _ _ _)
      | (with_reducible exact ih1 _ _ _)
      | (with_reducible exact ih2 _ _ _ _ _ _)
      | (with_reducible exact ih3 _ _ _ _ _ _ _)
      | (with_reducible exact ih4 _ _ _ _ _ _)
      | (with_reducible exact ih5 _ _ _ _ _ _)
      | (with_reducible exact ih6 _ _ _ _ _)
      | (with_reducible exact ih7 _ _ _)
      | (with_reducible exact ih8 _ _ _ _ _ _ _ _ _)
      | (with_reducible exact ih9 _ _ _ _ _ _ _ _)
      | (with_reducible exact ih10 _ _ _ _ _ _ _ _ _)
      | (with_reducible exact LeO.refl _)
      | (with_reducible exact LeO.none _)
      | (with_reducible refine LeO.ite ?_ ?_)
      | (with_reducible refine LeO.bind ?_ (fun _ => ?_))
      | exact ih0 _ _ _ _
      | exact ih1 _ _ _
      | exact ih2 _ _ _ _ _ _
      | exact ih3 _ _ _ _ _ _ _
      | exact ih4 _ _ _ _ _ _
      | exact ih5 _ _ _ _ _ _
      | exact ih6 _ _ _ _ _
      | exact ih7 _ _ _
      | exact ih8 _ _ _ _ _ _ _ _ _
      | exact ih9 _ _ _ _ _ _ _ _
      | exact ih10 _ _ _ _ _ _ _ _ _
      | exact LeO.none _
      | refine LeO.ite ?_ ?_
      | refine LeO.bind ?_ (fun _ => ?_)
    · intro y0 y1 y2 y3 y4 y5 y6 y7 y8
      unfold stevedoreref4_Parse.j6
      repeat' first
      | (with_reducible exact ih0 _ _ _ _)
      | (with_reducible exact ih1 _ _ _)
      | (with_reducible exact ih2 _ _ _ _ _ _)
      | (with_reducible exact ih3 _ _ _ _ _ _ _)
      | (with_reducible exact ih4 _ _ _ _ _ _)
      | (with_reducible exact ih5 _ _ _ _ _ _)
      | (with_reducible exact ih6 _ _ _ _ _)
      | (with_reducible exact ih7 _ _ _)
      | (with_reducible exact ih8 _ _ _ _ _ _ _ _ _)
      | (with_reducible exact ih9 _ _ _ _ _ _ _ _)
      | (with_reducible exact ih10 _ _ _ _ _ _ _ _ _)
      | (with_reducible exact LeO.refl _)
      | (with_reducible exact LeO.none _)
      | (with_reducible refine LeO.ite ?_ ?_)
      | (with_reducible refine LeO.bind ?_ (fun _ => ?_))
      | exact ih0 _ _ _ _
      | exact ih1 _ _ _
      | exact ih2 _ _ _ _ _ _
      | exact ih3 _ _ _ _ _ _ _
      | exact ih4 _ _ _ _ _ _
      | exact ih5 _ _ _ _ _ _
      | exact ih6 _ _ _ _ _
      | exact ih7 _ _ _
      | exact ih8 _ _ _ _ _ _ _ _ _
      | exact ih9 _ _ _ _ _ _ _ _
      | exact ih10 _ _ _ _ _ _ _ _ _
      | exact LeO.none _
      | refine LeO.ite ?_ ?_
      | refine LeO.bind ?_ (fun _ => ?_)
theorem stevedoreref4_Parse.mono : ∀ a0 k, LeO (stevedoreref4_Parse.f k a0) (stevedoreref4_Parse.f (k + 1) a0) := by
  intro a0 k
  obtain ⟨ih0, ih1, ih2, ih3, ih4, ih5, ih6, ih7, ih8, ih9, ih10⟩ := stevedoreref4_Parse.mono_l k
  unfold stevedoreref4_Parse.f
  repeat' first
      | (with_reducible exact ih0 _ _ _ _)
      | (with_reducible exact ih1 _ _ _)
      | (with_reducible exact ih2 _ _ _ _ _ _)
      | (with_reducible exact ih3 _ _ _ _ _ _ _)
      | (with_reducible exact ih4 _ _ _ _ _ _)
      | (with_reducible exact ih5 _ _ _ _ _ _)
      | (with_reducible exact ih6 _ _ _ _ _)
      | (with_reducible exact ih7 _ _ _)
      | (with_reducible exact ih8 _ _ _ _ _ _ _ _ _)
      | (with_reducible exact ih9 _ _ _ _ _ _ _ _)
      | (with_reducible exact ih10 _ _ _ _ _ _ _ _ _)
      | (with_reducible exact LeO.refl _)
      | (with_reducible exact LeO.none _)
      | (with_reducible refine LeO.ite ?_ ?_)
      | (with_reducible refine LeO.bind ?_ (fun _ => ?_))
      | exact ih0 _ _ _ _
      | exact ih1 _ _ _
      | exact ih2 _ _ _ _ _ _
      | exact ih3 _ _ _ _ _ _ _
      | exact ih4 _ _ _ _ _ _
      | exact ih5 _ _ _ _ _ _
      | exact ih6 _ _ _ _ _
      | exact ih7 _ _ _
      | exact ih8 _ _ _ _ _ _ _ _ _
      | exact ih9 _ _ _ _ _ _ _ _
      | exact ih10 _ _ _ _ _ _ _ _ _
      | exact LeO.none _
      | refine LeO.ite ?_ ?_
      | refine LeO.bind ?_ (fun _ => ?_)
set_option maxHeartbeats 8000000 in
set_option maxRecDepth 100000 in
theorem stevedoreref4_Parse.calls (k : Nat) (a0 : ByteArray) (r1 : Nat) (r2 : Int) (w : World) (h : stevedoreref4_Parse.f k a0 = some (r1, r2)) :
    Calls Tryd.prog 33 #[.string a0] w fun e w' => e = .returned (.tuple #[.float .f64 r1, .int .i64 r2]) ∧ Drawn0 w w' := by
  have H : (if 0 < (a0.size : Int) then (stevedoreref4_Parse.j0 k a0 0 false ((bt a0 0) == 45)) else (stevedoreref4_Parse.j0 k a0 0 false false)) = some (r1, r2) := h
  clear h
  have HC2 := Aside0.mk H
  clear H
  go_enter Tryd.func33, Tryd.ntmps33
  go_upto_region 3 with (fail)
  go_cut [23] (fun v23 wc => ∃ (kq : Nat) (x23_1 : Bool), v23 = .bool x23_1 ∧ Aside0 (stevedoreref4_Parse.j0 kq a0 0 false x23_1 = some (r1, r2)) ∧ Aside0 (kq ≤ k) ∧ Drawn0 w wc)
  case first =>
    have H := HC2.out
    clear HC2
    by_cases c3 : 0 < (a0.size : Int)
    · rw [if_pos c3] at H
      have c3b0 : decide (0 < (a0.size : Int)) = true := decide_eq_true c3
      have c3b1 : decide (0 < a0.size) = true := decide_eq_true (by omega)
      clear c3
      (first | rw [c3b0] | (simp only [i64_w, i32_w]; rw [c3b0]) | rw [c3b1] | skip)
      have H' := Aside0.mk H
      clear H
      have p4 : 0 ≤ (0 : Int) := (by omega)
      have q4 : 0 < a0.size := (by have : (0 : Int) < (a0.size : Int) := of_decide_eq_true (by first | (with_reducible assumption) | assumption); omega)
      have hx4 : ∀ h : 0 < a0.size, ((a0[0]'h).toNat : Int) = bt a0 0 := bt_at a0 0
      clear p4
      have qi4 : (0 < (a0.size : Int)) = True := eq_true (of_decide_eq_true (by first | (with_reducible assumption) | assumption))
      replace q4 := eq_true q4
      go_wp2
      go_meet
      case rel => exact ⟨_, (((bt a0 0) == 45)), (by first | rfl | (simp; done) | (simp [*]; done)), H', ⟨by first | omega | exact Nat.le_refl _⟩, by repeat (first | exact Drawn0.refl _ | apply Drawn0.step)⟩
    · rw [if_neg c3] at H
      have c3b0 : decide (0 < (a0.size : Int)) = false := decide_eq_false c3
      have c3b1 : decide (0 < a0.size) = false := decide_eq_false (by omega)
      clear c3
      (first | rw [c3b0] | (simp only [i64_w, i32_w]; rw [c3b0]) | rw [c3b1] | skip)
      have H' := Aside0.mk H
      clear H
      go_wp2
      go_meet
      case rel => exact ⟨_, (false), (by first | rfl | (simp; done) | (simp [*]; done)), H', ⟨by first | omega | exact Nat.le_refl _⟩, by repeat (first | exact Drawn0.refl _ | apply Drawn0.step)⟩
  case rest =>
    clear HC2
    try clear p2
    try clear c3
    try clear c3b0
    try clear c3b1
    try clear p4
    try clear q4
    try clear hx4
    try clear qi4
    try clear p4
    try clear q4
    obtain ⟨kq, x23_1, rfl, HA, HJ1, ⟨mc1, rfl⟩⟩ := hcut
    cases kq with
    | zero => exact absurd HA.out (by simp [stevedoreref4_Parse.j0])
    | succ kj1 =>
      have H := HA.out
      clear HA
      simp only [stevedoreref4_Parse.j0] at H
      have HC5 := Aside0.mk H
      clear H
      go_upto_if 23 with (fail)
      go_cut [4, 5] (fun v4 v5 wc => ∃ (kq : Nat) (x4_4 : Int) (x5_4 : Bool), v4 = .int .i64 x4_4 ∧ v5 = .bool x5_4 ∧ Aside0 (stevedoreref4_Parse.j1 kq a0 x4_4 x5_4 = some (r1, r2)) ∧ Aside0 (kq ≤ kj1) ∧ Drawn0 w wc)
      case first =>
        have H := HC5.out
        clear HC5
        by_cases c6 : x23_1 = true
        · subst c6
          have H1 : (stevedoreref4_Parse.j1 kj1 a0 (wrap64 (0 + 1)) true) = some (r1, r2) := by rw [if_pos rfl] at H; exact H
          clear H
          have H := H1
          clear H1
          have H' := Aside0.mk H
          clear H
          go_wp2
          go_meet
          case rel => exact ⟨_, (wrap64 (0 + 1)), (true), (by first | rfl | (simp; done) | (simp [*]; done) | (simp [show wrap64 1 = 1 by unfold wrap64; omega]; done)), (by first | rfl | (simp; done) | (simp [*]; done)), H', ⟨by have := HJ1.out; first | omega | exact Nat.le_refl _⟩, by repeat (first | exact Drawn0.refl _ | apply Drawn0.step)⟩
        · replace c6 := Bool.eq_false_iff.mpr c6
          subst c6
          have H1 : (stevedoreref4_Parse.j1 kj1 a0 0 false) = some (r1, r2) := by rw [if_neg (show ¬ (false = true) by decide)] at H; exact H
          clear H
          have H := H1
          clear H1
          have H' := Aside0.mk H
          clear H
          go_wp2
          go_meet
          case rel => exact ⟨_, (0), (false), (by first | rfl | (simp; done) | (simp [*]; done)), (by first | rfl | (simp; done) | (simp [*]; done)), H', ⟨by have := HJ1.out; first | omega | exact Nat.le_refl _⟩, by repeat (first | exact Drawn0.refl _ | apply Drawn0.step)⟩
      case rest =>
        clear HC5
        try clear c1
        try clear p2
        try clear c3
        try clear c3b0
        try clear c3b1
        try clear p4
        try clear q4
        try clear hx4
        try clear qi4
        try clear c6
        try clear p6
        try clear p2
        try clear p4
        try clear q4
        obtain ⟨kq, x4_4, x5_4, rfl, rfl, HA, HJ4, ⟨mc4, rfl⟩⟩ := hcut
        cases kq with
        | zero => exact absurd HA.out (by simp [stevedoreref4_Parse.j1])
        | succ kj4 =>
          have H := HA.out
          clear HA
          simp only [stevedoreref4_Parse.j1] at H
          have H' := Aside0.mk H
          clear H
          go_wp2
          go_loopg [4, 6, 8] kj4 (fun kq v4 v6 v8 w' => ∃ (x4_3 : Int) (x6_3 : Int) (x8_3 : Bool), v4 = .int .i64 x4_3 ∧ v6 = .int .i64 x6_3 ∧ v8 = .bool x8_3 ∧ Aside0 (stevedoreref4_Parse.l0 kq a0 x4_3 x5_4 x6_3 x4_4 x8_3 = some (r1, r2)) ∧ Aside0 (kq ≤ kj4) ∧ Drawn0 w w')
          case atStart => exact ⟨(x4_4), (0), (false), (by first | rfl | (simp; done) | (simp [*]; done)), (by first | rfl | (simp; done) | (simp [*]; done)), (by first | rfl | (simp; done) | (simp [*]; done)), H', ⟨Nat.le_refl _⟩, by repeat (first | exact Drawn0.refl _ | apply Drawn0.step)⟩
          case round =>
            clear H'
            try clear c1
            try clear p2
            try clear c3
            try clear c3b0
            try clear c3b1
            try clear c4
            try clear p4
            try clear q4
            try clear hx4
            try clear qi4
            try clear c6
            try clear p6
            try clear p2
            try clear p4
            try clear p6
            try clear q4
            obtain ⟨x4_3, x6_3, x8_3, rfl, rfl, rfl, HA, HK3, ⟨m3, rfl⟩⟩ := hrel
            cases gk with
            | zero => exact absurd HA.out (by simp [stevedoreref4_Parse.l0])
            | succ k3 =>
              have H := HA.out
              clear HA
              simp only [stevedoreref4_Parse.l0] at H
              have HC7 := Aside0.mk H
              clear H
              go_upto_region 9 with (fail)
              go_cut [42] (fun v42 wc => ∃ (kq : Nat) (x42_6 : Bool), v42 = .bool x42_6 ∧ Aside0 (stevedoreref4_Parse.j3 kq a0 x4_3 x5_4 x6_3 x4_4 x8_3 x42_6 = some (r1, r2)) ∧ Aside0 (kq ≤ k3) ∧ Drawn0 w wc)
              case first =>
                have H := HC7.out
                clear HC7
                by_cases c8 : x4_3 < (a0.size : Int)
                · rw [if_pos c8] at H
                  have c8b0 : decide (x4_3 < (a0.size : Int)) = true := decide_eq_true c8
                  clear c8
                  (first | rw [c8b0] | (simp only [i64_w, i32_w]; rw [c8b0]) | rw [c8b1] | skip)
                  by_cases c9 : 0 ≤ x4_3
                  · rw [if_pos c9] at H
                    have c9b0 : decide (0 ≤ x4_3) = true := decide_eq_true c9
                    clear c9
                    by_cases c11 : (bt a0 x4_3) ≥ 48
                    · rw [if_pos c11] at H
                      have c11b0 : decide (48 ≤ (bt a0 x4_3)) = true := decide_eq_true c11
                      clear c11
                      have H' := Aside0.mk H
                      clear H
                      have p10 : 0 ≤ (x4_3 : Int) := of_decide_eq_true (by first | (with_reducible assumption) | assumption)
                      have q10 : x4_3 < (a0.size : Int) := of_decide_eq_true (by first | (with_reducible assumption) | assumption)
                      have hx10 := bt_at a0 x4_3
                      replace p10 := eq_true p10
                      replace q10 := eq_true q10
                      have p12 : 0 ≤ (x4_3 : Int) := of_decide_eq_true (by first | (with_reducible assumption) | assumption)
                      have q12 : x4_3 < (a0.size : Int) := of_decide_eq_true (by first | (with_reducible assumption) | assumption)
                      have hx12 := bt_at a0 x4_3
                      replace p12 := eq_true p12
                      replace q12 := eq_true q12
                      go_wp2
                      go_meet
                      case rel => exact ⟨_, (decide ((bt a0 x4_3) ≤ 57)), (by first | rfl | (simp; done) | (simp [*]; done)), H', ⟨by have := HJ1.out; have := HJ4.out; have := HK3.out; first | omega | exact Nat.le_refl _⟩, by repeat (first | exact Drawn0.refl _ | apply Drawn0.step)⟩
                    · rw [if_neg c11] at H
                      have c11b0 : decide (48 ≤ (bt a0 x4_3)) = false := decide_eq_false c11
                      clear c11
                      have H' := Aside0.mk H
                      clear H
                      have p10 : 0 ≤ (x4_3 : Int) := of_decide_eq_true (by first | (with_reducible assumption) | assumption)
                      have q10 : x4_3 < (a0.size : Int) := of_decide_eq_true (by first | (with_reducible assumption) | assumption)
                      have hx10 := bt_at a0 x4_3
                      replace p10 := eq_true p10
                      replace q10 := eq_true q10
                      go_wp2
                      go_meet
                      case rel => exact ⟨_, (false), (by first | rfl | (simp; done) | (simp [*]; done)), H', ⟨by have := HJ1.out; have := HJ4.out; have := HK3.out; first | omega | exact Nat.le_refl _⟩, by repeat (first | exact Drawn0.refl _ | apply Drawn0.step)⟩
                  · rw [if_neg c9] at H
                    exact absurd H (by simp)
                · rw [if_neg c8] at H
                  have c8b0 : decide (x4_3 < (a0.size : Int)) = false := decide_eq_false c8
                  clear c8
                  (first | rw [c8b0] | (simp only [i64_w, i32_w]; rw [c8b0]) | rw [c8b1] | skip)
                  have H' := Aside0.mk H
                  clear H
                  go_wp2
                  go_meet
                  case rel => exact ⟨_, (false), (by first | rfl | (simp; done) | (simp [*]; done)), H', ⟨by have := HJ1.out; have := HJ4.out; have := HK3.out; first | omega | exact Nat.le_refl _⟩, by repeat (first | exact Drawn0.refl _ | apply Drawn0.step)⟩
              case rest =>
                clear HC7
                try clear c1
                try clear p1
                try clear q1
                try clear hx1
                try clear p2
                try clear c3
                try clear c3b0
                try clear c3b1
                try clear c4
                try clear p4
                try clear q4
                try clear hx4
                try clear qi4
                try clear c6
                try clear p6
                try clear c8
                try clear c8b0
                try clear c9
                try clear c9b0
                try clear p10
                try clear q10
                try clear hx10
                try clear c11
                try clear c11b0
                try clear p12
                try clear q12
                try clear hx12
                try clear p10
                try clear p12
                try clear p2
                try clear p4
                try clear p6
                try clear q10
                try clear q12
                try clear q4
                obtain ⟨kq, x42_6, rfl, HA, HJ6, ⟨mc6, rfl⟩⟩ := hcut
                cases kq with
                | zero => exact absurd HA.out (by simp [stevedoreref4_Parse.j3])
                | succ kj6 =>
                  have H := HA.out
                  clear HA
                  simp only [stevedoreref4_Parse.j3] at H
                  by_cases c13 : x42_6 = true
                  · subst c13
                    have H1 : (if x8_3 = true then (stevedoreref4_Parse.l0 kj6 a0 (wrap64 (x4_3 + 1)) x5_4 x6_3 x4_4 true) else (if 0 ≤ x4_3 then (if x4_3 < (a0.size : Int) then (stevedoreref4_Parse.l0 kj6 a0 (wrap64 (x4_3 + 1)) x5_4 (wrap64 ((wrap64 (x6_3 * 10)) + (((bt a0 x4_3) - 48) % 256))) x4_4 (decide ((wrap64 ((wrap64 (x6_3 * 10)) + (((bt a0 x4_3) - 48) % 256))) > 8589934592))) else (none)) else (none))) = some (r1, r2) := by rw [if_pos rfl] at H; exact H
                    clear H
                    have H := H1
                    clear H1
                    by_cases c14 : x8_3 = true
                    · subst c14
                      have H1 : (stevedoreref4_Parse.l0 kj6 a0 (wrap64 (x4_3 + 1)) x5_4 x6_3 x4_4 true) = some (r1, r2) := by rw [if_pos rfl] at H; exact H
                      clear H
                      have H := H1
                      clear H1
                      have H' := Aside0.mk H
                      clear H
                      go_wp2
                      go_roundg kj6
                      case measure => have := HJ1.out; have := HJ4.out; have := HK3.out; have := HJ6.out; omega
                      case rel => exact ⟨(wrap64 (x4_3 + 1)), (x6_3), (true), (by first | rfl | (simp; done) | (simp [*]; done)), (by first | rfl | (simp; done) | (simp [*]; done)), (by first | rfl | (simp; done) | (simp [*]; done)), H', ⟨by have := HJ1.out; have := HJ4.out; have := HK3.out; have := HJ6.out; omega⟩, by repeat (first | exact Drawn0.refl _ | apply Drawn0.step)⟩
                    · replace c14 := Bool.eq_false_iff.mpr c14
                      subst c14
                      have H1 : (if 0 ≤ x4_3 then (if x4_3 < (a0.size : Int) then (stevedoreref4_Parse.l0 kj6 a0 (wrap64 (x4_3 + 1)) x5_4 (wrap64 ((wrap64 (x6_3 * 10)) + (((bt a0 x4_3) - 48) % 256))) x4_4 (decide ((wrap64 ((wrap64 (x6_3 * 10)) + (((bt a0 x4_3) - 48) % 256))) > 8589934592))) else (none)) else (none)) = some (r1, r2) := by rw [if_neg (show ¬ (false = true) by decide)] at H; exact H
                      clear H
                      have H := H1
                      clear H1
                      by_cases c15 : 0 ≤ x4_3
                      · rw [if_pos c15] at H
                        have c15b0 : decide (0 ≤ x4_3) = true := decide_eq_true c15
                        clear c15
                        by_cases c16 : x4_3 < (a0.size : Int)
                        · rw [if_pos c16] at H
                          have c16b0 : decide (x4_3 < (a0.size : Int)) = true := decide_eq_true c16
                          clear c16
                          have H' := Aside0.mk H
                          clear H
                          have p17 : 0 ≤ (x4_3 : Int) := of_decide_eq_true (by first | (with_reducible assumption) | assumption)
                          have q17 : x4_3 < (a0.size : Int) := of_decide_eq_true (by first | (with_reducible assumption) | assumption)
                          have hx17 := bt_at a0 x4_3
                          replace p17 := eq_true p17
                          replace q17 := eq_true q17
                          go_wp2
                          go_roundg kj6
                          case measure => have := HJ1.out; have := HJ4.out; have := HK3.out; have := HJ6.out; omega
                          case rel => exact ⟨(wrap64 (x4_3 + 1)), (wrap64 ((wrap64 (x6_3 * 10)) + (((bt a0 x4_3) - 48) % 256))), (decide ((wrap64 ((wrap64 (x6_3 * 10)) + (((bt a0 x4_3) - 48) % 256))) > 8589934592)), (by first | rfl | (simp; done) | (simp [*]; done)), (by first | rfl | (simp; done) | (simp [*]; done)), (by first | rfl | (simp; done) | (simp [*]; done)), H', ⟨by have := HJ1.out; have := HJ4.out; have := HK3.out; have := HJ6.out; omega⟩, by repeat (first | exact Drawn0.refl _ | apply Drawn0.step)⟩
                        · rw [if_neg c16] at H
                          exact absurd H (by simp)
                      · rw [if_neg c15] at H
                        exact absurd H (by simp)
                  · replace c13 := Bool.eq_false_iff.mpr c13
                    subst c13
                    have H1 : (if x4_3 = x4_4 then (some (0, 2)) else (if x4_3 < (a0.size : Int) then (if 0 ≤ x4_3 then (if (bt a0 x4_3) = 46 then (stevedoreref4_Parse.j4 kj6 a0 x4_3 x5_4 x6_3 x8_3 0 0 false (decide ((wrap64 (x4_3 + 1)) ≥ (a0.size : Int)))) else (stevedoreref4_Parse.j4 kj6 a0 x4_3 x5_4 x6_3 x8_3 0 0 false true)) else (none)) else (stevedoreref4_Parse.j7 kj6 x5_4 x6_3 x8_3 0 0 false))) = some (r1, r2) := by rw [if_neg (show ¬ (false = true) by decide)] at H; exact H
                    clear H
                    have H := H1
                    clear H1
                    by_cases c18 : x4_3 = x4_4
                    · rw [if_pos c18] at H
                      have c18b0 : (x4_3 == x4_4) = true := beq_iff_eq.mpr c18
                      have c18b1 : (x4_3 != x4_4) = false := bne_eq_false_iff_eq.mpr c18
                      clear c18
                      simp only [Option.some.injEq, Prod.mk.injEq] at H
                      obtain ⟨rfl, rfl⟩ := H
                      go_wp2
                      go_ret2
                      exact ⟨by first | rfl | (simp only [show ∀ l : List UInt8, (l != []) = (!l.isEmpty) from fun l => by cases l <;> rfl]; rfl) | (simp; done) | (simp [*]; done), by repeat (first | exact Drawn0.refl _ | apply Drawn0.step)⟩
                    · rw [if_neg c18] at H
                      have c18b0 : (x4_3 == x4_4) = false := beq_eq_false_iff_ne.mpr c18
                      have c18b1 : (x4_3 != x4_4) = true := bne_iff_ne.mpr c18
                      have HC19 := Aside0.mk H
                      clear H
                      go_upto_if 66 with (fail)
                      go_cut [9, 10, 11] (fun v9 v10 v11 wc => ∃ (kq : Nat) (x9_18 : Int) (x10_18 : Int) (x11_18 : Bool), v9 = .int .i64 x9_18 ∧ v10 = .int .i64 x10_18 ∧ v11 = .bool x11_18 ∧ Aside0 (stevedoreref4_Parse.j7 kq x5_4 x6_3 x8_3 x9_18 x10_18 x11_18 = some (r1, r2)) ∧ Aside0 (kq ≤ kj6) ∧ Drawn0 w wc)
                      case first =>
                        have H := HC19.out
                        clear HC19
                        by_cases c20 : x4_3 < (a0.size : Int)
                        · rw [if_pos c20] at H
                          have c20b0 : decide (x4_3 < (a0.size : Int)) = true := decide_eq_true c20
                          clear c20
                          (first | rw [c20b0] | (simp only [i64_w, i32_w]; rw [c20b0]) | rw [c20b1] | skip)
                          have HC21 := Aside0.mk H
                          clear H
                          go_upto_region 18 with (fail)
                          go_cut [77] (fun v77 wc => ∃ (kq : Nat) (x77_20 : Bool), v77 = .bool x77_20 ∧ Aside0 (stevedoreref4_Parse.j4 kq a0 x4_3 x5_4 x6_3 x8_3 0 0 false x77_20 = some (r1, r2)) ∧ Aside0 (kq ≤ kj6) ∧ Drawn0 w wc)
                          case first =>
                            have H := HC21.out
                            clear HC21
                            by_cases c22 : 0 ≤ x4_3
                            · rw [if_pos c22] at H
                              have c22b0 : decide (0 ≤ x4_3) = true := decide_eq_true c22
                              clear c22
                              (first | rw [c22b0] | (simp only [i64_w, i32_w]; rw [c22b0]) | rw [c22b1] | skip)
                              by_cases c24 : (bt a0 x4_3) = 46
                              · rw [if_pos c24] at H
                                have c24b0 : ((bt a0 x4_3) == 46) = true := beq_iff_eq.mpr c24
                                have c24b1 : ((bt a0 x4_3) != 46) = false := bne_eq_false_iff_eq.mpr c24
                                clear c24
                                have H' := Aside0.mk H
                                clear H
                                have p23 : 0 ≤ (x4_3 : Int) := of_decide_eq_true (by first | (with_reducible assumption) | assumption)
                                have q23 : x4_3 < (a0.size : Int) := of_decide_eq_true (by first | (with_reducible assumption) | assumption)
                                have hx23 := bt_at a0 x4_3
                                replace p23 := eq_true p23
                                replace q23 := eq_true q23
                                go_wp2
                                go_meet
                                case rel => exact ⟨_, (decide ((wrap64 (x4_3 + 1)) ≥ (a0.size : Int))), (by first | rfl | (simp; done) | (simp [*]; done)), H', ⟨by have := HJ1.out; have := HJ4.out; have := HK3.out; have := HJ6.out; first | omega | exact Nat.le_refl _⟩, by repeat (first | exact Drawn0.refl _ | apply Drawn0.step)⟩
                              · rw [if_neg c24] at H
                                have c24b0 : ((bt a0 x4_3) == 46) = false := beq_eq_false_iff_ne.mpr c24
                                have c24b1 : ((bt a0 x4_3) != 46) = true := bne_iff_ne.mpr c24
                                have H' := Aside0.mk H
                                clear H
                                have p23 : 0 ≤ (x4_3 : Int) := of_decide_eq_true (by first | (with_reducible assumption) | assumption)
                                have q23 : x4_3 < (a0.size : Int) := of_decide_eq_true (by first | (with_reducible assumption) | assumption)
                                have hx23 := bt_at a0 x4_3
                                replace p23 := eq_true p23
                                replace q23 := eq_true q23
                                go_wp2
                                go_meet
                                case rel => exact ⟨_, (true), (by first | rfl | (simp; done) | (simp [*]; done)), H', ⟨by have := HJ1.out; have := HJ4.out; have := HK3.out; have := HJ6.out; first | omega | exact Nat.le_refl _⟩, by repeat (first | exact Drawn0.refl _ | apply Drawn0.step)⟩
                            · rw [if_neg c22] at H
                              exact absurd H (by simp)
                          case rest =>
                            clear HC21
                            try clear c1
                            try clear p1
                            try clear q1
                            try clear hx1
                            try clear c2
                            try clear p2
                            try clear q2
                            try clear hx2
                            try clear c3
                            try clear c3b0
                            try clear c3b1
                            try clear c4
                            try clear p4
                            try clear q4
                            try clear hx4
                            try clear qi4
                            try clear c6
                            try clear p6
                            try clear c8
                            try clear c8b0
                            try clear c9
                            try clear c9b0
                            try clear p10
                            try clear q10
                            try clear hx10
                            try clear c11
                            try clear c11b0
                            try clear p12
                            try clear q12
                            try clear hx12
                            try clear c13
                            try clear c14
                            try clear c15
                            try clear c15b0
                            try clear c16
                            try clear c16b0
                            try clear p17
                            try clear q17
                            try clear hx17
                            try clear c18
                            try clear c18b0
                            try clear c18b1
                            try clear c20
                            try clear c20b0
                            try clear c22
                            try clear c22b0
                            try clear p23
                            try clear q23
                            try clear hx23
                            try clear c24
                            try clear c24b0
                            try clear c24b1
                            try clear p1
                            try clear p10
                            try clear p12
                            try clear p17
                            try clear p2
                            try clear p23
                            try clear p4
                            try clear p6
                            try clear q1
                            try clear q10
                            try clear q12
                            try clear q17
                            try clear q23
                            try clear q4
                            obtain ⟨kq, x77_20, rfl, HA, HJ20, ⟨mc20, rfl⟩⟩ := hcut
                            cases kq with
                            | zero => exact absurd HA.out (by simp [stevedoreref4_Parse.j4])
                            | succ kj20 =>
                              have H := HA.out
                              clear HA
                              simp only [stevedoreref4_Parse.j4] at H
                              by_cases c25 : x77_20 = true
                              · subst c25
                                have H1 : (some (0, 2)) = some (r1, r2) := by rw [if_pos rfl] at H; exact H
                                clear H
                                have H := H1
                                clear H1
                                simp only [Option.some.injEq, Prod.mk.injEq] at H
                                obtain ⟨rfl, rfl⟩ := H
                                go_wp2
                                go_ret2
                                exact ⟨by first | rfl | (simp only [show ∀ l : List UInt8, (l != []) = (!l.isEmpty) from fun l => by cases l <;> rfl]; rfl) | (simp; done) | (simp [*]; done), by repeat (first | exact Drawn0.refl _ | apply Drawn0.step)⟩
                              · replace c25 := Bool.eq_false_iff.mpr c25
                                subst c25
                                have H1 : (stevedoreref4_Parse.l1 kj20 a0 (wrap64 (x4_3 + 1)) x5_4 x6_3 x8_3 0 0 false) = some (r1, r2) := by rw [if_neg (show ¬ (false = true) by decide)] at H; exact H
                                clear H
                                have H := H1
                                clear H1
                                have H' := Aside0.mk H
                                clear H
                                go_wp2
                                go_loopg [4, 9, 10, 11] kj20 (fun kq v4 v9 v10 v11 w' => ∃ (x4_6 : Int) (x9_6 : Int) (x10_6 : Int) (x11_6 : Bool), v4 = .int .i64 x4_6 ∧ v9 = .int .i64 x9_6 ∧ v10 = .int .i64 x10_6 ∧ v11 = .bool x11_6 ∧ Aside0 (stevedoreref4_Parse.l1 kq a0 x4_6 x5_4 x6_3 x8_3 x9_6 x10_6 x11_6 = some (r1, r2)) ∧ Aside0 (kq ≤ kj20) ∧ Drawn0 w w')
                                case atStart => exact ⟨(wrap64 (x4_3 + 1)), (0), (0), (false), (by first | rfl | (simp; done) | (simp [*]; done)), (by first | rfl | (simp; done) | (simp [*]; done)), (by first | rfl | (simp; done) | (simp [*]; done)), (by first | rfl | (simp; done) | (simp [*]; done)), H', ⟨Nat.le_refl _⟩, by repeat (first | exact Drawn0.refl _ | apply Drawn0.step)⟩
                                case round =>
                                  clear H'
                                  try clear c1
                                  try clear p1
                                  try clear q1
                                  try clear hx1
                                  try clear c2
                                  try clear p2
                                  try clear q2
                                  try clear hx2
                                  try clear c3
                                  try clear c3b0
                                  try clear c3b1
                                  try clear c4
                                  try clear p4
                                  try clear q4
                                  try clear hx4
                                  try clear qi4
                                  try clear c6
                                  try clear p6
                                  try clear c8
                                  try clear c8b0
                                  try clear c9
                                  try clear c9b0
                                  try clear p10
                                  try clear q10
                                  try clear hx10
                                  try clear c11
                                  try clear c11b0
                                  try clear p12
                                  try clear q12
                                  try clear hx12
                                  try clear c13
                                  try clear c14
                                  try clear c15
                                  try clear c15b0
                                  try clear c16
                                  try clear c16b0
                                  try clear p17
                                  try clear q17
                                  try clear hx17
                                  try clear c18
                                  try clear c18b0
                                  try clear c18b1
                                  try clear c20
                                  try clear c20b0
                                  try clear c22
                                  try clear c22b0
                                  try clear p23
                                  try clear q23
                                  try clear hx23
                                  try clear c24
                                  try clear c24b0
                                  try clear c24b1
                                  try clear c25
                                  try clear p1
                                  try clear p10
                                  try clear p12
                                  try clear p17
                                  try clear p2
                                  try clear p23
                                  try clear p4
                                  try clear p6
                                  try clear q1
                                  try clear q10
                                  try clear q12
                                  try clear q17
                                  try clear q2
                                  try clear q23
                                  try clear q4
                                  obtain ⟨x4_6, x9_6, x10_6, x11_6, rfl, rfl, rfl, rfl, HA, HK6, ⟨m6, rfl⟩⟩ := hrel
                                  cases gk with
                                  | zero => exact absurd HA.out (by simp [stevedoreref4_Parse.l1])
                                  | succ k6 =>
                                    have H := HA.out
                                    clear HA
                                    simp only [stevedoreref4_Parse.l1] at H
                                    by_cases c26 : x4_6 < (a0.size : Int)
                                    · rw [if_pos c26] at H
                                      have c26b0 : decide (x4_6 < (a0.size : Int)) = true := decide_eq_true c26
                                      clear c26
                                      have HC27 := Aside0.mk H
                                      clear H
                                      go_upto_region 23 with (fail)
                                      go_cut [95] (fun v95 wc => ∃ (kq : Nat) (x95_26 : Bool), v95 = .bool x95_26 ∧ Aside0 (stevedoreref4_Parse.j6 kq a0 x4_6 x5_4 x6_3 x8_3 x9_6 x10_6 x11_6 x95_26 = some (r1, r2)) ∧ Aside0 (kq ≤ k6) ∧ Drawn0 w wc)
                                      case first =>
                                        have H := HC27.out
                                        clear HC27
                                        by_cases c28 : 0 ≤ x4_6
                                        · rw [if_pos c28] at H
                                          have c28b0 : decide (0 ≤ x4_6) = true := decide_eq_true c28
                                          clear c28
                                          (first | rw [c28b0] | (simp only [i64_w, i32_w]; rw [c28b0]) | rw [c28b1] | skip)
                                          by_cases c30 : (bt a0 x4_6) < 48
                                          · rw [if_pos c30] at H
                                            have c30b0 : decide ((bt a0 x4_6) < 48) = true := decide_eq_true c30
                                            clear c30
                                            have H' := Aside0.mk H
                                            clear H
                                            have p29 : 0 ≤ (x4_6 : Int) := of_decide_eq_true (by first | (with_reducible assumption) | assumption)
                                            have q29 : x4_6 < (a0.size : Int) := of_decide_eq_true (by first | (with_reducible assumption) | assumption)
                                            have hx29 := bt_at a0 x4_6
                                            replace p29 := eq_true p29
                                            replace q29 := eq_true q29
                                            go_wp2
                                            go_meet
                                            case rel => exact ⟨_, (true), (by first | rfl | (simp; done) | (simp [*]; done)), H', ⟨by have := HJ1.out; have := HJ4.out; have := HK3.out; have := HJ6.out; have := HJ20.out; have := HK6.out; first | omega | exact Nat.le_refl _⟩, by repeat (first | exact Drawn0.refl _ | apply Drawn0.step)⟩
                                          · rw [if_neg c30] at H
                                            have c30b0 : decide ((bt a0 x4_6) < 48) = false := decide_eq_false c30
                                            clear c30
                                            have H' := Aside0.mk H
                                            clear H
                                            have p29 : 0 ≤ (x4_6 : Int) := of_decide_eq_true (by first | (with_reducible assumption) | assumption)
                                            have q29 : x4_6 < (a0.size : Int) := of_decide_eq_true (by first | (with_reducible assumption) | assumption)
                                            have hx29 := bt_at a0 x4_6
                                            replace p29 := eq_true p29
                                            replace q29 := eq_true q29
                                            have p31 : 0 ≤ (x4_6 : Int) := of_decide_eq_true (by first | (with_reducible assumption) | assumption)
                                            have q31 : x4_6 < (a0.size : Int) := of_decide_eq_true (by first | (with_reducible assumption) | assumption)
                                            have hx31 := bt_at a0 x4_6
                                            replace p31 := eq_true p31
                                            replace q31 := eq_true q31
                                            go_wp2
                                            go_meet
                                            case rel => exact ⟨_, (decide ((bt a0 x4_6) > 57)), (by first | rfl | (simp; done) | (simp [*]; done)), H', ⟨by have := HJ1.out; have := HJ4.out; have := HK3.out; have := HJ6.out; have := HJ20.out; have := HK6.out; first | omega | exact Nat.le_refl _⟩, by repeat (first | exact Drawn0.refl _ | apply Drawn0.step)⟩
                                        · rw [if_neg c28] at H
                                          exact absurd H (by simp)
                                      case rest =>
                                        clear HC27
                                        try clear c1
                                        try clear p1
                                        try clear q1
                                        try clear hx1
                                        try clear c2
                                        try clear p2
                                        try clear q2
                                        try clear hx2
                                        try clear c3
                                        try clear c3b0
                                        try clear c3b1
                                        try clear p3
                                        try clear q3
                                        try clear hx3
                                        try clear c4
                                        try clear p4
                                        try clear q4
                                        try clear hx4
                                        try clear qi4
                                        try clear c6
                                        try clear p6
                                        try clear c8
                                        try clear c8b0
                                        try clear c9
                                        try clear c9b0
                                        try clear p10
                                        try clear q10
                                        try clear hx10
                                        try clear c11
                                        try clear c11b0
                                        try clear p12
                                        try clear q12
                                        try clear hx12
                                        try clear c13
                                        try clear c14
                                        try clear c15
                                        try clear c15b0
                                        try clear c16
                                        try clear c16b0
                                        try clear p17
                                        try clear q17
                                        try clear hx17
                                        try clear c18
                                        try clear c18b0
                                        try clear c18b1
                                        try clear c20
                                        try clear c20b0
                                        try clear c22
                                        try clear c22b0
                                        try clear p23
                                        try clear q23
                                        try clear hx23
                                        try clear c24
                                        try clear c24b0
                                        try clear c24b1
                                        try clear c25
                                        try clear c26
                                        try clear c26b0
                                        try clear c28
                                        try clear c28b0
                                        try clear p29
                                        try clear q29
                                        try clear hx29
                                        try clear c30
                                        try clear c30b0
                                        try clear p31
                                        try clear q31
                                        try clear hx31
                                        try clear p1
                                        try clear p10
                                        try clear p12
                                        try clear p17
                                        try clear p2
                                        try clear p23
                                        try clear p29
                                        try clear p31
                                        try clear p4
                                        try clear p6
                                        try clear q1
                                        try clear q10
                                        try clear q12
                                        try clear q17
                                        try clear q2
                                        try clear q23
                                        try clear q29
                                        try clear q31
                                        try clear q4
                                        obtain ⟨kq, x95_26, rfl, HA, HJ26, ⟨mc26, rfl⟩⟩ := hcut
                                        cases kq with
                                        | zero => exact absurd HA.out (by simp [stevedoreref4_Parse.j6])
                                        | succ kj26 =>
                                          have H := HA.out
                                          clear HA
                                          simp only [stevedoreref4_Parse.j6] at H
                                          by_cases c32 : x95_26 = true
                                          · subst c32
                                            have H1 : (some (0, 2)) = some (r1, r2) := by rw [if_pos rfl] at H; exact H
                                            clear H
                                            have H := H1
                                            clear H1
                                            simp only [Option.some.injEq, Prod.mk.injEq] at H
                                            obtain ⟨rfl, rfl⟩ := H
                                            go_wp2
                                            go_ret2
                                            exact ⟨by first | rfl | (simp only [show ∀ l : List UInt8, (l != []) = (!l.isEmpty) from fun l => by cases l <;> rfl]; rfl) | (simp; done) | (simp [*]; done), by repeat (first | exact Drawn0.refl _ | apply Drawn0.step)⟩
                                          · replace c32 := Bool.eq_false_iff.mpr c32
                                            subst c32
                                            have H1 : (if x10_6 < 9 then (if 0 ≤ x4_6 then (if x4_6 < (a0.size : Int) then (stevedoreref4_Parse.l1 kj26 a0 (wrap64 (x4_6 + 1)) x5_4 x6_3 x8_3 (wrap64 ((wrap64 (x9_6 * 10)) + (((bt a0 x4_6) - 48) % 256))) (wrap64 (x10_6 + 1)) x11_6) else (none)) else (none)) else (if x11_6 = true then (stevedoreref4_Parse.l1 kj26 a0 (wrap64 (x4_6 + 1)) x5_4 x6_3 x8_3 x9_6 x10_6 true) else (if 0 ≤ x4_6 then (if x4_6 < (a0.size : Int) then (stevedoreref4_Parse.l1 kj26 a0 (wrap64 (x4_6 + 1)) x5_4 x6_3 x8_3 x9_6 x10_6 ((bt a0 x4_6) != 48)) else (none)) else (none)))) = some (r1, r2) := by rw [if_neg (show ¬ (false = true) by decide)] at H; exact H
                                            clear H
                                            have H := H1
                                            clear H1
                                            by_cases c33 : x10_6 < 9
                                            · rw [if_pos c33] at H
                                              have c33b0 : decide (x10_6 < 9) = true := decide_eq_true c33
                                              clear c33
                                              by_cases c34 : 0 ≤ x4_6
                                              · rw [if_pos c34] at H
                                                have c34b0 : decide (0 ≤ x4_6) = true := decide_eq_true c34
                                                clear c34
                                                by_cases c35 : x4_6 < (a0.size : Int)
                                                · rw [if_pos c35] at H
                                                  have c35b0 : decide (x4_6 < (a0.size : Int)) = true := decide_eq_true c35
                                                  clear c35
                                                  have H' := Aside0.mk H
                                                  clear H
                                                  have p36 : 0 ≤ (x4_6 : Int) := of_decide_eq_true (by first | (with_reducible assumption) | assumption)
                                                  have q36 : x4_6 < (a0.size : Int) := of_decide_eq_true (by first | (with_reducible assumption) | assumption)
                                                  have hx36 := bt_at a0 x4_6
                                                  replace p36 := eq_true p36
                                                  replace q36 := eq_true q36
                                                  go_wp2
                                                  go_roundg kj26
                                                  case measure => have := HJ1.out; have := HJ4.out; have := HK3.out; have := HJ6.out; have := HJ20.out; have := HK6.out; have := HJ26.out; omega
                                                  case rel => exact ⟨(wrap64 (x4_6 + 1)), (wrap64 ((wrap64 (x9_6 * 10)) + (((bt a0 x4_6) - 48) % 256))), (wrap64 (x10_6 + 1)), (x11_6), (by first | rfl | (simp; done) | (simp [*]; done)), (by first | rfl | (simp; done) | (simp [*]; done)), (by first | rfl | (simp; done) | (simp [*]; done)), (by first | rfl | (simp; done) | (simp [*]; done)), H', ⟨by have := HJ1.out; have := HJ4.out; have := HK3.out; have := HJ6.out; have := HJ20.out; have := HK6.out; have := HJ26.out; omega⟩, by repeat (first | exact Drawn0.refl _ | apply Drawn0.step)⟩
                                                · rw [if_neg c35] at H
                                                  exact absurd H (by simp)
                                              · rw [if_neg c34] at H
                                                exact absurd H (by simp)
                                            · rw [if_neg c33] at H
                                              have c33b0 : decide (x10_6 < 9) = false := decide_eq_false c33
                                              clear c33
                                              by_cases c37 : x11_6 = true
                                              · subst c37
                                                have H1 : (stevedoreref4_Parse.l1 kj26 a0 (wrap64 (x4_6 + 1)) x5_4 x6_3 x8_3 x9_6 x10_6 true) = some (r1, r2) := by rw [if_pos rfl] at H; exact H
                                                clear H
                                                have H := H1
                                                clear H1
                                                have H' := Aside0.mk H
                                                clear H
                                                go_wp2
                                                go_roundg kj26
                                                case measure => have := HJ1.out; have := HJ4.out; have := HK3.out; have := HJ6.out; have := HJ20.out; have := HK6.out; have := HJ26.out; omega
                                                case rel => exact ⟨(wrap64 (x4_6 + 1)), (x9_6), (x10_6), (true), (by first | rfl | (simp; done) | (simp [*]; done)), (by first | rfl | (simp; done) | (simp [*]; done)), (by first | rfl | (simp; done) | (simp [*]; done)), (by first | rfl | (simp; done) | (simp [*]; done)), H', ⟨by have := HJ1.out; have := HJ4.out; have := HK3.out; have := HJ6.out; have := HJ20.out; have := HK6.out; have := HJ26.out; omega⟩, by repeat (first | exact Drawn0.refl _ | apply Drawn0.step)⟩
                                              · replace c37 := Bool.eq_false_iff.mpr c37
                                                subst c37
                                                have H1 : (if 0 ≤ x4_6 then (if x4_6 < (a0.size : Int) then (stevedoreref4_Parse.l1 kj26 a0 (wrap64 (x4_6 + 1)) x5_4 x6_3 x8_3 x9_6 x10_6 ((bt a0 x4_6) != 48)) else (none)) else (none)) = some (r1, r2) := by rw [if_neg (show ¬ (false = true) by decide)] at H; exact H
                                                clear H
                                                have H := H1
                                                clear H1
                                                by_cases c38 : 0 ≤ x4_6
                                                · rw [if_pos c38] at H
                                                  have c38b0 : decide (0 ≤ x4_6) = true := decide_eq_true c38
                                                  clear c38
                                                  by_cases c39 : x4_6 < (a0.size : Int)
                                                  · rw [if_pos c39] at H
                                                    have c39b0 : decide (x4_6 < (a0.size : Int)) = true := decide_eq_true c39
                                                    clear c39
                                                    have H' := Aside0.mk H
                                                    clear H
                                                    have p40 : 0 ≤ (x4_6 : Int) := of_decide_eq_true (by first | (with_reducible assumption) | assumption)
                                                    have q40 : x4_6 < (a0.size : Int) := of_decide_eq_true (by first | (with_reducible assumption) | assumption)
                                                    have hx40 := bt_at a0 x4_6
                                                    replace p40 := eq_true p40
                                                    replace q40 := eq_true q40
                                                    go_wp2
                                                    go_roundg kj26
                                                    case measure => have := HJ1.out; have := HJ4.out; have := HK3.out; have := HJ6.out; have := HJ20.out; have := HK6.out; have := HJ26.out; omega
                                                    case rel => exact ⟨(wrap64 (x4_6 + 1)), (x9_6), (x10_6), (((bt a0 x4_6) != 48)), (by first | rfl | (simp; done) | (simp [*]; done)), (by first | rfl | (simp; done) | (simp [*]; done)), (by first | rfl | (simp; done) | (simp [*]; done)), (by first | rfl | (simp; done) | (simp [*]; done)), H', ⟨by have := HJ1.out; have := HJ4.out; have := HK3.out; have := HJ6.out; have := HJ20.out; have := HK6.out; have := HJ26.out; omega⟩, by repeat (first | exact Drawn0.refl _ | apply Drawn0.step)⟩
                                                  · rw [if_neg c39] at H
                                                    exact absurd H (by simp)
                                                · rw [if_neg c38] at H
                                                  exact absurd H (by simp)
                                    · rw [if_neg c26] at H
                                      have c26b0 : decide (x4_6 < (a0.size : Int)) = false := decide_eq_false c26
                                      clear c26
                                      have H' := Aside0.mk H
                                      clear H
                                      go_wp2
                                      go_meet
                                      case rel => exact ⟨_, (x9_6), (x10_6), (x11_6), (by first | rfl | (simp; done) | (simp [*]; done)), (by first | rfl | (simp; done) | (simp [*]; done)), (by first | rfl | (simp; done) | (simp [*]; done)), H', ⟨by have := HJ1.out; have := HJ4.out; have := HK3.out; have := HJ6.out; have := HJ20.out; have := HK6.out; first | omega | exact Nat.le_refl _⟩, by repeat (first | exact Drawn0.refl _ | apply Drawn0.step)⟩
                        · rw [if_neg c20] at H
                          have c20b0 : decide (x4_3 < (a0.size : Int)) = false := decide_eq_false c20
                          clear c20
                          (first | rw [c20b0] | (simp only [i64_w, i32_w]; rw [c20b0]) | rw [c20b1] | skip)
                          have H' := Aside0.mk H
                          clear H
                          go_wp2
                          go_meet
                          case rel => exact ⟨_, (0), (0), (false), (by first | rfl | (simp; done) | (simp [*]; done)), (by first | rfl | (simp; done) | (simp [*]; done)), (by first | rfl | (simp; done) | (simp [*]; done)), H', ⟨by have := HJ1.out; have := HJ4.out; have := HK3.out; have := HJ6.out; first | omega | exact Nat.le_refl _⟩, by repeat (first | exact Drawn0.refl _ | apply Drawn0.step)⟩
                      case rest =>
                        clear HC19
                        try clear c1
                        try clear p1
                        try clear q1
                        try clear hx1
                        try clear c2
                        try clear p2
                        try clear q2
                        try clear hx2
                        try clear c3
                        try clear c3b0
                        try clear c3b1
                        try clear p3
                        try clear q3
                        try clear hx3
                        try clear c4
                        try clear p4
                        try clear q4
                        try clear hx4
                        try clear qi4
                        try clear c6
                        try clear p6
                        try clear c8
                        try clear c8b0
                        try clear c9
                        try clear c9b0
                        try clear p10
                        try clear q10
                        try clear hx10
                        try clear c11
                        try clear c11b0
                        try clear p12
                        try clear q12
                        try clear hx12
                        try clear c13
                        try clear c14
                        try clear c15
                        try clear c15b0
                        try clear c16
                        try clear c16b0
                        try clear p17
                        try clear q17
                        try clear hx17
                        try clear c18
                        try clear c18b0
                        try clear c18b1
                        try clear c20
                        try clear c20b0
                        try clear c22
                        try clear c22b0
                        try clear p23
                        try clear q23
                        try clear hx23
                        try clear c24
                        try clear c24b0
                        try clear c24b1
                        try clear c25
                        try clear c26
                        try clear c26b0
                        try clear c28
                        try clear c28b0
                        try clear p29
                        try clear q29
                        try clear hx29
                        try clear c30
                        try clear c30b0
                        try clear p31
                        try clear q31
                        try clear hx31
                        try clear c32
                        try clear c33
                        try clear c33b0
                        try clear c34
                        try clear c34b0
                        try clear c35
                        try clear c35b0
                        try clear p36
                        try clear q36
                        try clear hx36
                        try clear c37
                        try clear c38
                        try clear c38b0
                        try clear c39
                        try clear c39b0
                        try clear p40
                        try clear q40
                        try clear hx40
                        try clear p1
                        try clear p10
                        try clear p12
                        try clear p17
                        try clear p2
                        try clear p23
                        try clear p29
                        try clear p3
                        try clear p31
                        try clear p36
                        try clear p4
                        try clear p40
                        try clear p6
                        try clear q1
                        try clear q10
                        try clear q12
                        try clear q17
                        try clear q2
                        try clear q23
                        try clear q29
                        try clear q3
                        try clear q31
                        try clear q36
                        try clear q4
                        try clear q40
                        obtain ⟨kq, x9_18, x10_18, x11_18, rfl, rfl, rfl, HA, HJ18, ⟨mc18, rfl⟩⟩ := hcut
                        cases kq with
                        | zero => exact absurd HA.out (by simp [stevedoreref4_Parse.j7])
                        | succ kj18 =>
                          have H := HA.out
                          clear HA
                          simp only [stevedoreref4_Parse.j7] at H
                          have H' := Aside0.mk H
                          clear H
                          go_wp2
                          go_loopg [9, 10] kj18 (fun kq v9 v10 w' => ∃ (x9_6 : Int) (x10_6 : Int), v9 = .int .i64 x9_6 ∧ v10 = .int .i64 x10_6 ∧ Aside0 (stevedoreref4_Parse.l2 kq x5_4 x6_3 x8_3 x9_6 x10_6 x11_18 = some (r1, r2)) ∧ Aside0 (kq ≤ kj18) ∧ Drawn0 w w')
                          case atStart => exact ⟨(x9_18), (x10_18), (by first | rfl | (simp; done) | (simp [*]; done)), (by first | rfl | (simp; done) | (simp [*]; done)), H', ⟨Nat.le_refl _⟩, by repeat (first | exact Drawn0.refl _ | apply Drawn0.step)⟩
                          case round =>
                            clear H'
                            try clear c1
                            try clear p1
                            try clear q1
                            try clear hx1
                            try clear c2
                            try clear p2
                            try clear q2
                            try clear hx2
                            try clear c3
                            try clear c3b0
                            try clear c3b1
                            try clear p3
                            try clear q3
                            try clear hx3
                            try clear c4
                            try clear p4
                            try clear q4
                            try clear hx4
                            try clear qi4
                            try clear c6
                            try clear p6
                            try clear c8
                            try clear c8b0
                            try clear c9
                            try clear c9b0
                            try clear p10
                            try clear q10
                            try clear hx10
                            try clear c11
                            try clear c11b0
                            try clear p12
                            try clear q12
                            try clear hx12
                            try clear c13
                            try clear c14
                            try clear c15
                            try clear c15b0
                            try clear c16
                            try clear c16b0
                            try clear p17
                            try clear q17
                            try clear hx17
                            try clear c18
                            try clear c18b0
                            try clear c18b1
                            try clear c20
                            try clear c20b0
                            try clear c22
                            try clear c22b0
                            try clear p23
                            try clear q23
                            try clear hx23
                            try clear c24
                            try clear c24b0
                            try clear c24b1
                            try clear c25
                            try clear c26
                            try clear c26b0
                            try clear c28
                            try clear c28b0
                            try clear p29
                            try clear q29
                            try clear hx29
                            try clear c30
                            try clear c30b0
                            try clear p31
                            try clear q31
                            try clear hx31
                            try clear c32
                            try clear c33
                            try clear c33b0
                            try clear c34
                            try clear c34b0
                            try clear c35
                            try clear c35b0
                            try clear p36
                            try clear q36
                            try clear hx36
                            try clear c37
                            try clear c38
                            try clear c38b0
                            try clear c39
                            try clear c39b0
                            try clear p40
                            try clear q40
                            try clear hx40
                            try clear p1
                            try clear p10
                            try clear p12
                            try clear p17
                            try clear p2
                            try clear p23
                            try clear p29
                            try clear p3
                            try clear p31
                            try clear p36
                            try clear p4
                            try clear p40
                            try clear p6
                            try clear q1
                            try clear q10
                            try clear q12
                            try clear q17
                            try clear q2
                            try clear q23
                            try clear q29
                            try clear q3
                            try clear q31
                            try clear q36
                            try clear q4
                            try clear q40
                            obtain ⟨x9_6, x10_6, rfl, rfl, HA, HK6, ⟨m6, rfl⟩⟩ := hrel
                            cases gk with
                            | zero => exact absurd HA.out (by simp [stevedoreref4_Parse.l2])
                            | succ k6 =>
                              have H := HA.out
                              clear HA
                              simp only [stevedoreref4_Parse.l2] at H
                              by_cases c41 : x10_6 < 9
                              · rw [if_pos c41] at H
                                have c41b0 : decide (x10_6 < 9) = true := decide_eq_true c41
                                clear c41
                                have H' := Aside0.mk H
                                clear H
                                go_wp2
                                go_roundg k6
                                case measure => have := HJ1.out; have := HJ4.out; have := HK3.out; have := HJ6.out; have := HJ18.out; have := HK6.out; omega
                                case rel => exact ⟨(wrap64 (x9_6 * 10)), (wrap64 (x10_6 + 1)), (by first | rfl | (simp; done) | (simp [*]; done)), (by first | rfl | (simp; done) | (simp [*]; done)), H', ⟨by have := HJ1.out; have := HJ4.out; have := HK3.out; have := HJ6.out; have := HJ18.out; have := HK6.out; omega⟩, by repeat (first | exact Drawn0.refl _ | apply Drawn0.step)⟩
                              · rw [if_neg c41] at H
                                have c41b0 : decide (x10_6 < 9) = false := decide_eq_false c41
                                clear c41
                                have HC42 := Aside0.mk H
                                clear H
                                go_upto_region 32 with (fail)
                                go_cut [132] (fun v132 wc => ∃ (kq : Nat) (x132_41 : Bool), v132 = .bool x132_41 ∧ Aside0 (stevedoreref4_Parse.j9 kq x5_4 x6_3 x9_6 x11_18 x132_41 = some (r1, r2)) ∧ Aside0 (kq ≤ k6) ∧ Drawn0 w wc)
                                case first =>
                                  have H := HC42.out
                                  clear HC42
                                  by_cases c43 : x8_3 = true
                                  · subst c43
                                    have H1 : (stevedoreref4_Parse.j9 k6 x5_4 x6_3 x9_6 x11_18 true) = some (r1, r2) := by rw [if_pos rfl] at H; exact H
                                    clear H
                                    have H := H1
                                    clear H1
                                    have H' := Aside0.mk H
                                    clear H
                                    go_wp2
                                    go_meet
                                    case rel => exact ⟨_, (true), (by first | rfl | (simp; done) | (simp [*]; done)), H', ⟨by have := HJ1.out; have := HJ4.out; have := HK3.out; have := HJ6.out; have := HJ18.out; have := HK6.out; first | omega | exact Nat.le_refl _⟩, by repeat (first | exact Drawn0.refl _ | apply Drawn0.step)⟩
                                  · replace c43 := Bool.eq_false_iff.mpr c43
                                    subst c43
                                    have H1 : (if x6_3 = 8589934592 then (if x9_6 > 0 then (stevedoreref4_Parse.j9 k6 x5_4 x6_3 x9_6 x11_18 true) else (stevedoreref4_Parse.j9 k6 x5_4 x6_3 x9_6 x11_18 x11_18)) else (stevedoreref4_Parse.j9 k6 x5_4 x6_3 x9_6 x11_18 false)) = some (r1, r2) := by rw [if_neg (show ¬ (false = true) by decide)] at H; exact H
                                    clear H
                                    have H := H1
                                    clear H1
                                    by_cases c44 : x6_3 = 8589934592
                                    · rw [if_pos c44] at H
                                      have c44b0 : (x6_3 == 8589934592) = true := beq_iff_eq.mpr c44
                                      have c44b1 : (x6_3 != 8589934592) = false := bne_eq_false_iff_eq.mpr c44
                                      clear c44
                                      (first | rw [c44b0] | (simp only [i64_w, i32_w]; rw [c44b0]) | rw [c44b1] | skip)
                                      by_cases c45 : x9_6 > 0
                                      · rw [if_pos c45] at H
                                        have c45b0 : decide (0 < x9_6) = true := decide_eq_true c45
                                        clear c45
                                        have H' := Aside0.mk H
                                        clear H
                                        go_wp2
                                        go_meet
                                        case rel => exact ⟨_, (true), (by first | rfl | (simp; done) | (simp [*]; done)), H', ⟨by have := HJ1.out; have := HJ4.out; have := HK3.out; have := HJ6.out; have := HJ18.out; have := HK6.out; first | omega | exact Nat.le_refl _⟩, by repeat (first | exact Drawn0.refl _ | apply Drawn0.step)⟩
                                      · rw [if_neg c45] at H
                                        have c45b0 : decide (0 < x9_6) = false := decide_eq_false c45
                                        clear c45
                                        have H' := Aside0.mk H
                                        clear H
                                        go_wp2
                                        go_meet
                                        case rel => exact ⟨_, (x11_18), (by first | rfl | (simp; done) | (simp [*]; done)), H', ⟨by have := HJ1.out; have := HJ4.out; have := HK3.out; have := HJ6.out; have := HJ18.out; have := HK6.out; first | omega | exact Nat.le_refl _⟩, by repeat (first | exact Drawn0.refl _ | apply Drawn0.step)⟩
                                    · rw [if_neg c44] at H
                                      have c44b0 : (x6_3 == 8589934592) = false := beq_eq_false_iff_ne.mpr c44
                                      have c44b1 : (x6_3 != 8589934592) = true := bne_iff_ne.mpr c44
                                      (first | rw [c44b0] | (simp only [i64_w, i32_w]; rw [c44b0]) | rw [c44b1] | skip)
                                      have H' := Aside0.mk H
                                      clear H
                                      go_wp2
                                      go_meet
                                      case rel => exact ⟨_, (false), (by first | rfl | (simp; done) | (simp [*]; done)), H', ⟨by have := HJ1.out; have := HJ4.out; have := HK3.out; have := HJ6.out; have := HJ18.out; have := HK6.out; first | omega | exact Nat.le_refl _⟩, by repeat (first | exact Drawn0.refl _ | apply Drawn0.step)⟩
                                case rest =>
                                  clear HC42
                                  try clear c1
                                  try clear p1
                                  try clear q1
                                  try clear hx1
                                  try clear c2
                                  try clear p2
                                  try clear q2
                                  try clear hx2
                                  try clear c3
                                  try clear c3b0
                                  try clear c3b1
                                  try clear p3
                                  try clear q3
                                  try clear hx3
                                  try clear c4
                                  try clear p4
                                  try clear q4
                                  try clear hx4
                                  try clear qi4
                                  try clear c6
                                  try clear p6
                                  try clear c8
                                  try clear c8b0
                                  try clear c9
                                  try clear c9b0
                                  try clear p10
                                  try clear q10
                                  try clear hx10
                                  try clear c11
                                  try clear c11b0
                                  try clear p12
                                  try clear q12
                                  try clear hx12
                                  try clear c13
                                  try clear c14
                                  try clear c15
                                  try clear c15b0
                                  try clear c16
                                  try clear c16b0
                                  try clear p17
                                  try clear q17
                                  try clear hx17
                                  try clear c18
                                  try clear c18b0
                                  try clear c18b1
                                  try clear c20
                                  try clear c20b0
                                  try clear c22
                                  try clear c22b0
                                  try clear p23
                                  try clear q23
                                  try clear hx23
                                  try clear c24
                                  try clear c24b0
                                  try clear c24b1
                                  try clear c25
                                  try clear c26
                                  try clear c26b0
                                  try clear c28
                                  try clear c28b0
                                  try clear p29
                                  try clear q29
                                  try clear hx29
                                  try clear c30
                                  try clear c30b0
                                  try clear p31
                                  try clear q31
                                  try clear hx31
                                  try clear c32
                                  try clear c33
                                  try clear c33b0
                                  try clear c34
                                  try clear c34b0
                                  try clear c35
                                  try clear c35b0
                                  try clear p36
                                  try clear q36
                                  try clear hx36
                                  try clear c37
                                  try clear c38
                                  try clear c38b0
                                  try clear c39
                                  try clear c39b0
                                  try clear p40
                                  try clear q40
                                  try clear hx40
                                  try clear c41
                                  try clear c41b0
                                  try clear c43
                                  try clear c44
                                  try clear c44b0
                                  try clear c44b1
                                  try clear c45
                                  try clear c45b0
                                  try clear p1
                                  try clear p10
                                  try clear p12
                                  try clear p17
                                  try clear p2
                                  try clear p23
                                  try clear p29
                                  try clear p3
                                  try clear p31
                                  try clear p36
                                  try clear p4
                                  try clear p40
                                  try clear p6
                                  try clear q1
                                  try clear q10
                                  try clear q12
                                  try clear q17
                                  try clear q2
                                  try clear q23
                                  try clear q29
                                  try clear q3
                                  try clear q31
                                  try clear q36
                                  try clear q4
                                  try clear q40
                                  obtain ⟨kq, x132_41, rfl, HA, HJ41, ⟨mc41, rfl⟩⟩ := hcut
                                  cases kq with
                                  | zero => exact absurd HA.out (by simp [stevedoreref4_Parse.j9])
                                  | succ kj41 =>
                                    have H := HA.out
                                    clear HA
                                    simp only [stevedoreref4_Parse.j9] at H
                                    by_cases c46 : x132_41 = true
                                    · subst c46
                                      have H1 : (some (0, 7)) = some (r1, r2) := by rw [if_pos rfl] at H; exact H
                                      clear H
                                      have H := H1
                                      clear H1
                                      simp only [Option.some.injEq, Prod.mk.injEq] at H
                                      obtain ⟨rfl, rfl⟩ := H
                                      go_wp2
                                      go_ret2
                                      exact ⟨by first | rfl | (simp only [show ∀ l : List UInt8, (l != []) = (!l.isEmpty) from fun l => by cases l <;> rfl]; rfl) | (simp; done) | (simp [*]; done), by repeat (first | exact Drawn0.refl _ | apply Drawn0.step)⟩
                                    · replace c46 := Bool.eq_false_iff.mpr c46
                                      subst c46
                                      have H1 : (if (Int.tmod (wrap64 (x9_6 * 512)) 1000000000) = 0 then (stevedoreref4_Parse.j10 kj41 x5_4 (wrap64 ((wrap64 (x6_3 * 512)) + (wrap64 (Int.tdiv (wrap64 (x9_6 * 512)) 1000000000)))) (!x11_18)) else (stevedoreref4_Parse.j10 kj41 x5_4 (wrap64 ((wrap64 (x6_3 * 512)) + (wrap64 (Int.tdiv (wrap64 (x9_6 * 512)) 1000000000)))) false)) = some (r1, r2) := by rw [if_neg (show ¬ (false = true) by decide)] at H; exact H
                                      clear H
                                      have H := H1
                                      clear H1
                                      have HC47 := Aside0.mk H
                                      clear H
                                      go_upto_region 35 with (fail)
                                      go_cut [13] (fun v13 wc => ∃ (kq : Nat) (x13_46 : Bool), v13 = .bool x13_46 ∧ Aside0 (stevedoreref4_Parse.j10 kq x5_4 (wrap64 ((wrap64 (x6_3 * 512)) + (wrap64 (Int.tdiv (wrap64 (x9_6 * 512)) 1000000000)))) x13_46 = some (r1, r2)) ∧ Aside0 (kq ≤ kj41) ∧ Drawn0 w wc)
                                      case first =>
                                        have H := HC47.out
                                        clear HC47
                                        by_cases c48 : (Int.tmod (wrap64 (x9_6 * 512)) 1000000000) = 0
                                        · rw [if_pos c48] at H
                                          have c48b0 : ((Int.tmod (wrap64 (x9_6 * 512)) 1000000000) == 0) = true := beq_iff_eq.mpr c48
                                          have c48b1 : ((Int.tmod (wrap64 (x9_6 * 512)) 1000000000) != 0) = false := bne_eq_false_iff_eq.mpr c48
                                          clear c48
                                          (first | rw [c48b0] | (simp only [i64_w, i32_w]; rw [c48b0]) | rw [c48b1] | skip)
                                          have H' := Aside0.mk H
                                          clear H
                                          go_wp2
                                          go_meet
                                          case rel => exact ⟨_, (!x11_18), (by first | rfl | (simp; done) | (simp [*]; done)), H', ⟨by have := HJ1.out; have := HJ4.out; have := HK3.out; have := HJ6.out; have := HJ18.out; have := HK6.out; have := HJ41.out; first | omega | exact Nat.le_refl _⟩, by repeat (first | exact Drawn0.refl _ | apply Drawn0.step)⟩
                                        · rw [if_neg c48] at H
                                          have c48b0 : ((Int.tmod (wrap64 (x9_6 * 512)) 1000000000) == 0) = false := beq_eq_false_iff_ne.mpr c48
                                          have c48b1 : ((Int.tmod (wrap64 (x9_6 * 512)) 1000000000) != 0) = true := bne_iff_ne.mpr c48
                                          (first | rw [c48b0] | (simp only [i64_w, i32_w]; rw [c48b0]) | rw [c48b1] | skip)
                                          have H' := Aside0.mk H
                                          clear H
                                          go_wp2
                                          go_meet
                                          case rel => exact ⟨_, (false), (by first | rfl | (simp; done) | (simp [*]; done)), H', ⟨by have := HJ1.out; have := HJ4.out; have := HK3.out; have := HJ6.out; have := HJ18.out; have := HK6.out; have := HJ41.out; first | omega | exact Nat.le_refl _⟩, by repeat (first | exact Drawn0.refl _ | apply Drawn0.step)⟩
                                      case rest =>
                                        clear HC47
                                        try clear c1
                                        try clear p1
                                        try clear q1
                                        try clear hx1
                                        try clear c2
                                        try clear p2
                                        try clear q2
                                        try clear hx2
                                        try clear c3
                                        try clear c3b0
                                        try clear c3b1
                                        try clear p3
                                        try clear q3
                                        try clear hx3
                                        try clear c4
                                        try clear p4
                                        try clear q4
                                        try clear hx4
                                        try clear qi4
                                        try clear c6
                                        try clear p6
                                        try clear c8
                                        try clear c8b0
                                        try clear c9
                                        try clear c9b0
                                        try clear p10
                                        try clear q10
                                        try clear hx10
                                        try clear c11
                                        try clear c11b0
                                        try clear p12
                                        try clear q12
                                        try clear hx12
                                        try clear c13
                                        try clear c14
                                        try clear c15
                                        try clear c15b0
                                        try clear c16
                                        try clear c16b0
                                        try clear p17
                                        try clear q17
                                        try clear hx17
                                        try clear c18
                                        try clear c18b0
                                        try clear c18b1
                                        try clear c20
                                        try clear c20b0
                                        try clear c22
                                        try clear c22b0
                                        try clear p23
                                        try clear q23
                                        try clear hx23
                                        try clear c24
                                        try clear c24b0
                                        try clear c24b1
                                        try clear c25
                                        try clear c26
                                        try clear c26b0
                                        try clear c28
                                        try clear c28b0
                                        try clear p29
                                        try clear q29
                                        try clear hx29
                                        try clear c30
                                        try clear c30b0
                                        try clear p31
                                        try clear q31
                                        try clear hx31
                                        try clear c32
                                        try clear c33
                                        try clear c33b0
                                        try clear c34
                                        try clear c34b0
                                        try clear c35
                                        try clear c35b0
                                        try clear p36
                                        try clear q36
                                        try clear hx36
                                        try clear c37
                                        try clear c38
                                        try clear c38b0
                                        try clear c39
                                        try clear c39b0
                                        try clear p40
                                        try clear q40
                                        try clear hx40
                                        try clear c41
                                        try clear c41b0
                                        try clear c43
                                        try clear c44
                                        try clear c44b0
                                        try clear c44b1
                                        try clear c45
                                        try clear c45b0
                                        try clear c46
                                        try clear c48
                                        try clear c48b0
                                        try clear c48b1
                                        try clear p1
                                        try clear p10
                                        try clear p12
                                        try clear p17
                                        try clear p2
                                        try clear p23
                                        try clear p29
                                        try clear p3
                                        try clear p31
                                        try clear p36
                                        try clear p4
                                        try clear p40
                                        try clear p6
                                        try clear q1
                                        try clear q10
                                        try clear q12
                                        try clear q17
                                        try clear q2
                                        try clear q23
                                        try clear q29
                                        try clear q3
                                        try clear q31
                                        try clear q36
                                        try clear q4
                                        try clear q40
                                        obtain ⟨kq, x13_46, rfl, HA, HJ46, ⟨mc46, rfl⟩⟩ := hcut
                                        cases kq with
                                        | zero => exact absurd HA.out (by simp [stevedoreref4_Parse.j10])
                                        | succ kj46 =>
                                          have H := HA.out
                                          clear HA
                                          simp only [stevedoreref4_Parse.j10] at H
                                          by_cases c49 : x5_4 = true
                                          · subst c49
                                            have H1 : (if x13_46 = true then (if (fvalid .quo (floatOfInt .f64 (wrap64 (-(wrap64 ((wrap64 (x6_3 * 512)) + (wrap64 (Int.tdiv (wrap64 (x9_6 * 512)) 1000000000))))))) 4647714815446351872) = true then (some (fop .quo (floatOfInt .f64 (wrap64 (-(wrap64 ((wrap64 (x6_3 * 512)) + (wrap64 (Int.tdiv (wrap64 (x9_6 * 512)) 1000000000))))))) 4647714815446351872, 0)) else (none)) else (if (fvalid .quo (floatOfInt .f64 (wrap64 ((wrap64 (-(wrap64 ((wrap64 (x6_3 * 512)) + (wrap64 (Int.tdiv (wrap64 (x9_6 * 512)) 1000000000)))))) - 1))) 4647714815446351872) = true then (some (fop .quo (floatOfInt .f64 (wrap64 ((wrap64 (-(wrap64 ((wrap64 (x6_3 * 512)) + (wrap64 (Int.tdiv (wrap64 (x9_6 * 512)) 1000000000)))))) - 1))) 4647714815446351872, 0)) else (none))) = some (r1, r2) := by rw [if_pos rfl] at H; exact H
                                            clear H
                                            have H := H1
                                            clear H1
                                            by_cases c50 : x13_46 = true
                                            · subst c50
                                              have H1 : (if (fvalid .quo (floatOfInt .f64 (wrap64 (-(wrap64 ((wrap64 (x6_3 * 512)) + (wrap64 (Int.tdiv (wrap64 (x9_6 * 512)) 1000000000))))))) 4647714815446351872) = true then (some (fop .quo (floatOfInt .f64 (wrap64 (-(wrap64 ((wrap64 (x6_3 * 512)) + (wrap64 (Int.tdiv (wrap64 (x9_6 * 512)) 1000000000))))))) 4647714815446351872, 0)) else (none)) = some (r1, r2) := by rw [if_pos rfl] at H; exact H
                                              clear H
                                              have H := H1
                                              clear H1
                                              by_cases c51 : (fvalid .quo (floatOfInt .f64 (wrap64 (-(wrap64 ((wrap64 (x6_3 * 512)) + (wrap64 (Int.tdiv (wrap64 (x9_6 * 512)) 1000000000))))))) 4647714815446351872) = true
                                              · rw [if_pos c51] at H
                                                have c51b0 := eq_true c51
                                                have c51b1 : decide ((fvalid .quo (floatOfInt .f64 (wrap64 (-(wrap64 ((wrap64 (x6_3 * 512)) + (wrap64 (Int.tdiv (wrap64 (x9_6 * 512)) 1000000000))))))) 4647714815446351872) = true) = true := decide_eq_true c51
                                                simp only [Option.some.injEq, Prod.mk.injEq] at H
                                                obtain ⟨rfl, rfl⟩ := H
                                                go_wp2
                                                go_ret2
                                                exact ⟨by first | rfl | (simp only [show ∀ l : List UInt8, (l != []) = (!l.isEmpty) from fun l => by cases l <;> rfl]; rfl) | (simp; done) | (simp [*]; done), by repeat (first | exact Drawn0.refl _ | apply Drawn0.step)⟩
                                              · rw [if_neg c51] at H
                                                exact absurd H (by simp)
                                            · replace c50 := Bool.eq_false_iff.mpr c50
                                              subst c50
                                              have H1 : (if (fvalid .quo (floatOfInt .f64 (wrap64 ((wrap64 (-(wrap64 ((wrap64 (x6_3 * 512)) + (wrap64 (Int.tdiv (wrap64 (x9_6 * 512)) 1000000000)))))) - 1))) 4647714815446351872) = true then (some (fop .quo (floatOfInt .f64 (wrap64 ((wrap64 (-(wrap64 ((wrap64 (x6_3 * 512)) + (wrap64 (Int.tdiv (wrap64 (x9_6 * 512)) 1000000000)))))) - 1))) 4647714815446351872, 0)) else (none)) = some (r1, r2) := by rw [if_neg (show ¬ (false = true) by decide)] at H; exact H
                                              clear H
                                              have H := H1
                                              clear H1
                                              by_cases c52 : (fvalid .quo (floatOfInt .f64 (wrap64 ((wrap64 (-(wrap64 ((wrap64 (x6_3 * 512)) + (wrap64 (Int.tdiv (wrap64 (x9_6 * 512)) 1000000000)))))) - 1))) 4647714815446351872) = true
                                              · rw [if_pos c52] at H
                                                have c52b0 := eq_true c52
                                                have c52b1 : decide ((fvalid .quo (floatOfInt .f64 (wrap64 ((wrap64 (-(wrap64 ((wrap64 (x6_3 * 512)) + (wrap64 (Int.tdiv (wrap64 (x9_6 * 512)) 1000000000)))))) - 1))) 4647714815446351872) = true) = true := decide_eq_true c52
                                                simp only [Option.some.injEq, Prod.mk.injEq] at H
                                                obtain ⟨rfl, rfl⟩ := H
                                                go_wp2
                                                go_ret2
                                                exact ⟨by first | rfl | (simp only [show ∀ l : List UInt8, (l != []) = (!l.isEmpty) from fun l => by cases l <;> rfl]; rfl) | (simp; done) | (simp [*]; done), by repeat (first | exact Drawn0.refl _ | apply Drawn0.step)⟩
                                              · rw [if_neg c52] at H
                                                exact absurd H (by simp)
                                          · replace c49 := Bool.eq_false_iff.mpr c49
                                            subst c49
                                            have H1 : (if (fvalid .quo (floatOfInt .f64 (wrap64 ((wrap64 (x6_3 * 512)) + (wrap64 (Int.tdiv (wrap64 (x9_6 * 512)) 1000000000))))) 4647714815446351872) = true then (some (fop .quo (floatOfInt .f64 (wrap64 ((wrap64 (x6_3 * 512)) + (wrap64 (Int.tdiv (wrap64 (x9_6 * 512)) 1000000000))))) 4647714815446351872, 0)) else (none)) = some (r1, r2) := by rw [if_neg (show ¬ (false = true) by decide)] at H; exact H
                                            clear H
                                            have H := H1
                                            clear H1
                                            by_cases c53 : (fvalid .quo (floatOfInt .f64 (wrap64 ((wrap64 (x6_3 * 512)) + (wrap64 (Int.tdiv (wrap64 (x9_6 * 512)) 1000000000))))) 4647714815446351872) = true
                                            · rw [if_pos c53] at H
                                              have c53b0 := eq_true c53
                                              have c53b1 : decide ((fvalid .quo (floatOfInt .f64 (wrap64 ((wrap64 (x6_3 * 512)) + (wrap64 (Int.tdiv (wrap64 (x9_6 * 512)) 1000000000))))) 4647714815446351872) = true) = true := decide_eq_true c53
                                              simp only [Option.some.injEq, Prod.mk.injEq] at H
                                              obtain ⟨rfl, rfl⟩ := H
                                              go_wp2
                                              go_ret2
                                              exact ⟨by first | rfl | (simp only [show ∀ l : List UInt8, (l != []) = (!l.isEmpty) from fun l => by cases l <;> rfl]; rfl) | (simp; done) | (simp [*]; done), by repeat (first | exact Drawn0.refl _ | apply Drawn0.step)⟩
                                            · rw [if_neg c53] at H
                                              exact absurd H (by simp)

end Go.Proofs.YtfmfikodnpnblaaDoor.PClkR

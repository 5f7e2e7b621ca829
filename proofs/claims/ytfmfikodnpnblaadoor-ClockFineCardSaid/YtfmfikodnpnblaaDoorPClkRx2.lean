-- Written by this repo's gprint.py over the kit's printer, out of the translation. Not trusted: Lean checks it.
import Derived.Test.YtfmfikodnpnblaaDoorPClkRx0
namespace Go.Proofs.YtfmfikodnpnblaaDoor.PClkR
open Go.RowKit Go.Proofs.YtfmfikodnpnblaaDoorW.PrintWords Go.Proofs.YtfmfikodnpnblaaDoorW.PrintLast Go.Proofs.YtfmfikodnpnblaaDoorW.PrintMore
attribute [local go_sem] max2_int min2_int max_two min_two max_three min_three max_four min_four   -- for this text's walks alone
open Go.Proofs.YtfmfikodnpnblaaDoor.ClkLib
attribute [local go_sem] fop_run fint_run fofint_run
set_option linter.unusedVariables false
set_option linter.unusedSimpArgs false

/-! ### stevedoreref4_whole: function 101 -/
def stevedoreref4_whole.f (a0 : Nat) : Option (Int) := if (fintOk a0) = true then (if (FloatKind.f64.format.order (floatOfInt .f64 (fint a0)) a0 == some .gt) = true then (some (wrap64 ((fint a0) - 1))) else (some (fint a0))) else (none)
set_option maxHeartbeats 8000000 in
set_option maxRecDepth 100000 in
theorem stevedoreref4_whole.calls (a0 : Nat) (r : Int) (w : World) (h : stevedoreref4_whole.f a0 = some r) :
    Calls Tryd.prog 101 #[.float .f64 a0] w fun e w' => e = .returned (.int .i64 r) ∧ Drawn0 w w' := by
  have H : (if (fintOk a0) = true then (if (FloatKind.f64.format.order (floatOfInt .f64 (fint a0)) a0 == some .gt) = true then (some (wrap64 ((fint a0) - 1))) else (some (fint a0))) else (none)) = some r := h
  clear h
  by_cases c2 : (fintOk a0) = true
  · rw [if_pos c2] at H
    have c2b0 := eq_true c2
    have c2b1 : decide ((fintOk a0) = true) = true := decide_eq_true c2
    clear c2
    by_cases c3 : (FloatKind.f64.format.order (floatOfInt .f64 (fint a0)) a0 == some .gt) = true
    · rw [if_pos c3] at H
      have c3b0 : (FloatKind.f64.format.order (floatOfInt .f64 (fint a0)) a0 == some .gt) = true := c3
      (try (have c3b1 : decide (FloatKind.f64.format.order (floatOfInt .f64 (fint a0)) a0 = some .gt) = true := by simpa using c3))
      (try (have c3b2 : (FloatKind.f64.format.order (floatOfInt .f64 (fint a0)) a0 == some .gt) = true := by simpa using c3))
      clear c3
      obtain rfl := Option.some.inj H
      go_enter Tryd.func101, Tryd.ntmps101
      go_wp2
      go_ret
      exact ⟨by first | rfl | (simp only [show ∀ l : List UInt8, (l != []) = (!l.isEmpty) from fun l => by cases l <;> rfl]; rfl) | (simp; done) | (simp [*]; done), by repeat (first | exact Drawn0.refl _ | apply Drawn0.step)⟩
    · rw [if_neg c3] at H
      have c3b0 : (FloatKind.f64.format.order (floatOfInt .f64 (fint a0)) a0 == some .gt) = false := by simpa using c3
      (try (have c3b1 : decide (FloatKind.f64.format.order (floatOfInt .f64 (fint a0)) a0 = some .gt) = false := by simpa using c3))
      (try (have c3b2 : (FloatKind.f64.format.order (floatOfInt .f64 (fint a0)) a0 == some .gt) = false := by simpa using c3))
      (try (have c3b3 : ¬ (FloatKind.f64.format.order (floatOfInt .f64 (fint a0)) a0 = some .gt) := by simpa using c3))
      clear c3
      obtain rfl := Option.some.inj H
      go_enter Tryd.func101, Tryd.ntmps101
      go_wp2
      go_ret
      exact ⟨by first | rfl | (simp only [show ∀ l : List UInt8, (l != []) = (!l.isEmpty) from fun l => by cases l <;> rfl]; rfl) | (simp; done) | (simp [*]; done), by repeat (first | exact Drawn0.refl _ | apply Drawn0.step)⟩
  · rw [if_neg c2] at H
    exact absurd H (by simp)

/-! ### stevedoreref4_Parts: function 76 -/
def stevedoreref4_Parts.f (a0 : Nat) : Option (Int) := if (FloatKind.f64.format.order a0 a0 != some .eq) = true then (some 0) else (if (FloatKind.f64.format.order a0 13979173243358019584 == some .lt || FloatKind.f64.format.order a0 13979173243358019584 == some .eq) = true then (some (-4398046511104)) else (if (FloatKind.f64.format.order a0 4755801206503243776 == some .gt || FloatKind.f64.format.order a0 4755801206503243776 == some .eq) = true then (some 4398046511104) else (if (fvalid .mul a0 4647714815446351872) = true then ((stevedoreref4_whole.f (fop .mul a0 4647714815446351872)).bind fun t101 => (some t101)) else (none))))
set_option maxHeartbeats 8000000 in
set_option maxRecDepth 100000 in
theorem stevedoreref4_Parts.calls (a0 : Nat) (r : Int) (w : World) (h : stevedoreref4_Parts.f a0 = some r) :
    Calls Tryd.prog 76 #[.float .f64 a0] w fun e w' => e = .returned (.int .i64 r) ∧ Drawn0 w w' := by
  have H : (if (FloatKind.f64.format.order a0 a0 != some .eq) = true then (some 0) else (if (FloatKind.f64.format.order a0 13979173243358019584 == some .lt || FloatKind.f64.format.order a0 13979173243358019584 == some .eq) = true then (some (-4398046511104)) else (if (FloatKind.f64.format.order a0 4755801206503243776 == some .gt || FloatKind.f64.format.order a0 4755801206503243776 == some .eq) = true then (some 4398046511104) else (if (fvalid .mul a0 4647714815446351872) = true then ((stevedoreref4_whole.f (fop .mul a0 4647714815446351872)).bind fun t101 => (some t101)) else (none))))) = some r := h
  clear h
  by_cases c2 : (FloatKind.f64.format.order a0 a0 != some .eq) = true
  · rw [if_pos c2] at H
    have c2b0 : (FloatKind.f64.format.order a0 a0 != some .eq) = true := c2
    (try (have c2b1 : decide (FloatKind.f64.format.order a0 a0 = some .eq) = false := by simpa using c2))
    (try (have c2b2 : (FloatKind.f64.format.order a0 a0 == some .eq) = false := by simpa using c2))
    (try (have c2b3 : ¬ (FloatKind.f64.format.order a0 a0 = some .eq) := by simpa using c2))
    clear c2
    obtain rfl := Option.some.inj H
    go_enter Tryd.func76, Tryd.ntmps76
    go_wp2
    go_ret
    exact ⟨by first | rfl | (simp only [show ∀ l : List UInt8, (l != []) = (!l.isEmpty) from fun l => by cases l <;> rfl]; rfl) | (simp; done) | (simp [*]; done), by repeat (first | exact Drawn0.refl _ | apply Drawn0.step)⟩
  · rw [if_neg c2] at H
    have c2b0 : (FloatKind.f64.format.order a0 a0 != some .eq) = false := by simpa using c2
    (try (have c2b1 : decide (FloatKind.f64.format.order a0 a0 = some .eq) = true := by simpa using c2))
    (try (have c2b2 : (FloatKind.f64.format.order a0 a0 == some .eq) = true := by simpa using c2))
    clear c2
    by_cases c3 : (FloatKind.f64.format.order a0 13979173243358019584 == some .lt || FloatKind.f64.format.order a0 13979173243358019584 == some .eq) = true
    · rw [if_pos c3] at H
      have c3b0 : (FloatKind.f64.format.order a0 13979173243358019584 == some .lt || FloatKind.f64.format.order a0 13979173243358019584 == some .eq) = true := c3
      have c3b7 : (!(FloatKind.f64.format.order a0 13979173243358019584 == some .lt) && !(FloatKind.f64.format.order a0 13979173243358019584 == some .eq)) = false := by rw [← Bool.not_or, c3b0]; rfl
      (try (have c3b1 : decide (FloatKind.f64.format.order a0 13979173243358019584 = some .lt || FloatKind.f64.format.order a0 13979173243358019584 == some .eq) = true := by simpa using c3))
      (try (have c3b2 : (FloatKind.f64.format.order a0 13979173243358019584 == some .lt || FloatKind.f64.format.order a0 13979173243358019584 == some .eq) = true := by simpa using c3))
      clear c3
      obtain rfl := Option.some.inj H
      go_enter Tryd.func76, Tryd.ntmps76
      go_wp2
      go_ret
      exact ⟨by first | rfl | (simp only [show ∀ l : List UInt8, (l != []) = (!l.isEmpty) from fun l => by cases l <;> rfl]; rfl) | (simp; done) | (simp [*]; done), by repeat (first | exact Drawn0.refl _ | apply Drawn0.step)⟩
    · rw [if_neg c3] at H
      have c3b0 : (FloatKind.f64.format.order a0 13979173243358019584 == some .lt || FloatKind.f64.format.order a0 13979173243358019584 == some .eq) = false := by simpa using c3
      have c3b7 : (!(FloatKind.f64.format.order a0 13979173243358019584 == some .lt) && !(FloatKind.f64.format.order a0 13979173243358019584 == some .eq)) = true := by rw [← Bool.not_or, c3b0]; rfl
      (try (have c3b1 : decide (FloatKind.f64.format.order a0 13979173243358019584 = some .lt || FloatKind.f64.format.order a0 13979173243358019584 == some .eq) = false := by simpa using c3))
      (try (have c3b2 : (FloatKind.f64.format.order a0 13979173243358019584 == some .lt || FloatKind.f64.format.order a0 13979173243358019584 == some .eq) = false := by simpa using c3))
      (try (have c3b3 : ¬ (FloatKind.f64.format.order a0 13979173243358019584 = some .lt || FloatKind.f64.format.order a0 13979173243358019584 == some .eq) := by simpa using c3))
      clear c3
      by_cases c4 : (FloatKind.f64.format.order a0 4755801206503243776 == some .gt || FloatKind.f64.format.order a0 4755801206503243776 == some .eq) = true
      · rw [if_pos c4] at H
        have c4b0 : (FloatKind.f64.format.order a0 4755801206503243776 == some .gt || FloatKind.f64.format.order a0 4755801206503243776 == some .eq) = true := c4
        have c4b7 : (!(FloatKind.f64.format.order a0 4755801206503243776 == some .gt) && !(FloatKind.f64.format.order a0 4755801206503243776 == some .eq)) = false := by rw [← Bool.not_or, c4b0]; rfl
        (try (have c4b1 : decide (FloatKind.f64.format.order a0 4755801206503243776 = some .gt || FloatKind.f64.format.order a0 4755801206503243776 == some .eq) = true := by simpa using c4))
        (try (have c4b2 : (FloatKind.f64.format.order a0 4755801206503243776 == some .gt || FloatKind.f64.format.order a0 4755801206503243776 == some .eq) = true := by simpa using c4))
        clear c4
        obtain rfl := Option.some.inj H
        go_enter Tryd.func76, Tryd.ntmps76
        go_wp2
        go_ret
        exact ⟨by first | rfl | (simp only [show ∀ l : List UInt8, (l != []) = (!l.isEmpty) from fun l => by cases l <;> rfl]; rfl) | (simp; done) | (simp [*]; done), by repeat (first | exact Drawn0.refl _ | apply Drawn0.step)⟩
      · rw [if_neg c4] at H
        have c4b0 : (FloatKind.f64.format.order a0 4755801206503243776 == some .gt || FloatKind.f64.format.order a0 4755801206503243776 == some .eq) = false := by simpa using c4
        have c4b7 : (!(FloatKind.f64.format.order a0 4755801206503243776 == some .gt) && !(FloatKind.f64.format.order a0 4755801206503243776 == some .eq)) = true := by rw [← Bool.not_or, c4b0]; rfl
        (try (have c4b1 : decide (FloatKind.f64.format.order a0 4755801206503243776 = some .gt || FloatKind.f64.format.order a0 4755801206503243776 == some .eq) = false := by simpa using c4))
        (try (have c4b2 : (FloatKind.f64.format.order a0 4755801206503243776 == some .gt || FloatKind.f64.format.order a0 4755801206503243776 == some .eq) = false := by simpa using c4))
        (try (have c4b3 : ¬ (FloatKind.f64.format.order a0 4755801206503243776 = some .gt || FloatKind.f64.format.order a0 4755801206503243776 == some .eq) := by simpa using c4))
        clear c4
        by_cases c5 : (fvalid .mul a0 4647714815446351872) = true
        · rw [if_pos c5] at H
          have c5b0 := eq_true c5
          have c5b1 : decide ((fvalid .mul a0 4647714815446351872) = true) = true := decide_eq_true c5
          clear c5
          replace H := Option.bind_eq_some_iff.mp H
          obtain ⟨t101, A60, H⟩ := H
          replace H : (some t101) = some r := H
          have A6 := Aside0.mk A60
          clear A60
          obtain rfl := Option.some.inj H
          go_enter Tryd.func76, Tryd.ntmps76
          go_wp2_with (first | ((with_reducible refine gate_callee (f := 101) rfl ?_); refine goesL_ (some 15) rfl rfl Tryd.func101 (by kernel_rfl) rfl #[.float .f64 (fop .mul a0 4647714815446351872)] rfl (by (try simp only [List.map_toArray, List.map_cons, List.map_nil]); first | done | rfl | (simp only [List.length_drop, List.length_take]; rfl)) ?_; (with_reducible refine (stevedoreref4_whole.calls (fop .mul a0 4647714815446351872) t101 _ A6.out).mono ?_); rintro e w' ⟨rfl, ⟨nd, rfl⟩⟩; refine ⟨_, rfl, ?_⟩))
          go_ret
          exact ⟨by first | rfl | (simp only [show ∀ l : List UInt8, (l != []) = (!l.isEmpty) from fun l => by cases l <;> rfl]; rfl) | (simp; done) | (simp [*]; done), by repeat (first | exact Drawn0.refl _ | apply Drawn0.step)⟩
        · rw [if_neg c5] at H
          exact absurd H (by simp)

/-! ### stevedoreref4_Fine: function 36 -/
def stevedoreref4_Fine.f (a0 : Nat) : Option (Nat) := (stevedoreref4_Parts.f a0).bind fun t102 => (if (fvalid .quo (floatOfInt .f64 t102) 4647714815446351872) = true then (some (fop .quo (floatOfInt .f64 t102) 4647714815446351872)) else (none))
set_option maxHeartbeats 8000000 in
set_option maxRecDepth 100000 in
theorem stevedoreref4_Fine.calls (a0 : Nat) (r : Nat) (w : World) (h : stevedoreref4_Fine.f a0 = some r) :
    Calls Tryd.prog 36 #[.float .f64 a0] w fun e w' => e = .returned (.float .f64 r) ∧ Drawn0 w w' := by
  have H : ((stevedoreref4_Parts.f a0).bind fun t102 => (if (fvalid .quo (floatOfInt .f64 t102) 4647714815446351872) = true then (some (fop .quo (floatOfInt .f64 t102) 4647714815446351872)) else (none))) = some r := h
  clear h
  replace H := Option.bind_eq_some_iff.mp H
  obtain ⟨t102, A20, H⟩ := H
  replace H : (if (fvalid .quo (floatOfInt .f64 t102) 4647714815446351872) = true then (some (fop .quo (floatOfInt .f64 t102) 4647714815446351872)) else (none)) = some r := H
  have A2 := Aside0.mk A20
  clear A20
  by_cases c3 : (fvalid .quo (floatOfInt .f64 t102) 4647714815446351872) = true
  · rw [if_pos c3] at H
    have c3b0 := eq_true c3
    have c3b1 : decide ((fvalid .quo (floatOfInt .f64 t102) 4647714815446351872) = true) = true := decide_eq_true c3
    clear c3
    obtain rfl := Option.some.inj H
    go_enter Tryd.func36, Tryd.ntmps36
    go_wp2_with (first | ((with_reducible refine gate_callee (f := 76) rfl ?_); refine goesL_ (some 4) rfl rfl Tryd.func76 (by kernel_rfl) rfl #[.float .f64 a0] rfl (by (try simp only [List.map_toArray, List.map_cons, List.map_nil]); first | done | rfl | (simp only [List.length_drop, List.length_take]; rfl)) ?_; (with_reducible refine (stevedoreref4_Parts.calls a0 t102 _ A2.out).mono ?_); rintro e w' ⟨rfl, ⟨nd, rfl⟩⟩; refine ⟨_, rfl, ?_⟩))
    go_ret
    exact ⟨by first | rfl | (simp only [show ∀ l : List UInt8, (l != []) = (!l.isEmpty) from fun l => by cases l <;> rfl]; rfl) | (simp; done) | (simp [*]; done), by repeat (first | exact Drawn0.refl _ | apply Drawn0.step)⟩
  · rw [if_neg c3] at H
    exact absurd H (by simp)

-- function 71 (strconv_Itoa): by hand

/-! ### stevedoreref4_Text: function 38 -/
mutual
def stevedoreref4_Text.j0 : Nat → Int → ByteArray → Option (ByteArray)
  | 0, _, _ => none
  | k + 1, x3, x4 => (strconv_Itoa.f (wrap64 (Int.tdiv x3 512))).bind fun t104 => (if x4.size + t104.size ≤ 9223372036854775807 then (if (Int.tmod x3 512) > 0 then (if (x4 ++ t104).size + 1 ≤ 9223372036854775807 then (stevedoreref4_Text.j1 k ((x4 ++ t104) ++ (⟨#[46]⟩ : ByteArray)) (Int.tmod x3 512)) else (none)) else (stevedoreref4_Text.j1 k (x4 ++ t104) (Int.tmod x3 512))) else (none))
def stevedoreref4_Text.j1 : Nat → ByteArray → Int → Option (ByteArray)
  | 0, _, _ => none
  | k + 1, x4, x5 => stevedoreref4_Text.l0 k x4 x5
def stevedoreref4_Text.l0 : Nat → ByteArray → Int → Option (ByteArray)
  | 0, _, _ => none
  | k + 1, x4, x5 => if x5 > 0 then ((strconv_Itoa.f (wrap64 (Int.tdiv (wrap64 (x5 * 10)) 512))).bind fun t105 => (if x4.size + t105.size ≤ 9223372036854775807 then (stevedoreref4_Text.l0 k (x4 ++ t105) (Int.tmod (wrap64 (x5 * 10)) 512)) else (none))) else (some x4)
end
def stevedoreref4_Text.f (k : Nat) (a0 : Nat) : Option (ByteArray) := (stevedoreref4_Parts.f a0).bind fun t103 => (if t103 < 0 then (stevedoreref4_Text.j0 k (wrap64 (-t103)) (⟨#[45]⟩ : ByteArray)) else (stevedoreref4_Text.j0 k t103 (⟨#[]⟩ : ByteArray)))
theorem stevedoreref4_Text.mono_l : ∀ k, (∀ y0 y1, LeO (stevedoreref4_Text.j0 k y0 y1) (stevedoreref4_Text.j0 (k + 1) y0 y1)) ∧ (∀ y0 y1, LeO (stevedoreref4_Text.j1 k y0 y1) (stevedoreref4_Text.j1 (k + 1) y0 y1)) ∧ (∀ y0 y1, LeO (stevedoreref4_Text.l0 k y0 y1) (stevedoreref4_Text.l0 (k + 1) y0 y1))
  | 0 => ⟨fun _ _ r h => by simp [stevedoreref4_Text.j0] at h, fun _ _ r h => by simp [stevedoreref4_Text.j1] at h, fun _ _ r h => by simp [stevedoreref4_Text.l0] at h⟩
  | k + 1 => by
    obtain ⟨ih0, ih1, ih2⟩ := stevedoreref4_Text.mono_l k
    refine ⟨?_, ?_, ?_⟩
    · intro y0 y1
      unfold stevedoreref4_Text.j0
      repeat' first
      | (with_reducible exact ih0 _ _)
      | (with_reducible exact ih1 _ _)
      | (with_reducible exact ih2 _ _)
      | (with_reducible exact LeO.refl _)
      | (with_reducible exact LeO.none _)
      | (with_reducible refine LeO.ite ?_ ?_)
      | (with_reducible refine LeO.bind ?_ (fun _ => ?_))
      | exact ih0 _ _
      | exact ih1 _ _
      | exact ih2 _ _
      | exact LeO.none _
      | refine LeO.ite ?_ ?_
      | refine LeO.bind ?_ (fun _ => ?_)
    · intro y0 y1
      unfold stevedoreref4_Text.j1
      repeat' first
      | (with_reducible exact ih0 _ _)
      | (with_reducible exact ih1 _ _)
      | (with_reducible exact ih2 _ _)
      | (with_reducible exact LeO.refl _)
      | (with_reducible exact LeO.none _)
      | (with_reducible refine LeO.ite ?_ ?_)
      | (with_reducible refine LeO.bind ?_ (fun _ => ?_))
      | exact ih0 _ _
      | exact ih1 _ _
      | exact ih2 _ _
      | exact LeO.none _
      | refine LeO.ite ?_ ?_
      | refine LeO.bind ?_ (fun _ => ?_)
    · intro y0 y1
      unfold stevedoreref4_Text.l0
      repeat' first
      | (with_reducible exact ih0 _ _)
      | (with_reducible exact ih1 _ _)
      | (with_reducible exact ih2 _ _)
      | (with_reducible exact LeO.refl _)
      | (with_reducible exact LeO.none _)
      | (with_reducible refine LeO.ite ?_ ?_)
      | (with_reducible refine LeO.bind ?_ (fun _ => ?_))
      | exact ih0 _ _
      | exact ih1 _ _
      | exact ih2 _ _
      | exact LeO.none _
      | refine LeO.ite ?_ ?_
      | refine LeO.bind ?_ (fun _ => ?_)
theorem stevedoreref4_Text.mono : ∀ a0 k, LeO (stevedoreref4_Text.f k a0) (stevedoreref4_Text.f (k + 1) a0) := by
  intro a0 k
  obtain ⟨ih0, ih1, ih2⟩ := stevedoreref4_Text.mono_l k
  unfold stevedoreref4_Text.f
  repeat' first
      | (with_reducible exact ih0 _ _)
      | (with_reducible exact ih1 _ _)
      | (with_reducible exact ih2 _ _)
      | (with_reducible exact LeO.refl _)
      | (with_reducible exact LeO.none _)
      | (with_reducible refine LeO.ite ?_ ?_)
      | (with_reducible refine LeO.bind ?_ (fun _ => ?_))
      | exact ih0 _ _
      | exact ih1 _ _
      | exact ih2 _ _
      | exact LeO.none _
      | refine LeO.ite ?_ ?_
      | refine LeO.bind ?_ (fun _ => ?_)
set_option maxHeartbeats 8000000 in
set_option maxRecDepth 100000 in
theorem stevedoreref4_Text.calls (k : Nat) (a0 : Nat) (r : ByteArray) (w : World) (h : stevedoreref4_Text.f k a0 = some r) (hv : Go.Proofs.YtfmfikodnpnblaaDoor.ClkLib.Vars w) :
    Calls Tryd.prog 38 #[.float .f64 a0] w fun e w' => e = .returned (.string r) ∧ Below w.heap.size w w' := by
  have HVARS := Aside0.mk hv
  have HB := Aside0.mk (Below.refl w.heap.size w)
  have H : ((stevedoreref4_Parts.f a0).bind fun t103 => (if t103 < 0 then (stevedoreref4_Text.j0 k (wrap64 (-t103)) (⟨#[45]⟩ : ByteArray)) else (stevedoreref4_Text.j0 k t103 (⟨#[]⟩ : ByteArray)))) = some r := h
  clear h
  replace H := Option.bind_eq_some_iff.mp H
  obtain ⟨t103, A20, H⟩ := H
  replace H : (if t103 < 0 then (stevedoreref4_Text.j0 k (wrap64 (-t103)) (⟨#[45]⟩ : ByteArray)) else (stevedoreref4_Text.j0 k t103 (⟨#[]⟩ : ByteArray))) = some r := H
  have A2 := Aside0.mk A20
  clear A20
  have HC3 := Aside0.mk H
  clear H
  go_enter Tryd.func38, Tryd.ntmps38
  go_upto_if 9 with (first | ((with_reducible refine gate_callee (f := 76) rfl ?_); refine goesL_ (some 7) rfl rfl Tryd.func76 (by kernel_rfl) rfl #[.float .f64 a0] rfl (by (try simp only [List.map_toArray, List.map_cons, List.map_nil]); first | done | rfl | (simp only [List.length_drop, List.length_take]; rfl)) ?_; (with_reducible refine (stevedoreref4_Parts.calls a0 t103 _ A2.out).mono ?_); rintro e w' ⟨rfl, ⟨nd, rfl⟩⟩; refine ⟨_, rfl, ?_⟩))
  (try simp only [Act.put, List.setIfInBounds_toArray, List.set_cons_zero, List.set_cons_succ])
  go_cut [3, 4] (fun v3 v4 wc => ∃ (kq : Nat) (x3_2 : Int) (x4_2 : ByteArray), v3 = .int .i64 x3_2 ∧ v4 = .string x4_2 ∧ Aside0 (stevedoreref4_Text.j0 kq x3_2 x4_2 = some r) ∧ Aside0 (kq ≤ k) ∧ Aside0 (Below w.heap.size w wc))
  case first =>
    have H := HC3.out
    clear HC3
    by_cases c4 : t103 < 0
    · rw [if_pos c4] at H
      have c4b0 : decide (t103 < 0) = true := decide_eq_true c4
      clear c4
      (first | rw [c4b0] | (simp only [i64_w, i32_w]; rw [c4b0]) | rw [c4b1] | skip)
      (try rw [c4b7])
      have H' := Aside0.mk H
      clear H
      go_wp2
      go_meet
      case rel => exact ⟨_, (wrap64 (-t103)), ((⟨#[45]⟩ : ByteArray)), (by first | rfl | (simp; done) | (simp [*]; done)), (by first | rfl | (simp; done) | (simp [*]; done)), H', ⟨by first | omega | exact Nat.le_refl _⟩, ⟨by repeat (first | (with_reducible first | exact HB.out | apply below_alloc | apply pw_below_drewN | apply below_drew1) | exact HB.out)⟩⟩
    · rw [if_neg c4] at H
      have c4b0 : decide (t103 < 0) = false := decide_eq_false c4
      clear c4
      (first | rw [c4b0] | (simp only [i64_w, i32_w]; rw [c4b0]) | rw [c4b1] | skip)
      (try rw [c4b7])
      have H' := Aside0.mk H
      clear H
      go_wp2
      go_meet
      case rel => exact ⟨_, (t103), ((⟨#[]⟩ : ByteArray)), (by first | rfl | (simp; done) | (simp [*]; done)), (by first | rfl | (simp; done) | (simp [*]; done)), H', ⟨by first | omega | exact Nat.le_refl _⟩, ⟨by repeat (first | (with_reducible first | exact HB.out | apply below_alloc | apply pw_below_drewN | apply below_drew1) | exact HB.out)⟩⟩
  case rest =>
    clear HC3
    try clear p2
    try clear c3
    try clear c4
    try clear c4b0
    obtain ⟨kq, x3_2, x4_2, rfl, rfl, HA, HJ2, HB⟩ := hcut
    cases kq with
    | zero => exact absurd HA.out (by simp [stevedoreref4_Text.j0])
    | succ kj2 =>
      have H := HA.out
      clear HA
      simp only [stevedoreref4_Text.j0] at H
      replace H := Option.bind_eq_some_iff.mp H
      obtain ⟨t104, A50, H⟩ := H
      replace H : (if x4_2.size + t104.size ≤ 9223372036854775807 then (if (Int.tmod x3_2 512) > 0 then (if (x4_2 ++ t104).size + 1 ≤ 9223372036854775807 then (stevedoreref4_Text.j1 kj2 ((x4_2 ++ t104) ++ (⟨#[46]⟩ : ByteArray)) (Int.tmod x3_2 512)) else (none)) else (stevedoreref4_Text.j1 kj2 (x4_2 ++ t104) (Int.tmod x3_2 512))) else (none)) = some r := H
      have A5 := Aside0.mk A50
      clear A50
      by_cases c6 : x4_2.size + t104.size ≤ 9223372036854775807
      · rw [if_pos c6] at H
        have c6b0 := eq_true c6
        have c6b1 : decide (x4_2.size + t104.size ≤ 9223372036854775807) = true := decide_eq_true c6
        try have c6b2 : (9223372036854775807 < x4_2.size + t104.size) = False := eq_false (Nat.not_lt.2 c6)
        have HC7 := Aside0.mk H
        clear H
        go_upto_if 20 with (first | ((with_reducible refine gate_callee (f := 71) rfl ?_); refine goesL_ (some 15) rfl rfl Tryd.func71 (by kernel_rfl) rfl #[.int .i64 (wrap64 (Int.tdiv x3_2 512))] rfl (by (try simp only [List.map_toArray, List.map_cons, List.map_nil]); first | done | rfl | (simp only [List.length_drop, List.length_take]; rfl)) ?_; (with_reducible refine (strconv_Itoa.calls (wrap64 (Int.tdiv x3_2 512)) t104 _ A5.out (Go.Proofs.YtfmfikodnpnblaaDoor.ClkLib.Vars.below HVARS.out (by repeat (first | (with_reducible first | exact HB.out | apply below_alloc | apply pw_below_drewN | apply below_drew1 | refine below_set ?_ (Aside0.out (by assumption))) | exact HB.out)))).mono ?_); rintro e w8 ⟨rfl, hb⟩; refine ⟨_, rfl, ?_⟩; have n0_ := Aside0.mk (below_step (by repeat (first | (with_reducible first | exact HB.out | apply below_alloc | apply pw_below_drewN | apply below_drew1) | exact HB.out)) hb); clear HB; have HB := n0_; clear n0_; (try clear hb); (try clear hb2); (try clear hk); (try clear hi)))
        (try simp only [Act.put, List.setIfInBounds_toArray, List.set_cons_zero, List.set_cons_succ])
        go_cut [4] (fun v4 wc => ∃ (kq : Nat) (x4_6 : ByteArray), v4 = .string x4_6 ∧ Aside0 (stevedoreref4_Text.j1 kq x4_6 (Int.tmod x3_2 512) = some r) ∧ Aside0 (kq ≤ kj2) ∧ Aside0 (Below w.heap.size w wc))
        case first =>
          have H := HC7.out
          clear HC7
          by_cases c9 : (Int.tmod x3_2 512) > 0
          · rw [if_pos c9] at H
            have c9b0 : decide (0 < (Int.tmod x3_2 512)) = true := decide_eq_true c9
            clear c9
            (first | rw [c9b0] | (simp only [i64_w, i32_w]; rw [c9b0]) | rw [c9b1] | skip)
            by_cases c10 : (x4_2 ++ t104).size + 1 ≤ 9223372036854775807
            · rw [if_pos c10] at H
              have c10b0 := eq_true c10
              have c10b1 : decide ((x4_2 ++ t104).size + 1 ≤ 9223372036854775807) = true := decide_eq_true c10
              (try (have c10b1s := c10b1; simp only [ByteArray.size_append] at c10b1s))
              (try (have c10b1t := c10b1; simp only [ByteArray.size_append, Int.natCast_add, Int.cast_ofNat_Int] at c10b1t))
              try have c10b2 : (9223372036854775807 < (x4_2 ++ t104).size + 1) = False := eq_false (Nat.not_lt.2 c10)
              (try (have c10b2s := c10b2; simp only [ByteArray.size_append] at c10b2s))
              (try (have c10b2t := c10b2; simp only [ByteArray.size_append, Int.natCast_add, Int.cast_ofNat_Int] at c10b2t))
              have H' := Aside0.mk H
              clear H
              go_wp2
              go_meet
              case rel => exact ⟨_, ((x4_2 ++ t104) ++ (⟨#[46]⟩ : ByteArray)), (by first | rfl | (simp; done) | (simp [*]; done)), H', ⟨by have := HJ2.out; first | omega | exact Nat.le_refl _⟩, ⟨by repeat (first | (with_reducible first | exact HB.out | apply below_alloc | apply pw_below_drewN | apply below_drew1) | exact HB.out)⟩⟩
            · rw [if_neg c10] at H
              exact absurd H (by simp)
          · rw [if_neg c9] at H
            have c9b0 : decide (0 < (Int.tmod x3_2 512)) = false := decide_eq_false c9
            clear c9
            (first | rw [c9b0] | (simp only [i64_w, i32_w]; rw [c9b0]) | rw [c9b1] | skip)
            have H' := Aside0.mk H
            clear H
            go_wp2
            go_meet
            case rel => exact ⟨_, (x4_2 ++ t104), (by first | rfl | (simp; done) | (simp [*]; done)), H', ⟨by have := HJ2.out; first | omega | exact Nat.le_refl _⟩, ⟨by repeat (first | (with_reducible first | exact HB.out | apply below_alloc | apply pw_below_drewN | apply below_drew1) | exact HB.out)⟩⟩
        case rest =>
          clear HC7
          try clear c1
          try clear p2
          try clear c3
          try clear c4
          try clear c4b0
          try clear c6
          try clear c6b0
          try clear c6b1
          try clear c6b2
          try clear p6
          try clear c7
          try clear c9
          try clear c9b0
          try clear c10
          try clear c10b0
          try clear c10b1
          try clear c10b2
          try clear p2
          obtain ⟨kq, x4_6, rfl, HA, HJ6, HB⟩ := hcut
          cases kq with
          | zero => exact absurd HA.out (by simp [stevedoreref4_Text.j1])
          | succ kj6 =>
            have H := HA.out
            clear HA
            simp only [stevedoreref4_Text.j1] at H
            have H' := Aside0.mk H
            clear H
            go_wp2
            go_loopg [4, 5] kj6 (fun kq v4 v5 w' => ∃ (x4_3 : ByteArray) (x5_3 : Int), v4 = .string x4_3 ∧ v5 = .int .i64 x5_3 ∧ Aside0 (stevedoreref4_Text.l0 kq x4_3 x5_3 = some r) ∧ Aside0 (kq ≤ kj6) ∧ Aside0 (Below w.heap.size w w'))
            case atStart => exact ⟨(x4_6), ((Int.tmod x3_2 512)), (by first | rfl | (simp; done) | (simp [*]; done)), (by first | rfl | (simp; done) | (simp [*]; done)), H', ⟨Nat.le_refl _⟩, ⟨by repeat (first | (with_reducible first | exact HB.out | apply below_alloc | apply pw_below_drewN | apply below_drew1) | exact HB.out)⟩⟩
            case round =>
              clear H'
              try clear c1
              try clear p2
              try clear c3
              try clear c4
              try clear c4b0
              try clear c6
              try clear c6b0
              try clear c6b1
              try clear c6b2
              try clear p6
              try clear c7
              try clear c9
              try clear c9b0
              try clear c10
              try clear c10b0
              try clear c10b1
              try clear c10b2
              try clear p2
              try clear p6
              obtain ⟨x4_3, x5_3, rfl, rfl, HA, HK3, HB⟩ := hrel
              cases gk with
              | zero => exact absurd HA.out (by simp [stevedoreref4_Text.l0])
              | succ k3 =>
                have H := HA.out
                clear HA
                simp only [stevedoreref4_Text.l0] at H
                by_cases c11 : x5_3 > 0
                · rw [if_pos c11] at H
                  have c11b0 : decide (0 < x5_3) = true := decide_eq_true c11
                  clear c11
                  replace H := Option.bind_eq_some_iff.mp H
                  obtain ⟨t105, A120, H⟩ := H
                  replace H : (if x4_3.size + t105.size ≤ 9223372036854775807 then (stevedoreref4_Text.l0 k3 (x4_3 ++ t105) (Int.tmod (wrap64 (x5_3 * 10)) 512)) else (none)) = some r := H
                  have A12 := Aside0.mk A120
                  clear A120
                  by_cases c13 : x4_3.size + t105.size ≤ 9223372036854775807
                  · rw [if_pos c13] at H
                    have c13b0 := eq_true c13
                    have c13b1 : decide (x4_3.size + t105.size ≤ 9223372036854775807) = true := decide_eq_true c13
                    try have c13b2 : (9223372036854775807 < x4_3.size + t105.size) = False := eq_false (Nat.not_lt.2 c13)
                    have H' := Aside0.mk H
                    clear H
                    go_wp2_with (first | ((with_reducible refine gate_callee (f := 71) rfl ?_); refine goesL_ (some 30) rfl rfl Tryd.func71 (by kernel_rfl) rfl #[.int .i64 (wrap64 (Int.tdiv (wrap64 (x5_3 * 10)) 512))] rfl (by (try simp only [List.map_toArray, List.map_cons, List.map_nil]); first | done | rfl | (simp only [List.length_drop, List.length_take]; rfl)) ?_; (with_reducible refine (strconv_Itoa.calls (wrap64 (Int.tdiv (wrap64 (x5_3 * 10)) 512)) t105 _ A12.out (Go.Proofs.YtfmfikodnpnblaaDoor.ClkLib.Vars.below HVARS.out (by repeat (first | (with_reducible first | exact HB.out | apply below_alloc | apply pw_below_drewN | apply below_drew1 | refine below_set ?_ (Aside0.out (by assumption))) | exact HB.out)))).mono ?_); rintro e w14 ⟨rfl, hb⟩; refine ⟨_, rfl, ?_⟩; have n0_ := Aside0.mk (below_step (by repeat (first | (with_reducible first | exact HB.out | apply below_alloc | apply pw_below_drewN | apply below_drew1) | exact HB.out)) hb); clear HB; have HB := n0_; clear n0_; (try clear hb); (try clear hb2); (try clear hk); (try clear hi)))
                    go_roundg k3
                    case measure => have := HJ2.out; have := HJ6.out; have := HK3.out; omega
                    case rel => exact ⟨(x4_3 ++ t105), (Int.tmod (wrap64 (x5_3 * 10)) 512), (by first | rfl | (simp; done) | (simp [*]; done)), (by first | rfl | (simp; done) | (simp [*]; done)), H', ⟨by have := HJ2.out; have := HJ6.out; have := HK3.out; omega⟩, ⟨by repeat (first | (with_reducible first | exact HB.out | apply below_alloc | apply pw_below_drewN | apply below_drew1) | exact HB.out)⟩⟩
                  · rw [if_neg c13] at H
                    exact absurd H (by simp)
                · rw [if_neg c11] at H
                  have c11b0 : decide (0 < x5_3) = false := decide_eq_false c11
                  clear c11
                  obtain rfl := Option.some.inj H
                  go_wp2
                  go_ret
                  exact ⟨by first | rfl | (simp only [show ∀ l : List UInt8, (l != []) = (!l.isEmpty) from fun l => by cases l <;> rfl]; rfl) | (simp [errW_none, errW_some] <;> rfl) | (simp [*, errW_none, errW_some] <;> rfl), by repeat (first | (with_reducible first | exact HB.out | apply below_alloc | apply pw_below_drewN | apply below_drew1) | exact HB.out)⟩
      · rw [if_neg c6] at H
        exact absurd H (by simp)

end Go.Proofs.YtfmfikodnpnblaaDoor.PClkR

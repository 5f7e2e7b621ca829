-- Written by this repo's gprint.py over the kit's printer, out of the translation. Not trusted: Lean checks it.
import Derived.Test.YtfmfikodnpnblaaDoorPClk1x0
import Derived.Test.YtfmfikodnpnblaaDoorClkAtoiClk1
namespace Go.Proofs.YtfmfikodnpnblaaDoor.PClk1
open Go.RowKit Go.Proofs.YtfmfikodnpnblaaDoorW.PrintWords Go.Proofs.YtfmfikodnpnblaaDoorW.PrintLast Go.Proofs.YtfmfikodnpnblaaDoorW.PrintMore
attribute [local go_sem] max2_int min2_int max_two min_two max_three min_three max_four min_four   -- for this text's walks alone
open Go.Proofs.YtfmfikodnpnblaaDoor.ClkAtoiClk1 Go.Proofs.YtfmfikodnpnblaaDoor.ClkDate Go.Proofs.YtfmfikodnpnblaaDoor.ClkLib Go.Proofs.YtfmfikodnpnblaaDoor.ClkParts
attribute [local go_sem] fop_run fint_run fofint_run
set_option linter.unusedVariables false
set_option linter.unusedSimpArgs false

/-! ### stevedoreref4_whole: function 101 -/
def stevedoreref4_whole.f (a0 : Nat) : Option (Int) := if (fintOk a0) = true then (if (FloatKind.f64.format.order (floatOfInt .f64 (fint a0)) a0 == some .gt) = true then (some (wrap64 ((fint a0) - 1))) else (some (fint a0))) else (none)
set_option maxHeartbeats 8000000 in
set_option maxRecDepth 100000 in
theorem stevedoreref4_whole.calls (a0 : Nat) (r : Int) (w : World) (h : stevedoreref4_whole.f a0 = some r) :
    Calls Tryd.prog 101 #[.float .f64 a0] w fun e w' => e = .returned (.int .i64 r) ∧ Drawn0 w w' := by
  have H : (if (fintOk a0) = true then (if (FloatKind.f64.format.order (floatOfInt .f64 (fint a0)) a0 == some .gt) = true then (some (wrap64 ((fint a0) - 1))) else (some (fint a0))) else (none)) = some r := h
  clear h
  by_cases c2 : (fintOk a0) = true
  · rw [if_pos c2] at H
    have c2b0 := eq_true c2
    have c2b1 : decide ((fintOk a0) = true) = true := decide_eq_true c2
    clear c2
    by_cases c3 : (FloatKind.f64.format.order (floatOfInt .f64 (fint a0)) a0 == some .gt) = true
    · rw [if_pos c3] at H
      have c3b0 : (FloatKind.f64.format.order (floatOfInt .f64 (fint a0)) a0 == some .gt) = true := c3
      (try (have c3b1 : decide (FloatKind.f64.format.order (floatOfInt .f64 (fint a0)) a0 = some .gt) = true := by simpa using c3))
      (try (have c3b2 : (FloatKind.f64.format.order (floatOfInt .f64 (fint a0)) a0 == some .gt) = true := by simpa using c3))
      clear c3
      obtain rfl := Option.some.inj H
      go_enter Tryd.func101, Tryd.ntmps101
      go_wp2
      go_ret
      exact ⟨by first | rfl | (simp only [show ∀ l : List UInt8, (l != []) = (!l.isEmpty) from fun l => by cases l <;> rfl]; rfl) | (simp; done) | (simp [*]; done), by repeat (first | exact Drawn0.refl _ | apply Drawn0.step)⟩
    · rw [if_neg c3] at H
      have c3b0 : (FloatKind.f64.format.order (floatOfInt .f64 (fint a0)) a0 == some .gt) = false := by simpa using c3
      (try (have c3b1 : decide (FloatKind.f64.format.order (floatOfInt .f64 (fint a0)) a0 = some .gt) = false := by simpa using c3))
      (try (have c3b2 : (FloatKind.f64.format.order (floatOfInt .f64 (fint a0)) a0 == some .gt) = false := by simpa using c3))
      (try (have c3b3 : ¬ (FloatKind.f64.format.order (floatOfInt .f64 (fint a0)) a0 = some .gt) := by simpa using c3))
      clear c3
      obtain rfl := Option.some.inj H
      go_enter Tryd.func101, Tryd.ntmps101
      go_wp2
      go_ret
      exact ⟨by first | rfl | (simp only [show ∀ l : List UInt8, (l != []) = (!l.isEmpty) from fun l => by cases l <;> rfl]; rfl) | (simp; done) | (simp [*]; done), by repeat (first | exact Drawn0.refl _ | apply Drawn0.step)⟩
  · rw [if_neg c2] at H
    exact absurd H (by simp)

/-! ### stevedoreref4_Parts: function 76 -/
def stevedoreref4_Parts.f (a0 : Nat) : Option (Int) := if (FloatKind.f64.format.order a0 a0 != some .eq) = true then (some 0) else (if (FloatKind.f64.format.order a0 13979173243358019584 == some .lt || FloatKind.f64.format.order a0 13979173243358019584 == some .eq) = true then (some (-4398046511104)) else (if (FloatKind.f64.format.order a0 4755801206503243776 == some .gt || FloatKind.f64.format.order a0 4755801206503243776 == some .eq) = true then (some 4398046511104) else (if (fvalid .mul a0 4647714815446351872) = true then ((stevedoreref4_whole.f (fop .mul a0 4647714815446351872)).bind fun t160 => (some t160)) else (none))))
set_option maxHeartbeats 8000000 in
set_option maxRecDepth 100000 in
theorem stevedoreref4_Parts.calls (a0 : Nat) (r : Int) (w : World) (h : stevedoreref4_Parts.f a0 = some r) :
    Calls Tryd.prog 76 #[.float .f64 a0] w fun e w' => e = .returned (.int .i64 r) ∧ Drawn0 w w' := by
  have H : (if (FloatKind.f64.format.order a0 a0 != some .eq) = true then (some 0) else (if (FloatKind.f64.format.order a0 13979173243358019584 == some .lt || FloatKind.f64.format.order a0 13979173243358019584 == some .eq) = true then (some (-4398046511104)) else (if (FloatKind.f64.format.order a0 4755801206503243776 == some .gt || FloatKind.f64.format.order a0 4755801206503243776 == some .eq) = true then (some 4398046511104) else (if (fvalid .mul a0 4647714815446351872) = true then ((stevedoreref4_whole.f (fop .mul a0 4647714815446351872)).bind fun t160 => (some t160)) else (none))))) = some r := h
  clear h
  by_cases c2 : (FloatKind.f64.format.order a0 a0 != some .eq) = true
  · rw [if_pos c2] at H
    have c2b0 : (FloatKind.f64.format.order a0 a0 != some .eq) = true := c2
    (try (have c2b1 : decide (FloatKind.f64.format.order a0 a0 = some .eq) = false := by simpa using c2))
    (try (have c2b2 : (FloatKind.f64.format.order a0 a0 == some .eq) = false := by simpa using c2))
    (try (have c2b3 : ¬ (FloatKind.f64.format.order a0 a0 = some .eq) := by simpa using c2))
    clear c2
    obtain rfl := Option.some.inj H
    go_enter Tryd.func76, Tryd.ntmps76
    go_wp2
    go_ret
    exact ⟨by first | rfl | (simp only [show ∀ l : List UInt8, (l != []) = (!l.isEmpty) from fun l => by cases l <;> rfl]; rfl) | (simp; done) | (simp [*]; done), by repeat (first | exact Drawn0.refl _ | apply Drawn0.step)⟩
  · rw [if_neg c2] at H
    have c2b0 : (FloatKind.f64.format.order a0 a0 != some .eq) = false := by simpa using c2
    (try (have c2b1 : decide (FloatKind.f64.format.order a0 a0 = some .eq) = true := by simpa using c2))
    (try (have c2b2 : (FloatKind.f64.format.order a0 a0 == some .eq) = true := by simpa using c2))
    clear c2
    by_cases c3 : (FloatKind.f64.format.order a0 13979173243358019584 == some .lt || FloatKind.f64.format.order a0 13979173243358019584 == some .eq) = true
    · rw [if_pos c3] at H
      have c3b0 : (FloatKind.f64.format.order a0 13979173243358019584 == some .lt || FloatKind.f64.format.order a0 13979173243358019584 == some .eq) = true := c3
      (try (have c3b1 : decide (FloatKind.f64.format.order a0 13979173243358019584 = some .lt || FloatKind.f64.format.order a0 13979173243358019584 == some .eq) = true := by simpa using c3))
      (try (have c3b2 : (FloatKind.f64.format.order a0 13979173243358019584 == some .lt || FloatKind.f64.format.order a0 13979173243358019584 == some .eq) = true := by simpa using c3))
      clear c3
      obtain rfl := Option.some.inj H
      go_enter Tryd.func76, Tryd.ntmps76
      go_wp2
      go_ret
      exact ⟨by first | rfl | (simp only [show ∀ l : List UInt8, (l != []) = (!l.isEmpty) from fun l => by cases l <;> rfl]; rfl) | (simp; done) | (simp [*]; done), by repeat (first | exact Drawn0.refl _ | apply Drawn0.step)⟩
    · rw [if_neg c3] at H
      have c3b0 : (FloatKind.f64.format.order a0 13979173243358019584 == some .lt || FloatKind.f64.format.order a0 13979173243358019584 == some .eq) = false := by simpa using c3
      (try (have c3b1 : decide (FloatKind.f64.format.order a0 13979173243358019584 = some .lt || FloatKind.f64.format.order a0 13979173243358019584 == some .eq) = false := by simpa using c3))
      (try (have c3b2 : (FloatKind.f64.format.order a0 13979173243358019584 == some .lt || FloatKind.f64.format.order a0 13979173243358019584 == some .eq) = false := by simpa using c3))
      (try (have c3b3 : ¬ (FloatKind.f64.format.order a0 13979173243358019584 = some .lt || FloatKind.f64.format.order a0 13979173243358019584 == some .eq) := by simpa using c3))
      clear c3
      by_cases c4 : (FloatKind.f64.format.order a0 4755801206503243776 == some .gt || FloatKind.f64.format.order a0 4755801206503243776 == some .eq) = true
      · rw [if_pos c4] at H
        have c4b0 : (FloatKind.f64.format.order a0 4755801206503243776 == some .gt || FloatKind.f64.format.order a0 4755801206503243776 == some .eq) = true := c4
        (try (have c4b1 : decide (FloatKind.f64.format.order a0 4755801206503243776 = some .gt || FloatKind.f64.format.order a0 4755801206503243776 == some .eq) = true := by simpa using c4))
        (try (have c4b2 : (FloatKind.f64.format.order a0 4755801206503243776 == some .gt || FloatKind.f64.format.order a0 4755801206503243776 == some .eq) = true := by simpa using c4))
        clear c4
        obtain rfl := Option.some.inj H
        go_enter Tryd.func76, Tryd.ntmps76
        go_wp2
        go_ret
        exact ⟨by first | rfl | (simp only [show ∀ l : List UInt8, (l != []) = (!l.isEmpty) from fun l => by cases l <;> rfl]; rfl) | (simp; done) | (simp [*]; done), by repeat (first | exact Drawn0.refl _ | apply Drawn0.step)⟩
      · rw [if_neg c4] at H
        have c4b0 : (FloatKind.f64.format.order a0 4755801206503243776 == some .gt || FloatKind.f64.format.order a0 4755801206503243776 == some .eq) = false := by simpa using c4
        (try (have c4b1 : decide (FloatKind.f64.format.order a0 4755801206503243776 = some .gt || FloatKind.f64.format.order a0 4755801206503243776 == some .eq) = false := by simpa using c4))
        (try (have c4b2 : (FloatKind.f64.format.order a0 4755801206503243776 == some .gt || FloatKind.f64.format.order a0 4755801206503243776 == some .eq) = false := by simpa using c4))
        (try (have c4b3 : ¬ (FloatKind.f64.format.order a0 4755801206503243776 = some .gt || FloatKind.f64.format.order a0 4755801206503243776 == some .eq) := by simpa using c4))
        clear c4
        by_cases c5 : (fvalid .mul a0 4647714815446351872) = true
        · rw [if_pos c5] at H
          have c5b0 := eq_true c5
          have c5b1 : decide ((fvalid .mul a0 4647714815446351872) = true) = true := decide_eq_true c5
          clear c5
          replace H := Option.bind_eq_some_iff.mp H
          obtain ⟨t160, A60, H⟩ := H
          replace H : (some t160) = some r := H
          have A6 := Aside0.mk A60
          clear A60
          obtain rfl := Option.some.inj H
          go_enter Tryd.func76, Tryd.ntmps76
          go_wp2_with (first | ((with_reducible refine gate_callee (f := 101) rfl ?_); refine goesL_ (some 15) rfl rfl Tryd.func101 (by kernel_rfl) rfl #[.float .f64 (fop .mul a0 4647714815446351872)] rfl (by (try simp only [List.map_toArray, List.map_cons, List.map_nil]); first | done | rfl | (simp only [List.length_drop, List.length_take]; rfl)) ?_; (with_reducible refine (stevedoreref4_whole.calls (fop .mul a0 4647714815446351872) t160 _ A6.out).mono ?_); rintro e w' ⟨rfl, ⟨nd, rfl⟩⟩; refine ⟨_, rfl, ?_⟩))
          go_ret
          exact ⟨by first | rfl | (simp only [show ∀ l : List UInt8, (l != []) = (!l.isEmpty) from fun l => by cases l <;> rfl]; rfl) | (simp; done) | (simp [*]; done), by repeat (first | exact Drawn0.refl _ | apply Drawn0.step)⟩
        · rw [if_neg c5] at H
          exact absurd H (by simp)

/-! ### stevedoreref4_Fine: function 36 -/
def stevedoreref4_Fine.f (a0 : Nat) : Option (Nat) := (stevedoreref4_Parts.f a0).bind fun t161 => (if (fvalid .quo (floatOfInt .f64 t161) 4647714815446351872) = true then (some (fop .quo (floatOfInt .f64 t161) 4647714815446351872)) else (none))
set_option maxHeartbeats 8000000 in
set_option maxRecDepth 100000 in
theorem stevedoreref4_Fine.calls (a0 : Nat) (r : Nat) (w : World) (h : stevedoreref4_Fine.f a0 = some r) :
    Calls Tryd.prog 36 #[.float .f64 a0] w fun e w' => e = .returned (.float .f64 r) ∧ Drawn0 w w' := by
  have H : ((stevedoreref4_Parts.f a0).bind fun t161 => (if (fvalid .quo (floatOfInt .f64 t161) 4647714815446351872) = true then (some (fop .quo (floatOfInt .f64 t161) 4647714815446351872)) else (none))) = some r := h
  clear h
  replace H := Option.bind_eq_some_iff.mp H
  obtain ⟨t161, A20, H⟩ := H
  replace H : (if (fvalid .quo (floatOfInt .f64 t161) 4647714815446351872) = true then (some (fop .quo (floatOfInt .f64 t161) 4647714815446351872)) else (none)) = some r := H
  have A2 := Aside0.mk A20
  clear A20
  by_cases c3 : (fvalid .quo (floatOfInt .f64 t161) 4647714815446351872) = true
  · rw [if_pos c3] at H
    have c3b0 := eq_true c3
    have c3b1 : decide ((fvalid .quo (floatOfInt .f64 t161) 4647714815446351872) = true) = true := decide_eq_true c3
    clear c3
    obtain rfl := Option.some.inj H
    go_enter Tryd.func36, Tryd.ntmps36
    go_wp2_with (first | ((with_reducible refine gate_callee (f := 76) rfl ?_); refine goesL_ (some 4) rfl rfl Tryd.func76 (by kernel_rfl) rfl #[.float .f64 a0] rfl (by (try simp only [List.map_toArray, List.map_cons, List.map_nil]); first | done | rfl | (simp only [List.length_drop, List.length_take]; rfl)) ?_; (with_reducible refine (stevedoreref4_Parts.calls a0 t161 _ A2.out).mono ?_); rintro e w' ⟨rfl, ⟨nd, rfl⟩⟩; refine ⟨_, rfl, ?_⟩))
    go_ret
    exact ⟨by first | rfl | (simp only [show ∀ l : List UInt8, (l != []) = (!l.isEmpty) from fun l => by cases l <;> rfl]; rfl) | (simp; done) | (simp [*]; done), by repeat (first | exact Drawn0.refl _ | apply Drawn0.step)⟩
  · rw [if_neg c3] at H
    exact absurd H (by simp)

/-! ### stevedoreref4_Text: function 38 -/
mutual
def stevedoreref4_Text.j0 : Nat → Int → ByteArray → Option (ByteArray)
  | 0, _, _ => none
  | k + 1, x3, x4 => (strconv_Itoa.f (wrap64 (Int.tdiv x3 512))).bind fun t163 => (if x4.size + t163.size ≤ 9223372036854775807 then (if (Int.tmod x3 512) > 0 then (if (x4 ++ t163).size + 1 ≤ 9223372036854775807 then (stevedoreref4_Text.j1 k ((x4 ++ t163) ++ (⟨#[46]⟩ : ByteArray)) (Int.tmod x3 512)) else (none)) else (stevedoreref4_Text.j1 k (x4 ++ t163) (Int.tmod x3 512))) else (none))
def stevedoreref4_Text.j1 : Nat → ByteArray → Int → Option (ByteArray)
  | 0, _, _ => none
  | k + 1, x4, x5 => stevedoreref4_Text.l0 k x4 x5
def stevedoreref4_Text.l0 : Nat → ByteArray → Int → Option (ByteArray)
  | 0, _, _ => none
  | k + 1, x4, x5 => if x5 > 0 then ((strconv_Itoa.f (wrap64 (Int.tdiv (wrap64 (x5 * 10)) 512))).bind fun t164 => (if x4.size + t164.size ≤ 9223372036854775807 then (stevedoreref4_Text.l0 k (x4 ++ t164) (Int.tmod (wrap64 (x5 * 10)) 512)) else (none))) else (some x4)
end
def stevedoreref4_Text.f (k : Nat) (a0 : Nat) : Option (ByteArray) := (stevedoreref4_Parts.f a0).bind fun t162 => (if t162 < 0 then (stevedoreref4_Text.j0 k (wrap64 (-t162)) (⟨#[45]⟩ : ByteArray)) else (stevedoreref4_Text.j0 k t162 (⟨#[]⟩ : ByteArray)))
theorem stevedoreref4_Text.mono_l : ∀ k, (∀ y0 y1, LeO (stevedoreref4_Text.j0 k y0 y1) (stevedoreref4_Text.j0 (k + 1) y0 y1)) ∧ (∀ y0 y1, LeO (stevedoreref4_Text.j1 k y0 y1) (stevedoreref4_Text.j1 (k + 1) y0 y1)) ∧ (∀ y0 y1, LeO (stevedoreref4_Text.l0 k y0 y1) (stevedoreref4_Text.l0 (k + 1) y0 y1))
  | 0 => ⟨fun _ _ r h => by simp [stevedoreref4_Text.j0] at h, fun _ _ r h => by simp [stevedoreref4_Text.j1] at h, fun _ _ r h => by simp [stevedoreref4_Text.l0] at h⟩
  | k + 1 => by
    obtain ⟨ih0, ih1, ih2⟩ := stevedoreref4_Text.mono_l k
    refine ⟨?_, ?_, ?_⟩
    · intro y0 y1
      unfold stevedoreref4_Text.j0
      repeat' first
      | (with_reducible exact ih0 _ _)
      | (with_reducible exact ih1 _ _)
      | (with_reducible exact ih2 _ _)
      | (with_reducible exact LeO.refl _)
      | (with_reducible exact LeO.none _)
      | (with_reducible refine LeO.ite ?_ ?_)
      | (with_reducible refine LeO.bind ?_ (fun _ => ?_))
      | exact ih0 _ _
      | exact ih1 _ _
      | exact ih2 _ _
      | exact LeO.none _
      | refine LeO.ite ?_ ?_
      | refine LeO.bind ?_ (fun _ => ?_)
    · intro y0 y1
      unfold stevedoreref4_Text.j1
      repeat' first
      | (with_reducible exact ih0 _ _)
      | (with_reducible exact ih1 _ _)
      | (with_reducible exact ih2 _ _)
      | (with_reducible exact LeO.refl _)
      | (with_reducible exact LeO.none _)
      | (with_reducible refine LeO.ite ?_ ?_)
      | (with_reducible refine LeO.bind ?_ (fun _ => ?_))
      | exact ih0 _ _
      | exact ih1 _ _
      | exact ih2 _ _
      | exact LeO.none _
      | refine LeO.ite ?_ ?_
      | refine LeO.bind ?_ (fun _ => ?_)
    · intro y0 y1
      unfold stevedoreref4_Text.l0
      repeat' first
      | (with_reducible exact ih0 _ _)
      | (with_reducible exact ih1 _ _)
      | (with_reducible exact ih2 _ _)
      | (with_reducible exact LeO.refl _)
      | (with_reducible exact LeO.none _)
      | (with_reducible refine LeO.ite ?_ ?_)
      | (with_reducible refine LeO.bind ?_ (fun _ => ?_))
      | exact ih0 _ _
      | exact ih1 _ _
      | exact ih2 _ _
      | exact LeO.none _
      | refine LeO.ite ?_ ?_
      | refine LeO.bind ?_ (fun _ => ?_)
theorem stevedoreref4_Text.mono : ∀ a0 k, LeO (stevedoreref4_Text.f k a0) (stevedoreref4_Text.f (k + 1) a0) := by
  intro a0 k
  obtain ⟨ih0, ih1, ih2⟩ := stevedoreref4_Text.mono_l k
  unfold stevedoreref4_Text.f
  repeat' first
      | (with_reducible exact ih0 _ _)
      | (with_reducible exact ih1 _ _)
      | (with_reducible exact ih2 _ _)
      | (with_reducible exact LeO.refl _)
      | (with_reducible exact LeO.none _)
      | (with_reducible refine LeO.ite ?_ ?_)
      | (with_reducible refine LeO.bind ?_ (fun _ => ?_))
      | exact ih0 _ _
      | exact ih1 _ _
      | exact ih2 _ _
      | exact LeO.none _
      | refine LeO.ite ?_ ?_
      | refine LeO.bind ?_ (fun _ => ?_)
set_option maxHeartbeats 8000000 in
set_option maxRecDepth 100000 in
theorem stevedoreref4_Text.calls (k : Nat) (a0 : Nat) (r : ByteArray) (w : World) (h : stevedoreref4_Text.f k a0 = some r) (hv : Vars w) :
    Calls Tryd.prog 38 #[.float .f64 a0] w fun e w' => e = .returned (.string r) ∧ Below w.heap.size w w' := by
  have HVARS := Aside0.mk hv
  have HB := Aside0.mk (Below.refl w.heap.size w)
  have H : ((stevedoreref4_Parts.f a0).bind fun t162 => (if t162 < 0 then (stevedoreref4_Text.j0 k (wrap64 (-t162)) (⟨#[45]⟩ : ByteArray)) else (stevedoreref4_Text.j0 k t162 (⟨#[]⟩ : ByteArray)))) = some r := h
  clear h
  replace H := Option.bind_eq_some_iff.mp H
  obtain ⟨t162, A20, H⟩ := H
  replace H : (if t162 < 0 then (stevedoreref4_Text.j0 k (wrap64 (-t162)) (⟨#[45]⟩ : ByteArray)) else (stevedoreref4_Text.j0 k t162 (⟨#[]⟩ : ByteArray))) = some r := H
  have A2 := Aside0.mk A20
  clear A20
  have HC3 := Aside0.mk H
  clear H
  go_enter Tryd.func38, Tryd.ntmps38
  go_upto_if 9 with (first | ((with_reducible refine gate_callee (f := 76) rfl ?_); refine goesL_ (some 7) rfl rfl Tryd.func76 (by kernel_rfl) rfl #[.float .f64 a0] rfl (by (try simp only [List.map_toArray, List.map_cons, List.map_nil]); first | done | rfl | (simp only [List.length_drop, List.length_take]; rfl)) ?_; (with_reducible refine (stevedoreref4_Parts.calls a0 t162 _ A2.out).mono ?_); rintro e w' ⟨rfl, ⟨nd, rfl⟩⟩; refine ⟨_, rfl, ?_⟩))
  (try simp only [Act.put, List.setIfInBounds_toArray, List.set_cons_zero, List.set_cons_succ])
  go_cut [3, 4] (fun v3 v4 wc => ∃ (kq : Nat) (x3_2 : Int) (x4_2 : ByteArray), v3 = .int .i64 x3_2 ∧ v4 = .string x4_2 ∧ Aside0 (stevedoreref4_Text.j0 kq x3_2 x4_2 = some r) ∧ Aside0 (kq ≤ k) ∧ Aside0 (Below w.heap.size w wc))
  case first =>
    have H := HC3.out
    clear HC3
    by_cases c4 : t162 < 0
    · rw [if_pos c4] at H
      have c4b0 : decide (t162 < 0) = true := decide_eq_true c4
      clear c4
      (first | rw [c4b0] | (simp only [i64_w, i32_w]; rw [c4b0]) | rw [c4b1] | skip)
      have H' := Aside0.mk H
      clear H
      go_wp2
      go_meet
      case rel => exact ⟨_, (wrap64 (-t162)), ((⟨#[45]⟩ : ByteArray)), (by first | rfl | (simp; done) | (simp [*]; done)), (by first | rfl | (simp; done) | (simp [*]; done)), H', ⟨by first | omega | exact Nat.le_refl _⟩, ⟨by repeat (first | (with_reducible first | exact HB.out | apply below_alloc | apply pw_below_drewN | apply below_drew1) | exact HB.out)⟩⟩
    · rw [if_neg c4] at H
      have c4b0 : decide (t162 < 0) = false := decide_eq_false c4
      clear c4
      (first | rw [c4b0] | (simp only [i64_w, i32_w]; rw [c4b0]) | rw [c4b1] | skip)
      have H' := Aside0.mk H
      clear H
      go_wp2
      go_meet
      case rel => exact ⟨_, (t162), ((⟨#[]⟩ : ByteArray)), (by first | rfl | (simp; done) | (simp [*]; done)), (by first | rfl | (simp; done) | (simp [*]; done)), H', ⟨by first | omega | exact Nat.le_refl _⟩, ⟨by repeat (first | (with_reducible first | exact HB.out | apply below_alloc | apply pw_below_drewN | apply below_drew1) | exact HB.out)⟩⟩
  case rest =>
    clear HC3
    try clear p2
    try clear c3
    try clear c4
    try clear c4b0
    obtain ⟨kq, x3_2, x4_2, rfl, rfl, HA, HJ2, HB⟩ := hcut
    cases kq with
    | zero => exact absurd HA.out (by simp [stevedoreref4_Text.j0])
    | succ kj2 =>
      have H := HA.out
      clear HA
      simp only [stevedoreref4_Text.j0] at H
      replace H := Option.bind_eq_some_iff.mp H
      obtain ⟨t163, A50, H⟩ := H
      replace H : (if x4_2.size + t163.size ≤ 9223372036854775807 then (if (Int.tmod x3_2 512) > 0 then (if (x4_2 ++ t163).size + 1 ≤ 9223372036854775807 then (stevedoreref4_Text.j1 kj2 ((x4_2 ++ t163) ++ (⟨#[46]⟩ : ByteArray)) (Int.tmod x3_2 512)) else (none)) else (stevedoreref4_Text.j1 kj2 (x4_2 ++ t163) (Int.tmod x3_2 512))) else (none)) = some r := H
      have A5 := Aside0.mk A50
      clear A50
      by_cases c6 : x4_2.size + t163.size ≤ 9223372036854775807
      · rw [if_pos c6] at H
        have c6b0 := eq_true c6
        have c6b1 : decide (x4_2.size + t163.size ≤ 9223372036854775807) = true := decide_eq_true c6
        try have c6b2 : (9223372036854775807 < x4_2.size + t163.size) = False := eq_false (Nat.not_lt.2 c6)
        have HC7 := Aside0.mk H
        clear H
        go_upto_if 20 with (first | ((with_reducible refine gate_callee (f := 71) rfl ?_); refine goesL_ (some 15) rfl rfl Tryd.func71 (by kernel_rfl) rfl #[.int .i64 (wrap64 (Int.tdiv x3_2 512))] rfl (by (try simp only [List.map_toArray, List.map_cons, List.map_nil]); first | done | rfl | (simp only [List.length_drop, List.length_take]; rfl)) ?_; (with_reducible refine (strconv_Itoa.calls (wrap64 (Int.tdiv x3_2 512)) t163 _ A5.out (Vars.below HVARS.out (by repeat (first | (with_reducible first | exact HB.out | apply below_alloc | apply pw_below_drewN | apply below_drew1 | refine below_set ?_ (Aside0.out (by assumption))) | exact HB.out)))).mono ?_); rintro e w8 ⟨rfl, hb⟩; refine ⟨_, rfl, ?_⟩; have n0_ := Aside0.mk (below_step (by repeat (first | (with_reducible first | exact HB.out | apply below_alloc | apply pw_below_drewN | apply below_drew1) | exact HB.out)) hb); clear HB; have HB := n0_; clear n0_; (try clear hb); (try clear hb2); (try clear hk); (try clear hi)))
        (try simp only [Act.put, List.setIfInBounds_toArray, List.set_cons_zero, List.set_cons_succ])
        go_cut [4] (fun v4 wc => ∃ (kq : Nat) (x4_6 : ByteArray), v4 = .string x4_6 ∧ Aside0 (stevedoreref4_Text.j1 kq x4_6 (Int.tmod x3_2 512) = some r) ∧ Aside0 (kq ≤ kj2) ∧ Aside0 (Below w.heap.size w wc))
        case first =>
          have H := HC7.out
          clear HC7
          by_cases c9 : (Int.tmod x3_2 512) > 0
          · rw [if_pos c9] at H
            have c9b0 : decide (0 < (Int.tmod x3_2 512)) = true := decide_eq_true c9
            clear c9
            (first | rw [c9b0] | (simp only [i64_w, i32_w]; rw [c9b0]) | rw [c9b1] | skip)
            by_cases c10 : (x4_2 ++ t163).size + 1 ≤ 9223372036854775807
            · rw [if_pos c10] at H
              have c10b0 := eq_true c10
              have c10b1 : decide ((x4_2 ++ t163).size + 1 ≤ 9223372036854775807) = true := decide_eq_true c10
              (try (have c10b1s := c10b1; simp only [ByteArray.size_append] at c10b1s))
              (try (have c10b1t := c10b1; simp only [ByteArray.size_append, Int.natCast_add, Int.cast_ofNat_Int] at c10b1t))
              try have c10b2 : (9223372036854775807 < (x4_2 ++ t163).size + 1) = False := eq_false (Nat.not_lt.2 c10)
              (try (have c10b2s := c10b2; simp only [ByteArray.size_append] at c10b2s))
              (try (have c10b2t := c10b2; simp only [ByteArray.size_append, Int.natCast_add, Int.cast_ofNat_Int] at c10b2t))
              have H' := Aside0.mk H
              clear H
              go_wp2
              go_meet
              case rel => exact ⟨_, ((x4_2 ++ t163) ++ (⟨#[46]⟩ : ByteArray)), (by first | rfl | (simp; done) | (simp [*]; done)), H', ⟨by have := HJ2.out; first | omega | exact Nat.le_refl _⟩, ⟨by repeat (first | (with_reducible first | exact HB.out | apply below_alloc | apply pw_below_drewN | apply below_drew1) | exact HB.out)⟩⟩
            · rw [if_neg c10] at H
              exact absurd H (by simp)
          · rw [if_neg c9] at H
            have c9b0 : decide (0 < (Int.tmod x3_2 512)) = false := decide_eq_false c9
            clear c9
            (first | rw [c9b0] | (simp only [i64_w, i32_w]; rw [c9b0]) | rw [c9b1] | skip)
            have H' := Aside0.mk H
            clear H
            go_wp2
            go_meet
            case rel => exact ⟨_, (x4_2 ++ t163), (by first | rfl | (simp; done) | (simp [*]; done)), H', ⟨by have := HJ2.out; first | omega | exact Nat.le_refl _⟩, ⟨by repeat (first | (with_reducible first | exact HB.out | apply below_alloc | apply pw_below_drewN | apply below_drew1) | exact HB.out)⟩⟩
        case rest =>
          clear HC7
          try clear c1
          try clear p2
          try clear c3
          try clear c4
          try clear c4b0
          try clear c6
          try clear c6b0
          try clear c6b1
          try clear c6b2
          try clear p6
          try clear c7
          try clear c9
          try clear c9b0
          try clear c10
          try clear c10b0
          try clear c10b1
          try clear c10b2
          try clear p2
          obtain ⟨kq, x4_6, rfl, HA, HJ6, HB⟩ := hcut
          cases kq with
          | zero => exact absurd HA.out (by simp [stevedoreref4_Text.j1])
          | succ kj6 =>
            have H := HA.out
            clear HA
            simp only [stevedoreref4_Text.j1] at H
            have H' := Aside0.mk H
            clear H
            go_wp2
            go_loopg [4, 5] kj6 (fun kq v4 v5 w' => ∃ (x4_3 : ByteArray) (x5_3 : Int), v4 = .string x4_3 ∧ v5 = .int .i64 x5_3 ∧ Aside0 (stevedoreref4_Text.l0 kq x4_3 x5_3 = some r) ∧ Aside0 (kq ≤ kj6) ∧ Aside0 (Below w.heap.size w w'))
            case atStart => exact ⟨(x4_6), ((Int.tmod x3_2 512)), (by first | rfl | (simp; done) | (simp [*]; done)), (by first | rfl | (simp; done) | (simp [*]; done)), H', ⟨Nat.le_refl _⟩, ⟨by repeat (first | (with_reducible first | exact HB.out | apply below_alloc | apply pw_below_drewN | apply below_drew1) | exact HB.out)⟩⟩
            case round =>
              clear H'
              try clear c1
              try clear p2
              try clear c3
              try clear c4
              try clear c4b0
              try clear c6
              try clear c6b0
              try clear c6b1
              try clear c6b2
              try clear p6
              try clear c7
              try clear c9
              try clear c9b0
              try clear c10
              try clear c10b0
              try clear c10b1
              try clear c10b2
              try clear p2
              try clear p6
              obtain ⟨x4_3, x5_3, rfl, rfl, HA, HK3, HB⟩ := hrel
              cases gk with
              | zero => exact absurd HA.out (by simp [stevedoreref4_Text.l0])
              | succ k3 =>
                have H := HA.out
                clear HA
                simp only [stevedoreref4_Text.l0] at H
                by_cases c11 : x5_3 > 0
                · rw [if_pos c11] at H
                  have c11b0 : decide (0 < x5_3) = true := decide_eq_true c11
                  clear c11
                  replace H := Option.bind_eq_some_iff.mp H
                  obtain ⟨t164, A120, H⟩ := H
                  replace H : (if x4_3.size + t164.size ≤ 9223372036854775807 then (stevedoreref4_Text.l0 k3 (x4_3 ++ t164) (Int.tmod (wrap64 (x5_3 * 10)) 512)) else (none)) = some r := H
                  have A12 := Aside0.mk A120
                  clear A120
                  by_cases c13 : x4_3.size + t164.size ≤ 9223372036854775807
                  · rw [if_pos c13] at H
                    have c13b0 := eq_true c13
                    have c13b1 : decide (x4_3.size + t164.size ≤ 9223372036854775807) = true := decide_eq_true c13
                    try have c13b2 : (9223372036854775807 < x4_3.size + t164.size) = False := eq_false (Nat.not_lt.2 c13)
                    have H' := Aside0.mk H
                    clear H
                    go_wp2_with (first | ((with_reducible refine gate_callee (f := 71) rfl ?_); refine goesL_ (some 30) rfl rfl Tryd.func71 (by kernel_rfl) rfl #[.int .i64 (wrap64 (Int.tdiv (wrap64 (x5_3 * 10)) 512))] rfl (by (try simp only [List.map_toArray, List.map_cons, List.map_nil]); first | done | rfl | (simp only [List.length_drop, List.length_take]; rfl)) ?_; (with_reducible refine (strconv_Itoa.calls (wrap64 (Int.tdiv (wrap64 (x5_3 * 10)) 512)) t164 _ A12.out (Vars.below HVARS.out (by repeat (first | (with_reducible first | exact HB.out | apply below_alloc | apply pw_below_drewN | apply below_drew1 | refine below_set ?_ (Aside0.out (by assumption))) | exact HB.out)))).mono ?_); rintro e w14 ⟨rfl, hb⟩; refine ⟨_, rfl, ?_⟩; have n0_ := Aside0.mk (below_step (by repeat (first | (with_reducible first | exact HB.out | apply below_alloc | apply pw_below_drewN | apply below_drew1) | exact HB.out)) hb); clear HB; have HB := n0_; clear n0_; (try clear hb); (try clear hb2); (try clear hk); (try clear hi)))
                    go_roundg k3
                    case measure => have := HJ2.out; have := HJ6.out; have := HK3.out; omega
                    case rel => exact ⟨(x4_3 ++ t164), (Int.tmod (wrap64 (x5_3 * 10)) 512), (by first | rfl | (simp; done) | (simp [*]; done)), (by first | rfl | (simp; done) | (simp [*]; done)), H', ⟨by have := HJ2.out; have := HJ6.out; have := HK3.out; omega⟩, ⟨by repeat (first | (with_reducible first | exact HB.out | apply below_alloc | apply pw_below_drewN | apply below_drew1) | exact HB.out)⟩⟩
                  · rw [if_neg c13] at H
                    exact absurd H (by simp)
                · rw [if_neg c11] at H
                  have c11b0 : decide (0 < x5_3) = false := decide_eq_false c11
                  clear c11
                  obtain rfl := Option.some.inj H
                  go_wp2
                  go_ret
                  exact ⟨by first | rfl | (simp only [show ∀ l : List UInt8, (l != []) = (!l.isEmpty) from fun l => by cases l <;> rfl]; rfl) | (simp [errW_none, errW_some] <;> rfl) | (simp [*, errW_none, errW_some] <;> rfl), by repeat (first | (with_reducible first | exact HB.out | apply below_alloc | apply pw_below_drewN | apply below_drew1) | exact HB.out)⟩
      · rw [if_neg c6] at H
        exact absurd H (by simp)

/-! ### stevedorelaw4_same: function 34 -/
def stevedorelaw4_same.f (a0 : Nat) (a1 : Nat) : Option (Bool) := if (FloatKind.f64.format.order a0 a0 != some .eq) = true then (if (FloatKind.f64.format.order a1 a1 != some .eq) = true then (some true) else (if (FloatKind.f64.format.order a0 a1 == some .eq) = true then (if (FloatKind.f64.format.order a0 0 != some .eq) = true then (some true) else (if (fvalid .quo 4607182418800017408 a0) = true then (if (fvalid .quo 4607182418800017408 a1) = true then (some (FloatKind.f64.format.order (fop .quo 4607182418800017408 a0) (fop .quo 4607182418800017408 a1) == some .eq)) else (none)) else (none))) else (some false))) else (if (FloatKind.f64.format.order a0 a1 == some .eq) = true then (if (FloatKind.f64.format.order a0 0 != some .eq) = true then (some true) else (if (fvalid .quo 4607182418800017408 a0) = true then (if (fvalid .quo 4607182418800017408 a1) = true then (some (FloatKind.f64.format.order (fop .quo 4607182418800017408 a0) (fop .quo 4607182418800017408 a1) == some .eq)) else (none)) else (none))) else (some false))
set_option maxHeartbeats 8000000 in
set_option maxRecDepth 100000 in
theorem stevedorelaw4_same.calls (a0 : Nat) (a1 : Nat) (r : Bool) (w : World) (h : stevedorelaw4_same.f a0 a1 = some r) :
    Calls Tryd.prog 34 #[.float .f64 a0, .float .f64 a1] w fun e w' => e = .returned (.bool r) ∧ Drawn0 w w' := by
  have H : (if (FloatKind.f64.format.order a0 a0 != some .eq) = true then (if (FloatKind.f64.format.order a1 a1 != some .eq) = true then (some true) else (if (FloatKind.f64.format.order a0 a1 == some .eq) = true then (if (FloatKind.f64.format.order a0 0 != some .eq) = true then (some true) else (if (fvalid .quo 4607182418800017408 a0) = true then (if (fvalid .quo 4607182418800017408 a1) = true then (some (FloatKind.f64.format.order (fop .quo 4607182418800017408 a0) (fop .quo 4607182418800017408 a1) == some .eq)) else (none)) else (none))) else (some false))) else (if (FloatKind.f64.format.order a0 a1 == some .eq) = true then (if (FloatKind.f64.format.order a0 0 != some .eq) = true then (some true) else (if (fvalid .quo 4607182418800017408 a0) = true then (if (fvalid .quo 4607182418800017408 a1) = true then (some (FloatKind.f64.format.order (fop .quo 4607182418800017408 a0) (fop .quo 4607182418800017408 a1) == some .eq)) else (none)) else (none))) else (some false))) = some r := h
  clear h
  by_cases c3 : (FloatKind.f64.format.order a0 a0 != some .eq) = true
  · rw [if_pos c3] at H
    have c3b0 : (FloatKind.f64.format.order a0 a0 != some .eq) = true := c3
    (try (have c3b1 : decide (FloatKind.f64.format.order a0 a0 = some .eq) = false := by simpa using c3))
    (try (have c3b2 : (FloatKind.f64.format.order a0 a0 == some .eq) = false := by simpa using c3))
    (try (have c3b3 : ¬ (FloatKind.f64.format.order a0 a0 = some .eq) := by simpa using c3))
    clear c3
    by_cases c4 : (FloatKind.f64.format.order a1 a1 != some .eq) = true
    · rw [if_pos c4] at H
      have c4b0 : (FloatKind.f64.format.order a1 a1 != some .eq) = true := c4
      (try (have c4b1 : decide (FloatKind.f64.format.order a1 a1 = some .eq) = false := by simpa using c4))
      (try (have c4b2 : (FloatKind.f64.format.order a1 a1 == some .eq) = false := by simpa using c4))
      (try (have c4b3 : ¬ (FloatKind.f64.format.order a1 a1 = some .eq) := by simpa using c4))
      clear c4
      obtain rfl := Option.some.inj H
      go_enter Tryd.func34, Tryd.ntmps34
      go_wp2
      go_ret
      exact ⟨by first | rfl | (simp only [show ∀ l : List UInt8, (l != []) = (!l.isEmpty) from fun l => by cases l <;> rfl]; rfl) | (simp; done) | (simp [*]; done), by repeat (first | exact Drawn0.refl _ | apply Drawn0.step)⟩
    · rw [if_neg c4] at H
      have c4b0 : (FloatKind.f64.format.order a1 a1 != some .eq) = false := by simpa using c4
      (try (have c4b1 : decide (FloatKind.f64.format.order a1 a1 = some .eq) = true := by simpa using c4))
      (try (have c4b2 : (FloatKind.f64.format.order a1 a1 == some .eq) = true := by simpa using c4))
      clear c4
      by_cases c5 : (FloatKind.f64.format.order a0 a1 == some .eq) = true
      · rw [if_pos c5] at H
        have c5b0 : (FloatKind.f64.format.order a0 a1 == some .eq) = true := c5
        (try (have c5b1 : decide (FloatKind.f64.format.order a0 a1 = some .eq) = true := by simpa using c5))
        (try (have c5b2 : (FloatKind.f64.format.order a0 a1 == some .eq) = true := by simpa using c5))
        clear c5
        by_cases c6 : (FloatKind.f64.format.order a0 0 != some .eq) = true
        · rw [if_pos c6] at H
          have c6b0 : (FloatKind.f64.format.order a0 0 != some .eq) = true := c6
          (try (have c6b1 : decide (FloatKind.f64.format.order a0 0 = some .eq) = false := by simpa using c6))
          (try (have c6b2 : (FloatKind.f64.format.order a0 0 == some .eq) = false := by simpa using c6))
          (try (have c6b3 : ¬ (FloatKind.f64.format.order a0 0 = some .eq) := by simpa using c6))
          clear c6
          obtain rfl := Option.some.inj H
          go_enter Tryd.func34, Tryd.ntmps34
          go_wp2
          go_ret
          exact ⟨by first | rfl | (simp only [show ∀ l : List UInt8, (l != []) = (!l.isEmpty) from fun l => by cases l <;> rfl]; rfl) | (simp; done) | (simp [*]; done), by repeat (first | exact Drawn0.refl _ | apply Drawn0.step)⟩
        · rw [if_neg c6] at H
          have c6b0 : (FloatKind.f64.format.order a0 0 != some .eq) = false := by simpa using c6
          (try (have c6b1 : decide (FloatKind.f64.format.order a0 0 = some .eq) = true := by simpa using c6))
          (try (have c6b2 : (FloatKind.f64.format.order a0 0 == some .eq) = true := by simpa using c6))
          clear c6
          by_cases c7 : (fvalid .quo 4607182418800017408 a0) = true
          · rw [if_pos c7] at H
            have c7b0 := eq_true c7
            have c7b1 : decide ((fvalid .quo 4607182418800017408 a0) = true) = true := decide_eq_true c7
            clear c7
            by_cases c8 : (fvalid .quo 4607182418800017408 a1) = true
            · rw [if_pos c8] at H
              have c8b0 := eq_true c8
              have c8b1 : decide ((fvalid .quo 4607182418800017408 a1) = true) = true := decide_eq_true c8
              clear c8
              obtain rfl := Option.some.inj H
              go_enter Tryd.func34, Tryd.ntmps34
              go_wp2
              go_ret
              exact ⟨by first | rfl | (simp only [show ∀ l : List UInt8, (l != []) = (!l.isEmpty) from fun l => by cases l <;> rfl]; rfl) | (simp; done) | (simp [*]; done), by repeat (first | exact Drawn0.refl _ | apply Drawn0.step)⟩
            · rw [if_neg c8] at H
              exact absurd H (by simp)
          · rw [if_neg c7] at H
            exact absurd H (by simp)
      · rw [if_neg c5] at H
        have c5b0 : (FloatKind.f64.format.order a0 a1 == some .eq) = false := by simpa using c5
        (try (have c5b1 : decide (FloatKind.f64.format.order a0 a1 = some .eq) = false := by simpa using c5))
        (try (have c5b2 : (FloatKind.f64.format.order a0 a1 == some .eq) = false := by simpa using c5))
        (try (have c5b3 : ¬ (FloatKind.f64.format.order a0 a1 = some .eq) := by simpa using c5))
        clear c5
        obtain rfl := Option.some.inj H
        go_enter Tryd.func34, Tryd.ntmps34
        go_wp2
        go_ret
        exact ⟨by first | rfl | (simp only [show ∀ l : List UInt8, (l != []) = (!l.isEmpty) from fun l => by cases l <;> rfl]; rfl) | (simp; done) | (simp [*]; done), by repeat (first | exact Drawn0.refl _ | apply Drawn0.step)⟩
  · rw [if_neg c3] at H
    have c3b0 : (FloatKind.f64.format.order a0 a0 != some .eq) = false := by simpa using c3
    (try (have c3b1 : decide (FloatKind.f64.format.order a0 a0 = some .eq) = true := by simpa using c3))
    (try (have c3b2 : (FloatKind.f64.format.order a0 a0 == some .eq) = true := by simpa using c3))
    clear c3
    by_cases c9 : (FloatKind.f64.format.order a0 a1 == some .eq) = true
    · rw [if_pos c9] at H
      have c9b0 : (FloatKind.f64.format.order a0 a1 == some .eq) = true := c9
      (try (have c9b1 : decide (FloatKind.f64.format.order a0 a1 = some .eq) = true := by simpa using c9))
      (try (have c9b2 : (FloatKind.f64.format.order a0 a1 == some .eq) = true := by simpa using c9))
      clear c9
      by_cases c10 : (FloatKind.f64.format.order a0 0 != some .eq) = true
      · rw [if_pos c10] at H
        have c10b0 : (FloatKind.f64.format.order a0 0 != some .eq) = true := c10
        (try (have c10b1 : decide (FloatKind.f64.format.order a0 0 = some .eq) = false := by simpa using c10))
        (try (have c10b2 : (FloatKind.f64.format.order a0 0 == some .eq) = false := by simpa using c10))
        (try (have c10b3 : ¬ (FloatKind.f64.format.order a0 0 = some .eq) := by simpa using c10))
        clear c10
        obtain rfl := Option.some.inj H
        go_enter Tryd.func34, Tryd.ntmps34
        go_wp2
        go_ret
        exact ⟨by first | rfl | (simp only [show ∀ l : List UInt8, (l != []) = (!l.isEmpty) from fun l => by cases l <;> rfl]; rfl) | (simp; done) | (simp [*]; done), by repeat (first | exact Drawn0.refl _ | apply Drawn0.step)⟩
      · rw [if_neg c10] at H
        have c10b0 : (FloatKind.f64.format.order a0 0 != some .eq) = false := by simpa using c10
        (try (have c10b1 : decide (FloatKind.f64.format.order a0 0 = some .eq) = true := by simpa using c10))
        (try (have c10b2 : (FloatKind.f64.format.order a0 0 == some .eq) = true := by simpa using c10))
        clear c10
        by_cases c11 : (fvalid .quo 4607182418800017408 a0) = true
        · rw [if_pos c11] at H
          have c11b0 := eq_true c11
          have c11b1 : decide ((fvalid .quo 4607182418800017408 a0) = true) = true := decide_eq_true c11
          clear c11
          by_cases c12 : (fvalid .quo 4607182418800017408 a1) = true
          · rw [if_pos c12] at H
            have c12b0 := eq_true c12
            have c12b1 : decide ((fvalid .quo 4607182418800017408 a1) = true) = true := decide_eq_true c12
            clear c12
            obtain rfl := Option.some.inj H
            go_enter Tryd.func34, Tryd.ntmps34
            go_wp2
            go_ret
            exact ⟨by first | rfl | (simp only [show ∀ l : List UInt8, (l != []) = (!l.isEmpty) from fun l => by cases l <;> rfl]; rfl) | (simp; done) | (simp [*]; done), by repeat (first | exact Drawn0.refl _ | apply Drawn0.step)⟩
          · rw [if_neg c12] at H
            exact absurd H (by simp)
        · rw [if_neg c11] at H
          exact absurd H (by simp)
    · rw [if_neg c9] at H
      have c9b0 : (FloatKind.f64.format.order a0 a1 == some .eq) = false := by simpa using c9
      (try (have c9b1 : decide (FloatKind.f64.format.order a0 a1 = some .eq) = false := by simpa using c9))
      (try (have c9b2 : (FloatKind.f64.format.order a0 a1 == some .eq) = false := by simpa using c9))
      (try (have c9b3 : ¬ (FloatKind.f64.format.order a0 a1 = some .eq) := by simpa using c9))
      clear c9
      obtain rfl := Option.some.inj H
      go_enter Tryd.func34, Tryd.ntmps34
      go_wp2
      go_ret
      exact ⟨by first | rfl | (simp only [show ∀ l : List UInt8, (l != []) = (!l.isEmpty) from fun l => by cases l <;> rfl]; rfl) | (simp; done) | (simp [*]; done), by repeat (first | exact Drawn0.refl _ | apply Drawn0.step)⟩

/-! ### stevedoreref4_leap: function 79 -/
def stevedoreref4_leap.f (a0 : Int) : Option (Bool) := if (Int.tmod a0 4) = 0 then (if (Int.tmod a0 100) = 0 then (some ((Int.tmod a0 400) == 0)) else (some true)) else (some false)
set_option maxHeartbeats 8000000 in
set_option maxRecDepth 100000 in
theorem stevedoreref4_leap.calls (a0 : Int) (r : Bool) (w : World) (h : stevedoreref4_leap.f a0 = some r) :
    Calls Tryd.prog 79 #[.int .i64 a0] w fun e w' => e = .returned (.bool r) ∧ Drawn0 w w' := by
  have H : (if (Int.tmod a0 4) = 0 then (if (Int.tmod a0 100) = 0 then (some ((Int.tmod a0 400) == 0)) else (some true)) else (some false)) = some r := h
  clear h
  by_cases c2 : (Int.tmod a0 4) = 0
  · rw [if_pos c2] at H
    have c2b0 : ((Int.tmod a0 4) == 0) = true := beq_iff_eq.mpr c2
    have c2b1 : ((Int.tmod a0 4) != 0) = false := bne_eq_false_iff_eq.mpr c2
    clear c2
    by_cases c3 : (Int.tmod a0 100) = 0
    · rw [if_pos c3] at H
      have c3b0 : ((Int.tmod a0 100) == 0) = true := beq_iff_eq.mpr c3
      have c3b1 : ((Int.tmod a0 100) != 0) = false := bne_eq_false_iff_eq.mpr c3
      clear c3
      obtain rfl := Option.some.inj H
      go_enter Tryd.func79, Tryd.ntmps79
      go_wp2
      go_ret
      exact ⟨by first | rfl | (simp only [show ∀ l : List UInt8, (l != []) = (!l.isEmpty) from fun l => by cases l <;> rfl]; rfl) | (simp; done) | (simp [*]; done), by repeat (first | exact Drawn0.refl _ | apply Drawn0.step)⟩
    · rw [if_neg c3] at H
      have c3b0 : ((Int.tmod a0 100) == 0) = false := beq_eq_false_iff_ne.mpr c3
      have c3b1 : ((Int.tmod a0 100) != 0) = true := bne_iff_ne.mpr c3
      obtain rfl := Option.some.inj H
      go_enter Tryd.func79, Tryd.ntmps79
      go_wp2
      go_ret
      exact ⟨by first | rfl | (simp only [show ∀ l : List UInt8, (l != []) = (!l.isEmpty) from fun l => by cases l <;> rfl]; rfl) | (simp; done) | (simp [*]; done), by repeat (first | exact Drawn0.refl _ | apply Drawn0.step)⟩
  · rw [if_neg c2] at H
    have c2b0 : ((Int.tmod a0 4) == 0) = false := beq_eq_false_iff_ne.mpr c2
    have c2b1 : ((Int.tmod a0 4) != 0) = true := bne_iff_ne.mpr c2
    obtain rfl := Option.some.inj H
    go_enter Tryd.func79, Tryd.ntmps79
    go_wp2
    go_ret
    exact ⟨by first | rfl | (simp only [show ∀ l : List UInt8, (l != []) = (!l.isEmpty) from fun l => by cases l <;> rfl]; rfl) | (simp; done) | (simp [*]; done), by repeat (first | exact Drawn0.refl _ | apply Drawn0.step)⟩

/-! ### stevedoreref4_Month: function 42 -/
def stevedoreref4_Month.f (a0 : Int) (a1 : Int) : Option (Int) := (some (([31, 28, 31, 30, 31, 30, 31, 31, 30, 31, 30, 31] : List Int) : List Int)).bind fun y165 => (if 0 ≤ (wrap64 (a1 - 1)) then (if (wrap64 (a1 - 1)) < (y165.length : Int) then (if a1 = 2 then ((stevedoreref4_leap.f a0).bind fun t169 => (if t169 = true then (some (wrap64 ((rd y165 (wrap64 (a1 - 1))) + 1))) else (some (rd y165 (wrap64 (a1 - 1)))))) else (some (rd y165 (wrap64 (a1 - 1))))) else (none)) else (none))
set_option maxHeartbeats 8000000 in
set_option maxRecDepth 100000 in
theorem stevedoreref4_Month.calls (a0 : Int) (a1 : Int) (r : Int) (w : World) (h : stevedoreref4_Month.f a0 a1 = some r) :
    Calls Tryd.prog 42 #[.int .i64 a0, .int .i64 a1] w fun e w' => e = .returned (.int .i64 r) ∧ Below w.heap.size w w' := by
  have HB := Aside0.mk (Below.refl w.heap.size w)
  have H : ((some (([31, 28, 31, 30, 31, 30, 31, 31, 30, 31, 30, 31] : List Int) : List Int)).bind fun y165 => (if 0 ≤ (wrap64 (a1 - 1)) then (if (wrap64 (a1 - 1)) < (y165.length : Int) then (if a1 = 2 then ((stevedoreref4_leap.f a0).bind fun t169 => (if t169 = true then (some (wrap64 ((rd y165 (wrap64 (a1 - 1))) + 1))) else (some (rd y165 (wrap64 (a1 - 1)))))) else (some (rd y165 (wrap64 (a1 - 1))))) else (none)) else (none))) = some r := h
  clear h
  obtain ⟨y165, hy165⟩ : ∃ y_ : List Int, y_ = (([31, 28, 31, 30, 31, 30, 31, 31, 30, 31, 30, 31] : List Int)) := ⟨_, rfl⟩
  replace H : (if 0 ≤ (wrap64 (a1 - 1)) then (if (wrap64 (a1 - 1)) < (y165.length : Int) then (if a1 = 2 then ((stevedoreref4_leap.f a0).bind fun t169 => (if t169 = true then (some (wrap64 ((rd y165 (wrap64 (a1 - 1))) + 1))) else (some (rd y165 (wrap64 (a1 - 1)))))) else (some (rd y165 (wrap64 (a1 - 1))))) else (none)) else (none)) = some r := by first | (rw [hy165]; with_reducible exact H) | (have H2_ := (Option.bind_some _ _).symm.trans H; rw [hy165]; with_reducible exact H2_) | (have H2_ := (Option.bind_some _ _).symm.trans H; with_reducible exact H2_) | with_reducible exact H | (rw [hy165]; exact H) | exact H
  have Ny165 := Aside0.mk hy165
  clear hy165
  obtain ⟨ji3, hji3⟩ : ∃ j_ : Int, (wrap64 (a1 - 1)) = j_ := ⟨_, rfl⟩
  replace H : (if 0 ≤ (ji3) then (if (ji3) < (y165.length : Int) then (if a1 = 2 then ((stevedoreref4_leap.f a0).bind fun t169 => (if t169 = true then (some (wrap64 ((rd y165 (ji3)) + 1))) else (some (rd y165 (ji3))))) else (some (rd y165 (ji3)))) else (none)) else (none)) = some r := by first | (rw [hji3] at H; exact H) | (simp only [hji3] at H ⊢; exact H)
  have hji3w : (IntKind.i64.wrap (a1 - 1)) = ji3 := (i64_w _).trans hji3
  by_cases c4 : 0 ≤ (ji3)
  · rw [if_pos c4] at H
    have c4b0 : decide (0 ≤ (ji3)) = true := decide_eq_true c4
    clear c4
    by_cases c5 : (ji3) < (y165.length : Int)
    · rw [if_pos c5] at H
      have c5b0 : decide ((ji3) < (y165.length : Int)) = true := decide_eq_true c5
      clear c5
      by_cases c6 : a1 = 2
      · rw [if_pos c6] at H
        have c6b0 : (a1 == 2) = true := beq_iff_eq.mpr c6
        have c6b1 : (a1 != 2) = false := bne_eq_false_iff_eq.mpr c6
        clear c6
        replace H := Option.bind_eq_some_iff.mp H
        obtain ⟨t169, A70, H⟩ := H
        replace H : (if t169 = true then (some (wrap64 ((rd y165 (ji3)) + 1))) else (some (rd y165 (ji3)))) = some r := H
        have A7 := Aside0.mk A70
        clear A70
        by_cases c8 : t169 = true
        · subst c8
          have H1 : (some (wrap64 ((rd y165 (ji3)) + 1))) = some r := by rw [if_pos rfl] at H; exact H
          clear H
          have H := H1
          clear H1
          obtain rfl := Option.some.inj H
          go_enter Tryd.func42, Tryd.ntmps42
          go_wp2_with (first | ((with_reducible refine gate_dst (N := 6) rfl ?_); refine Kd.R_lit (Kd.int .i64) _ 3 ?hg (N := 6) ?hd (xs := ([31, 28, 31, 30, 31, 30, 31, 31, 30, 31, 30, 31] : List Int)) (inner := [.int .i64 31, .int .i64 28, .int .i64 31, .int .i64 30, .int .i64 31, .int .i64 30, .int .i64 31, .int .i64 31, .int .i64 30, .int .i64 31, .int .i64 30, .int .i64 31]) (ok := fun _ => True) (okp := fun _ => True) ?hr ?hp (fun _ hk => hk) trivial (Below.refl _ _) (Nat.le_refl _) (by simp) ?_; (case hd => rfl); (case hg => rfl); (case hr => first | (go_simp; done) | (go_simp; rfl)); (case hp => exact (Reps.one (show Kd.M (Kd.int .i64) _ _ _ 31 [.int .i64 31] from rfl) (Reps.one (show Kd.M (Kd.int .i64) _ _ _ 28 [.int .i64 28] from rfl) (Reps.one (show Kd.M (Kd.int .i64) _ _ _ 31 [.int .i64 31] from rfl) (Reps.one (show Kd.M (Kd.int .i64) _ _ _ 30 [.int .i64 30] from rfl) (Reps.one (show Kd.M (Kd.int .i64) _ _ _ 31 [.int .i64 31] from rfl) (Reps.one (show Kd.M (Kd.int .i64) _ _ _ 30 [.int .i64 30] from rfl) (Reps.one (show Kd.M (Kd.int .i64) _ _ _ 31 [.int .i64 31] from rfl) (Reps.one (show Kd.M (Kd.int .i64) _ _ _ 31 [.int .i64 31] from rfl) (Reps.one (show Kd.M (Kd.int .i64) _ _ _ 30 [.int .i64 30] from rfl) (Reps.one (show Kd.M (Kd.int .i64) _ _ _ 31 [.int .i64 31] from rfl) (Reps.one (show Kd.M (Kd.int .i64) _ _ _ 30 [.int .i64 30] from rfl) (Reps.one (show Kd.M (Kd.int .i64) _ _ _ 31 [.int .i64 31] from rfl) (Reps.none _ _)))))))))))))); intro v166 w9 ho10 hb hg_ hnew_; clear hg_ hnew_; (first | rw [← Ny165.out] at ho10 | (simp only [Int.reduceToNat] at ho10; rw [← Ny165.out] at ho10)); have n0_ := Aside0.mk (Kd.R_lower ho10 (below_size (by repeat (first | (with_reducible first | exact HB.out | apply below_alloc | apply pw_below_drewN | apply below_drew1) | exact HB.out)))); have n1_ := Aside0.mk (below_step (by repeat (first | (with_reducible first | exact HB.out | apply below_alloc | apply pw_below_drewN | apply below_drew1) | exact HB.out)) hb); clear HB; have HO167 := n0_; have HB := n1_; clear n0_ n1_; clear hb ho10; obtain ⟨Ao11, co11, eo11⟩ := Kd.R_slice HO167.out; subst eo11; have p168 : 0 ≤ ((ji3) : Int) := of_decide_eq_true (by first | (with_reducible assumption) | assumption); have q168 : (ji3) < (y165.length : Int) := of_decide_eq_true (by first | (with_reducible assumption) | assumption); obtain ⟨ad168, e168, hx168_0⟩ := Kd.at_int (Kd.R_reads' HO167.out).2.2 (ji3) p168 q168; cases e168; replace p168 := eq_true p168; replace q168 := eq_true q168) | (go_at_call 79; (with_reducible refine (stevedoreref4_leap.calls a0 true _ A7.out).mono ?_); rintro e w' ⟨rfl, ⟨nd, rfl⟩⟩))
          go_ret
          exact ⟨by first | rfl | (simp only [show ∀ l : List UInt8, (l != []) = (!l.isEmpty) from fun l => by cases l <;> rfl]; rfl) | (simp [errW_none, errW_some] <;> rfl) | (simp only [← hji3]; first | rfl | (simp [errW_none, errW_some] <;> rfl)) | (simp [*, errW_none, errW_some] <;> rfl), by repeat (first | (with_reducible first | exact HB.out | apply below_alloc | apply pw_below_drewN | apply below_drew1) | exact HB.out)⟩
        · replace c8 := Bool.eq_false_iff.mpr c8
          subst c8
          have H1 : (some (rd y165 (ji3))) = some r := by rw [if_neg (show ¬ (false = true) by decide)] at H; exact H
          clear H
          have H := H1
          clear H1
          obtain rfl := Option.some.inj H
          go_enter Tryd.func42, Tryd.ntmps42
          go_wp2_with (first | ((with_reducible refine gate_dst (N := 6) rfl ?_); refine Kd.R_lit (Kd.int .i64) _ 3 ?hg (N := 6) ?hd (xs := ([31, 28, 31, 30, 31, 30, 31, 31, 30, 31, 30, 31] : List Int)) (inner := [.int .i64 31, .int .i64 28, .int .i64 31, .int .i64 30, .int .i64 31, .int .i64 30, .int .i64 31, .int .i64 31, .int .i64 30, .int .i64 31, .int .i64 30, .int .i64 31]) (ok := fun _ => True) (okp := fun _ => True) ?hr ?hp (fun _ hk => hk) trivial (Below.refl _ _) (Nat.le_refl _) (by simp) ?_; (case hd => rfl); (case hg => rfl); (case hr => first | (go_simp; done) | (go_simp; rfl)); (case hp => exact (Reps.one (show Kd.M (Kd.int .i64) _ _ _ 31 [.int .i64 31] from rfl) (Reps.one (show Kd.M (Kd.int .i64) _ _ _ 28 [.int .i64 28] from rfl) (Reps.one (show Kd.M (Kd.int .i64) _ _ _ 31 [.int .i64 31] from rfl) (Reps.one (show Kd.M (Kd.int .i64) _ _ _ 30 [.int .i64 30] from rfl) (Reps.one (show Kd.M (Kd.int .i64) _ _ _ 31 [.int .i64 31] from rfl) (Reps.one (show Kd.M (Kd.int .i64) _ _ _ 30 [.int .i64 30] from rfl) (Reps.one (show Kd.M (Kd.int .i64) _ _ _ 31 [.int .i64 31] from rfl) (Reps.one (show Kd.M (Kd.int .i64) _ _ _ 31 [.int .i64 31] from rfl) (Reps.one (show Kd.M (Kd.int .i64) _ _ _ 30 [.int .i64 30] from rfl) (Reps.one (show Kd.M (Kd.int .i64) _ _ _ 31 [.int .i64 31] from rfl) (Reps.one (show Kd.M (Kd.int .i64) _ _ _ 30 [.int .i64 30] from rfl) (Reps.one (show Kd.M (Kd.int .i64) _ _ _ 31 [.int .i64 31] from rfl) (Reps.none _ _)))))))))))))); intro v166 w12 ho13 hb hg_ hnew_; clear hg_ hnew_; (first | rw [← Ny165.out] at ho13 | (simp only [Int.reduceToNat] at ho13; rw [← Ny165.out] at ho13)); have n0_ := Aside0.mk (Kd.R_lower ho13 (below_size (by repeat (first | (with_reducible first | exact HB.out | apply below_alloc | apply pw_below_drewN | apply below_drew1) | exact HB.out)))); have n1_ := Aside0.mk (below_step (by repeat (first | (with_reducible first | exact HB.out | apply below_alloc | apply pw_below_drewN | apply below_drew1) | exact HB.out)) hb); clear HB; have HO167 := n0_; have HB := n1_; clear n0_ n1_; clear hb ho13; obtain ⟨Ao14, co14, eo14⟩ := Kd.R_slice HO167.out; subst eo14; have p168 : 0 ≤ ((ji3) : Int) := of_decide_eq_true (by first | (with_reducible assumption) | assumption); have q168 : (ji3) < (y165.length : Int) := of_decide_eq_true (by first | (with_reducible assumption) | assumption); obtain ⟨ad168, e168, hx168_0⟩ := Kd.at_int (Kd.R_reads' HO167.out).2.2 (ji3) p168 q168; cases e168; replace p168 := eq_true p168; replace q168 := eq_true q168) | (go_at_call 79; (with_reducible refine (stevedoreref4_leap.calls a0 false _ A7.out).mono ?_); rintro e w' ⟨rfl, ⟨nd, rfl⟩⟩))
          go_ret
          exact ⟨by first | rfl | (simp only [show ∀ l : List UInt8, (l != []) = (!l.isEmpty) from fun l => by cases l <;> rfl]; rfl) | (simp [errW_none, errW_some] <;> rfl) | (simp only [← hji3]; first | rfl | (simp [errW_none, errW_some] <;> rfl)) | (simp [*, errW_none, errW_some] <;> rfl), by repeat (first | (with_reducible first | exact HB.out | apply below_alloc | apply pw_below_drewN | apply below_drew1) | exact HB.out)⟩
      · rw [if_neg c6] at H
        have c6b0 : (a1 == 2) = false := beq_eq_false_iff_ne.mpr c6
        have c6b1 : (a1 != 2) = true := bne_iff_ne.mpr c6
        obtain rfl := Option.some.inj H
        go_enter Tryd.func42, Tryd.ntmps42
        go_wp2_with (first | ((with_reducible refine gate_dst (N := 6) rfl ?_); refine Kd.R_lit (Kd.int .i64) _ 3 ?hg (N := 6) ?hd (xs := ([31, 28, 31, 30, 31, 30, 31, 31, 30, 31, 30, 31] : List Int)) (inner := [.int .i64 31, .int .i64 28, .int .i64 31, .int .i64 30, .int .i64 31, .int .i64 30, .int .i64 31, .int .i64 31, .int .i64 30, .int .i64 31, .int .i64 30, .int .i64 31]) (ok := fun _ => True) (okp := fun _ => True) ?hr ?hp (fun _ hk => hk) trivial (Below.refl _ _) (Nat.le_refl _) (by simp) ?_; (case hd => rfl); (case hg => rfl); (case hr => first | (go_simp; done) | (go_simp; rfl)); (case hp => exact (Reps.one (show Kd.M (Kd.int .i64) _ _ _ 31 [.int .i64 31] from rfl) (Reps.one (show Kd.M (Kd.int .i64) _ _ _ 28 [.int .i64 28] from rfl) (Reps.one (show Kd.M (Kd.int .i64) _ _ _ 31 [.int .i64 31] from rfl) (Reps.one (show Kd.M (Kd.int .i64) _ _ _ 30 [.int .i64 30] from rfl) (Reps.one (show Kd.M (Kd.int .i64) _ _ _ 31 [.int .i64 31] from rfl) (Reps.one (show Kd.M (Kd.int .i64) _ _ _ 30 [.int .i64 30] from rfl) (Reps.one (show Kd.M (Kd.int .i64) _ _ _ 31 [.int .i64 31] from rfl) (Reps.one (show Kd.M (Kd.int .i64) _ _ _ 31 [.int .i64 31] from rfl) (Reps.one (show Kd.M (Kd.int .i64) _ _ _ 30 [.int .i64 30] from rfl) (Reps.one (show Kd.M (Kd.int .i64) _ _ _ 31 [.int .i64 31] from rfl) (Reps.one (show Kd.M (Kd.int .i64) _ _ _ 30 [.int .i64 30] from rfl) (Reps.one (show Kd.M (Kd.int .i64) _ _ _ 31 [.int .i64 31] from rfl) (Reps.none _ _)))))))))))))); intro v166 w15 ho16 hb hg_ hnew_; clear hg_ hnew_; (first | rw [← Ny165.out] at ho16 | (simp only [Int.reduceToNat] at ho16; rw [← Ny165.out] at ho16)); have n0_ := Aside0.mk (Kd.R_lower ho16 (below_size (by repeat (first | (with_reducible first | exact HB.out | apply below_alloc | apply pw_below_drewN | apply below_drew1) | exact HB.out)))); have n1_ := Aside0.mk (below_step (by repeat (first | (with_reducible first | exact HB.out | apply below_alloc | apply pw_below_drewN | apply below_drew1) | exact HB.out)) hb); clear HB; have HO167 := n0_; have HB := n1_; clear n0_ n1_; clear hb ho16; obtain ⟨Ao17, co17, eo17⟩ := Kd.R_slice HO167.out; subst eo17; have p168 : 0 ≤ ((ji3) : Int) := of_decide_eq_true (by first | (with_reducible assumption) | assumption); have q168 : (ji3) < (y165.length : Int) := of_decide_eq_true (by first | (with_reducible assumption) | assumption); obtain ⟨ad168, e168, hx168_0⟩ := Kd.at_int (Kd.R_reads' HO167.out).2.2 (ji3) p168 q168; cases e168; replace p168 := eq_true p168; replace q168 := eq_true q168))
        go_ret
        exact ⟨by first | rfl | (simp only [show ∀ l : List UInt8, (l != []) = (!l.isEmpty) from fun l => by cases l <;> rfl]; rfl) | (simp [errW_none, errW_some] <;> rfl) | (simp only [← hji3]; first | rfl | (simp [errW_none, errW_some] <;> rfl)) | (simp [*, errW_none, errW_some] <;> rfl), by repeat (first | (with_reducible first | exact HB.out | apply below_alloc | apply pw_below_drewN | apply below_drew1) | exact HB.out)⟩
    · rw [if_neg c5] at H
      exact absurd H (by simp)
  · rw [if_neg c4] at H
    exact absurd H (by simp)

/-! ### stevedorelaw4_digits: function 43 -/
def stevedorelaw4_digits.l0 : Nat → Int → ByteArray → Option (ByteArray)
  | 0, _, _ => none
  | k + 1, x0, x3 => if x0 ≥ 10 then (if 0 ≤ (Int.tmod x0 10) then (if (Int.tmod x0 10) ≤ (wrap64 ((Int.tmod x0 10) + 1)) then (if (wrap64 ((Int.tmod x0 10) + 1)) ≤ 10 then (if ((⟨#[48, 49, 50, 51, 52, 53, 54, 55, 56, 57]⟩ : ByteArray).extract ((Int.tmod x0 10) : Int).toNat ((wrap64 ((Int.tmod x0 10) + 1)) : Int).toNat).size + x3.size ≤ 9223372036854775807 then (stevedorelaw4_digits.l0 k (wrap64 (Int.tdiv x0 10)) (((⟨#[48, 49, 50, 51, 52, 53, 54, 55, 56, 57]⟩ : ByteArray).extract ((Int.tmod x0 10) : Int).toNat ((wrap64 ((Int.tmod x0 10) + 1)) : Int).toNat) ++ x3)) else (none)) else (none)) else (none)) else (none)) else (if 0 ≤ x0 then (if x0 ≤ (wrap64 (x0 + 1)) then (if (wrap64 (x0 + 1)) ≤ 10 then (if ((⟨#[48, 49, 50, 51, 52, 53, 54, 55, 56, 57]⟩ : ByteArray).extract (x0 : Int).toNat ((wrap64 (x0 + 1)) : Int).toNat).size + x3.size ≤ 9223372036854775807 then (some (((⟨#[48, 49, 50, 51, 52, 53, 54, 55, 56, 57]⟩ : ByteArray).extract (x0 : Int).toNat ((wrap64 (x0 + 1)) : Int).toNat) ++ x3)) else (none)) else (none)) else (none)) else (none))
def stevedorelaw4_digits.f (k : Nat) (a0 : Int) : Option (ByteArray) := stevedorelaw4_digits.l0 k a0 (⟨#[]⟩ : ByteArray)
theorem stevedorelaw4_digits.mono_l : ∀ k, (∀ y0 y1, LeO (stevedorelaw4_digits.l0 k y0 y1) (stevedorelaw4_digits.l0 (k + 1) y0 y1))
  | 0 => fun _ _ r h => by simp [stevedorelaw4_digits.l0] at h
  | k + 1 => by
    have ih0 := stevedorelaw4_digits.mono_l k
    · intro y0 y1
      unfold stevedorelaw4_digits.l0
      repeat' first
      | (with_reducible exact ih0 _ _)
      | (with_reducible exact LeO.refl _)
      | (with_reducible exact LeO.none _)
      | (with_reducible refine LeO.ite ?_ ?_)
      | (with_reducible refine LeO.bind ?_ (fun _ => ?_))
      | exact ih0 _ _
      | exact LeO.none _
      | refine LeO.ite ?_ ?_
      | refine LeO.bind ?_ (fun _ => ?_)
theorem stevedorelaw4_digits.mono : ∀ a0 k, LeO (stevedorelaw4_digits.f k a0) (stevedorelaw4_digits.f (k + 1) a0) := by
  intro a0 k
  have ih0 := stevedorelaw4_digits.mono_l k
  unfold stevedorelaw4_digits.f
  repeat' first
      | (with_reducible exact ih0 _ _)
      | (with_reducible exact LeO.refl _)
      | (with_reducible exact LeO.none _)
      | (with_reducible refine LeO.ite ?_ ?_)
      | (with_reducible refine LeO.bind ?_ (fun _ => ?_))
      | exact ih0 _ _
      | exact LeO.none _
      | refine LeO.ite ?_ ?_
      | refine LeO.bind ?_ (fun _ => ?_)
set_option maxHeartbeats 8000000 in
set_option maxRecDepth 100000 in
theorem stevedorelaw4_digits.calls (k : Nat) (a0 : Int) (r : ByteArray) (w : World) (h : stevedorelaw4_digits.f k a0 = some r) :
    Calls Tryd.prog 43 #[.int .i64 a0] w fun e w' => e = .returned (.string r) ∧ Drawn0 w w' := by
  have H : (stevedorelaw4_digits.l0 k a0 (⟨#[]⟩ : ByteArray)) = some r := h
  clear h
  have H' := Aside0.mk H
  clear H
  go_enter Tryd.func43, Tryd.ntmps43
  go_wp2
  go_loopg [0, 3] k (fun kq v0 v3 w' => ∃ (x0_1 : Int) (x3_1 : ByteArray), v0 = .int .i64 x0_1 ∧ v3 = .string x3_1 ∧ Aside0 (stevedorelaw4_digits.l0 kq x0_1 x3_1 = some r) ∧ Aside0 (kq ≤ k) ∧ Drawn0 w w')
  case atStart => exact ⟨(a0), ((⟨#[]⟩ : ByteArray)), (by first | rfl | (simp; done) | (simp [*]; done)), (by first | rfl | (simp; done) | (simp [*]; done)), H', ⟨Nat.le_refl _⟩, by repeat (first | exact Drawn0.refl _ | apply Drawn0.step)⟩
  case round =>
    clear H'
    obtain ⟨x0_1, x3_1, rfl, rfl, HA, HK1, ⟨m1, rfl⟩⟩ := hrel
    cases gk with
    | zero => exact absurd HA.out (by simp [stevedorelaw4_digits.l0])
    | succ k1 =>
      have H := HA.out
      clear HA
      simp only [stevedorelaw4_digits.l0] at H
      by_cases c2 : x0_1 ≥ 10
      · rw [if_pos c2] at H
        have c2b0 : decide (10 ≤ x0_1) = true := decide_eq_true c2
        clear c2
        obtain ⟨ji3, hji3⟩ : ∃ j_ : Int, (Int.tmod x0_1 10) = j_ := ⟨_, rfl⟩
        replace H : (if 0 ≤ (ji3) then (if (ji3) ≤ (wrap64 ((ji3) + 1)) then (if (wrap64 ((ji3) + 1)) ≤ 10 then (if ((⟨#[48, 49, 50, 51, 52, 53, 54, 55, 56, 57]⟩ : ByteArray).extract ((ji3) : Int).toNat ((wrap64 ((ji3) + 1)) : Int).toNat).size + x3_1.size ≤ 9223372036854775807 then (stevedorelaw4_digits.l0 k1 (wrap64 (Int.tdiv x0_1 10)) (((⟨#[48, 49, 50, 51, 52, 53, 54, 55, 56, 57]⟩ : ByteArray).extract ((ji3) : Int).toNat ((wrap64 ((ji3) + 1)) : Int).toNat) ++ x3_1)) else (none)) else (none)) else (none)) else (none)) = some r := by first | (rw [hji3] at H; exact H) | (simp only [hji3] at H ⊢; exact H)
        by_cases c4 : 0 ≤ (ji3)
        · rw [if_pos c4] at H
          have c4b0 := eq_true c4
          have c4b1 : decide (0 ≤ (ji3)) = true := decide_eq_true c4
          clear c4
          by_cases c5 : (ji3) ≤ (wrap64 ((ji3) + 1))
          · rw [if_pos c5] at H
            have c5b0 := eq_true c5
            have c5b1 : decide ((ji3) ≤ (wrap64 ((ji3) + 1))) = true := decide_eq_true c5
            by_cases c6 : (wrap64 ((ji3) + 1)) ≤ 10
            · rw [if_pos c6] at H
              have c6b0 := eq_true c6
              have c6b1 : decide ((wrap64 ((ji3) + 1)) ≤ 10) = true := decide_eq_true c6
              by_cases c7 : ((⟨#[48, 49, 50, 51, 52, 53, 54, 55, 56, 57]⟩ : ByteArray).extract ((ji3) : Int).toNat ((wrap64 ((ji3) + 1)) : Int).toNat).size + x3_1.size ≤ 9223372036854775807
              · rw [if_pos c7] at H
                have c7b0 := eq_true c7
                have c7b1 : decide (((⟨#[48, 49, 50, 51, 52, 53, 54, 55, 56, 57]⟩ : ByteArray).extract ((ji3) : Int).toNat ((wrap64 ((ji3) + 1)) : Int).toNat).size + x3_1.size ≤ 9223372036854775807) = true := decide_eq_true c7
                (try (have c7b1s := c7b1; simp only [ByteArray.size_append, ByteArray.size_extract, show (ByteArray.mk #[48, 49, 50, 51, 52, 53, 54, 55, 56, 57]).size = 10 from rfl] at c7b1s))
                (try (have c7b1t := c7b1; simp only [ByteArray.size_append, ByteArray.size_extract, show (ByteArray.mk #[48, 49, 50, 51, 52, 53, 54, 55, 56, 57]).size = 10 from rfl, Int.natCast_add, Int.cast_ofNat_Int] at c7b1t))
                try have c7b2 : (9223372036854775807 < ((⟨#[48, 49, 50, 51, 52, 53, 54, 55, 56, 57]⟩ : ByteArray).extract ((ji3) : Int).toNat ((wrap64 ((ji3) + 1)) : Int).toNat).size + x3_1.size) = False := eq_false (Nat.not_lt.2 c7)
                (try (have c7b2s := c7b2; simp only [ByteArray.size_append, ByteArray.size_extract, show (ByteArray.mk #[48, 49, 50, 51, 52, 53, 54, 55, 56, 57]).size = 10 from rfl] at c7b2s))
                (try (have c7b2t := c7b2; simp only [ByteArray.size_append, ByteArray.size_extract, show (ByteArray.mk #[48, 49, 50, 51, 52, 53, 54, 55, 56, 57]).size = 10 from rfl, Int.natCast_add, Int.cast_ofNat_Int] at c7b2t))
                have H' := Aside0.mk H
                clear H
                go_wp2
                go_roundg k1
                case measure => have := HK1.out; omega
                case rel => exact ⟨(wrap64 (Int.tdiv x0_1 10)), (((⟨#[48, 49, 50, 51, 52, 53, 54, 55, 56, 57]⟩ : ByteArray).extract ((ji3) : Int).toNat ((wrap64 ((ji3) + 1)) : Int).toNat) ++ x3_1), (by first | rfl | (simp; done) | (simp [*]; done)), (by first | rfl | (simp; done) | (simp only [← hji3] <;> (first | rfl | simp)) | (simp [*]; done)), H', ⟨by have := HK1.out; omega⟩, by repeat (first | exact Drawn0.refl _ | apply Drawn0.step)⟩
              · rw [if_neg c7] at H
                exact absurd H (by simp)
            · rw [if_neg c6] at H
              exact absurd H (by simp)
          · rw [if_neg c5] at H
            exact absurd H (by simp)
        · rw [if_neg c4] at H
          exact absurd H (by simp)
      · rw [if_neg c2] at H
        have c2b0 : decide (10 ≤ x0_1) = false := decide_eq_false c2
        clear c2
        by_cases c8 : 0 ≤ x0_1
        · rw [if_pos c8] at H
          have c8b0 := eq_true c8
          have c8b1 : decide (0 ≤ x0_1) = true := decide_eq_true c8
          clear c8
          by_cases c9 : x0_1 ≤ (wrap64 (x0_1 + 1))
          · rw [if_pos c9] at H
            have c9b0 := eq_true c9
            have c9b1 : decide (x0_1 ≤ (wrap64 (x0_1 + 1))) = true := decide_eq_true c9
            by_cases c10 : (wrap64 (x0_1 + 1)) ≤ 10
            · rw [if_pos c10] at H
              have c10b0 := eq_true c10
              have c10b1 : decide ((wrap64 (x0_1 + 1)) ≤ 10) = true := decide_eq_true c10
              by_cases c11 : ((⟨#[48, 49, 50, 51, 52, 53, 54, 55, 56, 57]⟩ : ByteArray).extract (x0_1 : Int).toNat ((wrap64 (x0_1 + 1)) : Int).toNat).size + x3_1.size ≤ 9223372036854775807
              · rw [if_pos c11] at H
                have c11b0 := eq_true c11
                have c11b1 : decide (((⟨#[48, 49, 50, 51, 52, 53, 54, 55, 56, 57]⟩ : ByteArray).extract (x0_1 : Int).toNat ((wrap64 (x0_1 + 1)) : Int).toNat).size + x3_1.size ≤ 9223372036854775807) = true := decide_eq_true c11
                (try (have c11b1s := c11b1; simp only [ByteArray.size_append, ByteArray.size_extract, show (ByteArray.mk #[48, 49, 50, 51, 52, 53, 54, 55, 56, 57]).size = 10 from rfl] at c11b1s))
                (try (have c11b1t := c11b1; simp only [ByteArray.size_append, ByteArray.size_extract, show (ByteArray.mk #[48, 49, 50, 51, 52, 53, 54, 55, 56, 57]).size = 10 from rfl, Int.natCast_add, Int.cast_ofNat_Int] at c11b1t))
                try have c11b2 : (9223372036854775807 < ((⟨#[48, 49, 50, 51, 52, 53, 54, 55, 56, 57]⟩ : ByteArray).extract (x0_1 : Int).toNat ((wrap64 (x0_1 + 1)) : Int).toNat).size + x3_1.size) = False := eq_false (Nat.not_lt.2 c11)
                (try (have c11b2s := c11b2; simp only [ByteArray.size_append, ByteArray.size_extract, show (ByteArray.mk #[48, 49, 50, 51, 52, 53, 54, 55, 56, 57]).size = 10 from rfl] at c11b2s))
                (try (have c11b2t := c11b2; simp only [ByteArray.size_append, ByteArray.size_extract, show (ByteArray.mk #[48, 49, 50, 51, 52, 53, 54, 55, 56, 57]).size = 10 from rfl, Int.natCast_add, Int.cast_ofNat_Int] at c11b2t))
                obtain rfl := Option.some.inj H
                go_wp2
                go_ret
                exact ⟨by first | rfl | (simp only [show ∀ l : List UInt8, (l != []) = (!l.isEmpty) from fun l => by cases l <;> rfl]; rfl) | (simp; done) | (simp [*]; done), by repeat (first | exact Drawn0.refl _ | apply Drawn0.step)⟩
              · rw [if_neg c11] at H
                exact absurd H (by simp)
            · rw [if_neg c10] at H
              exact absurd H (by simp)
          · rw [if_neg c9] at H
            exact absurd H (by simp)
        · rw [if_neg c8] at H
          exact absurd H (by simp)

/-! ### stevedorelaw4_boolean: function 46 -/
def stevedorelaw4_boolean.f (a0 : Bool) : Option (Int) := if a0 = true then (some 1) else (some 0)
set_option maxHeartbeats 8000000 in
set_option maxRecDepth 100000 in
theorem stevedorelaw4_boolean.calls (a0 : Bool) (r : Int) (w : World) (h : stevedorelaw4_boolean.f a0 = some r) :
    Calls Tryd.prog 46 #[.bool a0] w fun e w' => e = .returned (.int .i64 r) ∧ Drawn0 w w' := by
  have H : (if a0 = true then (some 1) else (some 0)) = some r := h
  clear h
  by_cases c2 : a0 = true
  · subst c2
    have H1 : (some 1) = some r := by rw [if_pos rfl] at H; exact H
    clear H
    have H := H1
    clear H1
    obtain rfl := Option.some.inj H
    go_enter Tryd.func46, Tryd.ntmps46
    go_wp2
    go_ret
    exact ⟨by first | rfl | (simp only [show ∀ l : List UInt8, (l != []) = (!l.isEmpty) from fun l => by cases l <;> rfl]; rfl) | (simp; done) | (simp [*]; done), by repeat (first | exact Drawn0.refl _ | apply Drawn0.step)⟩
  · replace c2 := Bool.eq_false_iff.mpr c2
    subst c2
    have H1 : (some 0) = some r := by rw [if_neg (show ¬ (false = true) by decide)] at H; exact H
    clear H
    have H := H1
    clear H1
    obtain rfl := Option.some.inj H
    go_enter Tryd.func46, Tryd.ntmps46
    go_wp2
    go_ret
    exact ⟨by first | rfl | (simp only [show ∀ l : List UInt8, (l != []) = (!l.isEmpty) from fun l => by cases l <;> rfl]; rfl) | (simp; done) | (simp [*]; done), by repeat (first | exact Drawn0.refl _ | apply Drawn0.step)⟩

/-! ### stevedoreref4_Same: function 49 -/
def stevedoreref4_Same.f (a0 : Nat) (a1 : Nat) : Option (Bool) := if (FloatKind.f64.format.order a0 a1 == some .eq) = true then (some true) else (if (FloatKind.f64.format.order a0 a0 != some .eq) = true then (some (FloatKind.f64.format.order a1 a1 != some .eq)) else (some false))
set_option maxHeartbeats 8000000 in
set_option maxRecDepth 100000 in
theorem stevedoreref4_Same.calls (a0 : Nat) (a1 : Nat) (r : Bool) (w : World) (h : stevedoreref4_Same.f a0 a1 = some r) :
    Calls Tryd.prog 49 #[.float .f64 a0, .float .f64 a1] w fun e w' => e = .returned (.bool r) ∧ Drawn0 w w' := by
  have H : (if (FloatKind.f64.format.order a0 a1 == some .eq) = true then (some true) else (if (FloatKind.f64.format.order a0 a0 != some .eq) = true then (some (FloatKind.f64.format.order a1 a1 != some .eq)) else (some false))) = some r := h
  clear h
  by_cases c3 : (FloatKind.f64.format.order a0 a1 == some .eq) = true
  · rw [if_pos c3] at H
    have c3b0 : (FloatKind.f64.format.order a0 a1 == some .eq) = true := c3
    (try (have c3b1 : decide (FloatKind.f64.format.order a0 a1 = some .eq) = true := by simpa using c3))
    (try (have c3b2 : (FloatKind.f64.format.order a0 a1 == some .eq) = true := by simpa using c3))
    clear c3
    obtain rfl := Option.some.inj H
    go_enter Tryd.func49, Tryd.ntmps49
    go_wp2
    go_ret
    exact ⟨by first | rfl | (simp only [show ∀ l : List UInt8, (l != []) = (!l.isEmpty) from fun l => by cases l <;> rfl]; rfl) | (simp; done) | (simp [*]; done), by repeat (first | exact Drawn0.refl _ | apply Drawn0.step)⟩
  · rw [if_neg c3] at H
    have c3b0 : (FloatKind.f64.format.order a0 a1 == some .eq) = false := by simpa using c3
    (try (have c3b1 : decide (FloatKind.f64.format.order a0 a1 = some .eq) = false := by simpa using c3))
    (try (have c3b2 : (FloatKind.f64.format.order a0 a1 == some .eq) = false := by simpa using c3))
    (try (have c3b3 : ¬ (FloatKind.f64.format.order a0 a1 = some .eq) := by simpa using c3))
    clear c3
    by_cases c4 : (FloatKind.f64.format.order a0 a0 != some .eq) = true
    · rw [if_pos c4] at H
      have c4b0 : (FloatKind.f64.format.order a0 a0 != some .eq) = true := c4
      (try (have c4b1 : decide (FloatKind.f64.format.order a0 a0 = some .eq) = false := by simpa using c4))
      (try (have c4b2 : (FloatKind.f64.format.order a0 a0 == some .eq) = false := by simpa using c4))
      (try (have c4b3 : ¬ (FloatKind.f64.format.order a0 a0 = some .eq) := by simpa using c4))
      clear c4
      obtain rfl := Option.some.inj H
      go_enter Tryd.func49, Tryd.ntmps49
      go_wp2
      go_ret
      exact ⟨by first | rfl | (simp only [show ∀ l : List UInt8, (l != []) = (!l.isEmpty) from fun l => by cases l <;> rfl]; rfl) | (simp; done) | (simp [*]; done), by repeat (first | exact Drawn0.refl _ | apply Drawn0.step)⟩
    · rw [if_neg c4] at H
      have c4b0 : (FloatKind.f64.format.order a0 a0 != some .eq) = false := by simpa using c4
      (try (have c4b1 : decide (FloatKind.f64.format.order a0 a0 = some .eq) = true := by simpa using c4))
      (try (have c4b2 : (FloatKind.f64.format.order a0 a0 == some .eq) = true := by simpa using c4))
      clear c4
      obtain rfl := Option.some.inj H
      go_enter Tryd.func49, Tryd.ntmps49
      go_wp2
      go_ret
      exact ⟨by first | rfl | (simp only [show ∀ l : List UInt8, (l != []) = (!l.isEmpty) from fun l => by cases l <;> rfl]; rfl) | (simp; done) | (simp [*]; done), by repeat (first | exact Drawn0.refl _ | apply Drawn0.step)⟩

end Go.Proofs.YtfmfikodnpnblaaDoor.PClk1

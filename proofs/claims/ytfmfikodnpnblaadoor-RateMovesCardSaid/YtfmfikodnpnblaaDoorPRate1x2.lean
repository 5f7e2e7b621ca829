-- Written by this repo's gprint.py over the kit's printer, out of the translation. Not trusted: Lean checks it.
import Derived.Test.YtfmfikodnpnblaaDoorPRate1x0
import Derived.Test.YtfmfikodnpnblaaDoorFltNan
namespace Go.Proofs.YtfmfikodnpnblaaDoor.PRate1
open Go.RowKit Go.Proofs.YtfmfikodnpnblaaDoorW.PrintWords Go.Proofs.YtfmfikodnpnblaaDoorW.PrintLast Go.Proofs.YtfmfikodnpnblaaDoorW.PrintMore
attribute [local go_sem] max2_int min2_int max_two min_two max_three min_three max_four min_four   -- for this text's walks alone
open Go.Proofs.YtfmfikodnpnblaaDoor.ClkLib Go.Proofs.YtfmfikodnpnblaaDoor.FltNeg Go.Proofs.YtfmfikodnpnblaaDoor.RateLib
attribute [local go_sem] fop_run fint_run fofint_run Go.Proofs.YtfmfikodnpnblaaDoor.FltNan.sub_nan_run Go.Proofs.YtfmfikodnpnblaaDoor.FltNan.nanOf_order Go.Proofs.YtfmfikodnpnblaaDoor.FltNeg.fneg_run
set_option linter.unusedVariables false
set_option linter.unusedSimpArgs false

/-! ### rate_Ratio: function 21 -/
def rate_Ratio.f (a0 : Int) (a1 : Int) : Option (Nat) := if (fvalid .quo (floatOfInt .f64 a0) (floatOfInt .f64 a1)) = true then (some (fop .quo (floatOfInt .f64 a0) (floatOfInt .f64 a1))) else (none)
set_option maxHeartbeats 8000000 in
set_option maxRecDepth 100000 in
theorem rate_Ratio.calls (a0 : Int) (a1 : Int) (r : Nat) (w : World) (h : rate_Ratio.f a0 a1 = some r) :
    Calls Tryd.prog 21 #[.int .i64 a0, .int .i64 a1] w fun e w' => e = .returned (.float .f64 r) ∧ Drawn0 w w' := by
  have H : (if (fvalid .quo (floatOfInt .f64 a0) (floatOfInt .f64 a1)) = true then (some (fop .quo (floatOfInt .f64 a0) (floatOfInt .f64 a1))) else (none)) = some r := h
  clear h
  by_cases c3 : (fvalid .quo (floatOfInt .f64 a0) (floatOfInt .f64 a1)) = true
  · rw [if_pos c3] at H
    have c3b0 := eq_true c3
    have c3b1 : decide ((fvalid .quo (floatOfInt .f64 a0) (floatOfInt .f64 a1)) = true) = true := decide_eq_true c3
    clear c3
    obtain rfl := Option.some.inj H
    go_enter Tryd.func21, Tryd.ntmps21
    go_wp2
    go_ret
    exact ⟨by first | rfl | (simp only [show ∀ l : List UInt8, (l != []) = (!l.isEmpty) from fun l => by cases l <;> rfl]; rfl) | (simp; done) | (simp [*]; done), by repeat (first | exact Drawn0.refl _ | apply Drawn0.step)⟩
  · rw [if_neg c3] at H
    exact absurd H (by simp)

-- function 69 (math_Abs): by hand

/-! ### math_IsInf: function 67 -/
def math_IsInf.f (a0 : Nat) (a1 : Int) : Option (Bool) := if a1 = 0 then ((math_Abs.f a0).bind fun t127 => (some (FloatKind.f64.format.order t127 9218868437227405311 == some .gt))) else (if a1 < 0 then (some (FloatKind.f64.format.order (fneg a0) 9218868437227405311 == some .gt)) else (some (FloatKind.f64.format.order a0 9218868437227405311 == some .gt)))
set_option maxHeartbeats 8000000 in
set_option maxRecDepth 100000 in
theorem math_IsInf.calls (a0 : Nat) (a1 : Int) (r : Bool) (w : World) (h : math_IsInf.f a0 a1 = some r) :
    Calls Tryd.prog 67 #[.float .f64 a0, .int .i64 a1] w fun e w' => e = .returned (.bool r) ∧ Below w.heap.size w w' := by
  have HB := Aside0.mk (Below.refl w.heap.size w)
  have H : (if a1 = 0 then ((math_Abs.f a0).bind fun t127 => (some (FloatKind.f64.format.order t127 9218868437227405311 == some .gt))) else (if a1 < 0 then (some (FloatKind.f64.format.order (fneg a0) 9218868437227405311 == some .gt)) else (some (FloatKind.f64.format.order a0 9218868437227405311 == some .gt)))) = some r := h
  clear h
  by_cases c3 : a1 = 0
  · rw [if_pos c3] at H
    have c3b0 : (a1 == 0) = true := beq_iff_eq.mpr c3
    have c3b1 : (a1 != 0) = false := bne_eq_false_iff_eq.mpr c3
    clear c3
    replace H := Option.bind_eq_some_iff.mp H
    obtain ⟨t127, A40, H⟩ := H
    replace H : (some (FloatKind.f64.format.order t127 9218868437227405311 == some .gt)) = some r := H
    have A4 := Aside0.mk A40
    clear A40
    obtain rfl := Option.some.inj H
    go_enter Tryd.func67, Tryd.ntmps67
    go_wp2_with (first | ((with_reducible refine gate_callee (f := 69) rfl ?_); refine goesL_ (some 8) rfl rfl Tryd.func69 (by kernel_rfl) rfl #[.float .f64 a0] rfl (by (try simp only [List.map_toArray, List.map_cons, List.map_nil]); first | done | rfl | (simp only [List.length_drop, List.length_take]; rfl)) ?_; (with_reducible refine (math_Abs.calls a0 t127 _ A4.out).mono ?_); rintro e w5 ⟨rfl, hb⟩; refine ⟨_, rfl, ?_⟩; have n0_ := Aside0.mk (below_step (by repeat (first | (with_reducible first | exact HB.out | apply below_alloc | apply pw_below_drewN | apply below_drew1) | exact HB.out)) hb); clear HB; have HB := n0_; clear n0_; (try clear hb); (try clear hb2); (try clear hk); (try clear hi)))
    go_ret
    exact ⟨by first | rfl | (simp only [show ∀ l : List UInt8, (l != []) = (!l.isEmpty) from fun l => by cases l <;> rfl]; rfl) | (simp [errW_none, errW_some] <;> rfl) | (simp [*, errW_none, errW_some] <;> rfl), by repeat (first | (with_reducible first | exact HB.out | apply below_alloc | apply pw_below_drewN | apply below_drew1) | exact HB.out)⟩
  · rw [if_neg c3] at H
    have c3b0 : (a1 == 0) = false := beq_eq_false_iff_ne.mpr c3
    have c3b1 : (a1 != 0) = true := bne_iff_ne.mpr c3
    by_cases c6 : a1 < 0
    · rw [if_pos c6] at H
      have c6b0 : decide (a1 < 0) = true := decide_eq_true c6
      clear c6
      obtain rfl := Option.some.inj H
      go_enter Tryd.func67, Tryd.ntmps67
      go_wp2
      go_ret
      exact ⟨by first | rfl | (simp only [show ∀ l : List UInt8, (l != []) = (!l.isEmpty) from fun l => by cases l <;> rfl]; rfl) | (simp [errW_none, errW_some] <;> rfl) | (simp [*, errW_none, errW_some] <;> rfl), by repeat (first | (with_reducible first | exact HB.out | apply below_alloc | apply pw_below_drewN | apply below_drew1) | exact HB.out)⟩
    · rw [if_neg c6] at H
      have c6b0 : decide (a1 < 0) = false := decide_eq_false c6
      clear c6
      obtain rfl := Option.some.inj H
      go_enter Tryd.func67, Tryd.ntmps67
      go_wp2
      go_ret
      exact ⟨by first | rfl | (simp only [show ∀ l : List UInt8, (l != []) = (!l.isEmpty) from fun l => by cases l <;> rfl]; rfl) | (simp [errW_none, errW_some] <;> rfl) | (simp [*, errW_none, errW_some] <;> rfl), by repeat (first | (with_reducible first | exact HB.out | apply below_alloc | apply pw_below_drewN | apply below_drew1) | exact HB.out)⟩

-- function 68 (math_Signbit): by hand

-- function 70 (math_Floor): by hand

-- function 71 (strconv_Itoa): by hand

/-! ### rate_Text: function 30 -/
def rate_Text.j0 : Nat → Bool → Int → Option (ByteArray)
  | 0, _, _ => none
  | k + 1, x3, x5 => (strconv_Itoa.f (wrap64 (Int.tdiv x5 1000))).bind fun t134 => (if t134.size + 1 ≤ 9223372036854775807 then ((strconv_Itoa.f (wrap64 (1000 + (Int.tmod x5 1000)))).bind fun t135 => (if 1 ≤ (t135.size : Int) then (if (t134 ++ (⟨#[46]⟩ : ByteArray)).size + (t135.extract 1 t135.size).size ≤ 9223372036854775807 then (if x3 = true then (if 1 + ((t134 ++ (⟨#[46]⟩ : ByteArray)) ++ (t135.extract 1 t135.size)).size ≤ 9223372036854775807 then (some ((⟨#[45]⟩ : ByteArray) ++ ((t134 ++ (⟨#[46]⟩ : ByteArray)) ++ (t135.extract 1 t135.size)))) else (none)) else (some ((t134 ++ (⟨#[46]⟩ : ByteArray)) ++ (t135.extract 1 t135.size)))) else (none)) else (none))) else (none))
def rate_Text.f (k : Nat) (a0 : Nat) : Option (ByteArray) := if (FloatKind.f64.format.order a0 a0 != some .eq) = true then (some (⟨#[78, 97, 78]⟩ : ByteArray)) else ((math_IsInf.f a0 1).bind fun t128 => (if t128 = true then (some (⟨#[43, 73, 110, 102]⟩ : ByteArray)) else ((math_IsInf.f a0 (-1)).bind fun t129 => (if t129 = true then (some (⟨#[45, 73, 110, 102]⟩ : ByteArray)) else ((math_Signbit.f a0).bind fun t130 => ((math_Abs.f a0).bind fun t131 => (if (fvalid .mul 4652007308841189376 t131) = true then (if (FloatKind.f64.format.order (fop .mul 4652007308841189376 t131) 4832362400168542208 == some .gt || FloatKind.f64.format.order (fop .mul 4652007308841189376 t131) 4832362400168542208 == some .eq) = true then (if t130 = true then (some (⟨#[45, 66, 105, 103]⟩ : ByteArray)) else (some (⟨#[43, 66, 105, 103]⟩ : ByteArray))) else ((math_Floor.f (fop .mul 4652007308841189376 t131)).bind fun t132 => (if (fintOk t132) = true then ((math_Floor.f (fop .mul 4652007308841189376 t131)).bind fun t133 => (if (fvalid .sub (fop .mul 4652007308841189376 t131) t133) = true then (if (FloatKind.f64.format.order (fop .sub (fop .mul 4652007308841189376 t131) t133) 4602678819172646912 == some .gt || FloatKind.f64.format.order (fop .sub (fop .mul 4652007308841189376 t131) t133) 4602678819172646912 == some .eq) = true then (rate_Text.j0 k t130 (wrap64 ((fint t132) + 1))) else (rate_Text.j0 k t130 (fint t132))) else (none))) else (none)))) else (none))))))))
theorem rate_Text.mono_l : ∀ k, (∀ y0 y1, LeO (rate_Text.j0 k y0 y1) (rate_Text.j0 (k + 1) y0 y1))
  | 0 => fun _ _ r h => by simp [rate_Text.j0] at h
  | k + 1 => by
    have ih0 := rate_Text.mono_l k
    · intro y0 y1
      unfold rate_Text.j0
      repeat' first
      | (with_reducible exact ih0 _ _)
      | (with_reducible exact LeO.refl _)
      | (with_reducible exact LeO.none _)
      | (with_reducible refine LeO.ite ?_ ?_)
      | (with_reducible refine LeO.bind ?_ (fun _ => ?_))
      | exact ih0 _ _
      | exact LeO.none _
      | refine LeO.ite ?_ ?_
      | refine LeO.bind ?_ (fun _ => ?_)
theorem rate_Text.mono : ∀ a0 k, LeO (rate_Text.f k a0) (rate_Text.f (k + 1) a0) := by
  intro a0 k
  have ih0 := rate_Text.mono_l k
  unfold rate_Text.f
  repeat' first
      | (with_reducible exact ih0 _ _)
      | (with_reducible exact LeO.refl _)
      | (with_reducible exact LeO.none _)
      | (with_reducible refine LeO.ite ?_ ?_)
      | (with_reducible refine LeO.bind ?_ (fun _ => ?_))
      | exact ih0 _ _
      | exact LeO.none _
      | refine LeO.ite ?_ ?_
      | refine LeO.bind ?_ (fun _ => ?_)
set_option maxHeartbeats 8000000 in
set_option maxRecDepth 100000 in
theorem rate_Text.calls (k : Nat) (a0 : Nat) (r : ByteArray) (w : World) (h : rate_Text.f k a0 = some r) (hv : Go.Proofs.YtfmfikodnpnblaaDoor.ClkLib.Vars w) :
    Calls Tryd.prog 30 #[.float .f64 a0] w fun e w' => e = .returned (.string r) ∧ Below w.heap.size w w' := by
  have HVARS := Aside0.mk hv
  have HB := Aside0.mk (Below.refl w.heap.size w)
  have H : (if (FloatKind.f64.format.order a0 a0 != some .eq) = true then (some (⟨#[78, 97, 78]⟩ : ByteArray)) else ((math_IsInf.f a0 1).bind fun t128 => (if t128 = true then (some (⟨#[43, 73, 110, 102]⟩ : ByteArray)) else ((math_IsInf.f a0 (-1)).bind fun t129 => (if t129 = true then (some (⟨#[45, 73, 110, 102]⟩ : ByteArray)) else ((math_Signbit.f a0).bind fun t130 => ((math_Abs.f a0).bind fun t131 => (if (fvalid .mul 4652007308841189376 t131) = true then (if (FloatKind.f64.format.order (fop .mul 4652007308841189376 t131) 4832362400168542208 == some .gt || FloatKind.f64.format.order (fop .mul 4652007308841189376 t131) 4832362400168542208 == some .eq) = true then (if t130 = true then (some (⟨#[45, 66, 105, 103]⟩ : ByteArray)) else (some (⟨#[43, 66, 105, 103]⟩ : ByteArray))) else ((math_Floor.f (fop .mul 4652007308841189376 t131)).bind fun t132 => (if (fintOk t132) = true then ((math_Floor.f (fop .mul 4652007308841189376 t131)).bind fun t133 => (if (fvalid .sub (fop .mul 4652007308841189376 t131) t133) = true then (if (FloatKind.f64.format.order (fop .sub (fop .mul 4652007308841189376 t131) t133) 4602678819172646912 == some .gt || FloatKind.f64.format.order (fop .sub (fop .mul 4652007308841189376 t131) t133) 4602678819172646912 == some .eq) = true then (rate_Text.j0 k t130 (wrap64 ((fint t132) + 1))) else (rate_Text.j0 k t130 (fint t132))) else (none))) else (none)))) else (none))))))))) = some r := h
  clear h
  by_cases c2 : (FloatKind.f64.format.order a0 a0 != some .eq) = true
  · rw [if_pos c2] at H
    have c2b0 : (FloatKind.f64.format.order a0 a0 != some .eq) = true := c2
    (try (have c2b1 : decide (FloatKind.f64.format.order a0 a0 = some .eq) = false := by simpa using c2))
    (try (have c2b2 : (FloatKind.f64.format.order a0 a0 == some .eq) = false := by simpa using c2))
    (try (have c2b3 : ¬ (FloatKind.f64.format.order a0 a0 = some .eq) := by simpa using c2))
    clear c2
    obtain rfl := Option.some.inj H
    go_enter Tryd.func30, Tryd.ntmps30
    go_wp2
    go_ret
    exact ⟨by first | rfl | (simp only [show ∀ l : List UInt8, (l != []) = (!l.isEmpty) from fun l => by cases l <;> rfl]; rfl) | (simp [errW_none, errW_some] <;> rfl) | (simp [*, errW_none, errW_some] <;> rfl), by repeat (first | (with_reducible first | exact HB.out | apply below_alloc | apply pw_below_drewN | apply below_drew1) | exact HB.out)⟩
  · rw [if_neg c2] at H
    have c2b0 : (FloatKind.f64.format.order a0 a0 != some .eq) = false := by simpa using c2
    (try (have c2b1 : decide (FloatKind.f64.format.order a0 a0 = some .eq) = true := by simpa using c2))
    (try (have c2b2 : (FloatKind.f64.format.order a0 a0 == some .eq) = true := by simpa using c2))
    clear c2
    replace H := Option.bind_eq_some_iff.mp H
    obtain ⟨t128, A30, H⟩ := H
    replace H : (if t128 = true then (some (⟨#[43, 73, 110, 102]⟩ : ByteArray)) else ((math_IsInf.f a0 (-1)).bind fun t129 => (if t129 = true then (some (⟨#[45, 73, 110, 102]⟩ : ByteArray)) else ((math_Signbit.f a0).bind fun t130 => ((math_Abs.f a0).bind fun t131 => (if (fvalid .mul 4652007308841189376 t131) = true then (if (FloatKind.f64.format.order (fop .mul 4652007308841189376 t131) 4832362400168542208 == some .gt || FloatKind.f64.format.order (fop .mul 4652007308841189376 t131) 4832362400168542208 == some .eq) = true then (if t130 = true then (some (⟨#[45, 66, 105, 103]⟩ : ByteArray)) else (some (⟨#[43, 66, 105, 103]⟩ : ByteArray))) else ((math_Floor.f (fop .mul 4652007308841189376 t131)).bind fun t132 => (if (fintOk t132) = true then ((math_Floor.f (fop .mul 4652007308841189376 t131)).bind fun t133 => (if (fvalid .sub (fop .mul 4652007308841189376 t131) t133) = true then (if (FloatKind.f64.format.order (fop .sub (fop .mul 4652007308841189376 t131) t133) 4602678819172646912 == some .gt || FloatKind.f64.format.order (fop .sub (fop .mul 4652007308841189376 t131) t133) 4602678819172646912 == some .eq) = true then (rate_Text.j0 k t130 (wrap64 ((fint t132) + 1))) else (rate_Text.j0 k t130 (fint t132))) else (none))) else (none)))) else (none))))))) = some r := H
    have A3 := Aside0.mk A30
    clear A30
    by_cases c4 : t128 = true
    · subst c4
      have H1 : (some (⟨#[43, 73, 110, 102]⟩ : ByteArray)) = some r := by rw [if_pos rfl] at H; exact H
      clear H
      have H := H1
      clear H1
      obtain rfl := Option.some.inj H
      go_enter Tryd.func30, Tryd.ntmps30
      go_wp2_with (first | ((with_reducible refine gate_callee (f := 67) rfl ?_); refine goesL_ (some 13) rfl rfl Tryd.func67 (by kernel_rfl) rfl #[.float .f64 a0, .int .i64 1] rfl (by (try simp only [List.map_toArray, List.map_cons, List.map_nil]); first | done | rfl | (simp only [List.length_drop, List.length_take]; rfl)) ?_; (with_reducible refine (math_IsInf.calls a0 1 true _ A3.out).mono ?_); rintro e w5 ⟨rfl, hb⟩; refine ⟨_, rfl, ?_⟩; have n0_ := Aside0.mk (below_step (by repeat (first | (with_reducible first | exact HB.out | apply below_alloc | apply pw_below_drewN | apply below_drew1) | exact HB.out)) hb); clear HB; have HB := n0_; clear n0_; (try clear hb); (try clear hb2); (try clear hk); (try clear hi)))
      go_ret
      exact ⟨by first | rfl | (simp only [show ∀ l : List UInt8, (l != []) = (!l.isEmpty) from fun l => by cases l <;> rfl]; rfl) | (simp [errW_none, errW_some] <;> rfl) | (simp [*, errW_none, errW_some] <;> rfl), by repeat (first | (with_reducible first | exact HB.out | apply below_alloc | apply pw_below_drewN | apply below_drew1) | exact HB.out)⟩
    · replace c4 := Bool.eq_false_iff.mpr c4
      subst c4
      have H1 : ((math_IsInf.f a0 (-1)).bind fun t129 => (if t129 = true then (some (⟨#[45, 73, 110, 102]⟩ : ByteArray)) else ((math_Signbit.f a0).bind fun t130 => ((math_Abs.f a0).bind fun t131 => (if (fvalid .mul 4652007308841189376 t131) = true then (if (FloatKind.f64.format.order (fop .mul 4652007308841189376 t131) 4832362400168542208 == some .gt || FloatKind.f64.format.order (fop .mul 4652007308841189376 t131) 4832362400168542208 == some .eq) = true then (if t130 = true then (some (⟨#[45, 66, 105, 103]⟩ : ByteArray)) else (some (⟨#[43, 66, 105, 103]⟩ : ByteArray))) else ((math_Floor.f (fop .mul 4652007308841189376 t131)).bind fun t132 => (if (fintOk t132) = true then ((math_Floor.f (fop .mul 4652007308841189376 t131)).bind fun t133 => (if (fvalid .sub (fop .mul 4652007308841189376 t131) t133) = true then (if (FloatKind.f64.format.order (fop .sub (fop .mul 4652007308841189376 t131) t133) 4602678819172646912 == some .gt || FloatKind.f64.format.order (fop .sub (fop .mul 4652007308841189376 t131) t133) 4602678819172646912 == some .eq) = true then (rate_Text.j0 k t130 (wrap64 ((fint t132) + 1))) else (rate_Text.j0 k t130 (fint t132))) else (none))) else (none)))) else (none)))))) = some r := by rw [if_neg (show ¬ (false = true) by decide)] at H; exact H
      clear H
      have H := H1
      clear H1
      replace H := Option.bind_eq_some_iff.mp H
      obtain ⟨t129, A60, H⟩ := H
      replace H : (if t129 = true then (some (⟨#[45, 73, 110, 102]⟩ : ByteArray)) else ((math_Signbit.f a0).bind fun t130 => ((math_Abs.f a0).bind fun t131 => (if (fvalid .mul 4652007308841189376 t131) = true then (if (FloatKind.f64.format.order (fop .mul 4652007308841189376 t131) 4832362400168542208 == some .gt || FloatKind.f64.format.order (fop .mul 4652007308841189376 t131) 4832362400168542208 == some .eq) = true then (if t130 = true then (some (⟨#[45, 66, 105, 103]⟩ : ByteArray)) else (some (⟨#[43, 66, 105, 103]⟩ : ByteArray))) else ((math_Floor.f (fop .mul 4652007308841189376 t131)).bind fun t132 => (if (fintOk t132) = true then ((math_Floor.f (fop .mul 4652007308841189376 t131)).bind fun t133 => (if (fvalid .sub (fop .mul 4652007308841189376 t131) t133) = true then (if (FloatKind.f64.format.order (fop .sub (fop .mul 4652007308841189376 t131) t133) 4602678819172646912 == some .gt || FloatKind.f64.format.order (fop .sub (fop .mul 4652007308841189376 t131) t133) 4602678819172646912 == some .eq) = true then (rate_Text.j0 k t130 (wrap64 ((fint t132) + 1))) else (rate_Text.j0 k t130 (fint t132))) else (none))) else (none)))) else (none))))) = some r := H
      have A6 := Aside0.mk A60
      clear A60
      by_cases c7 : t129 = true
      · subst c7
        have H1 : (some (⟨#[45, 73, 110, 102]⟩ : ByteArray)) = some r := by rw [if_pos rfl] at H; exact H
        clear H
        have H := H1
        clear H1
        obtain rfl := Option.some.inj H
        go_enter Tryd.func30, Tryd.ntmps30
        go_wp2_with (first | ((with_reducible refine gate_callee (f := 67) rfl ?_); refine goesL_ (some 13) rfl rfl Tryd.func67 (by kernel_rfl) rfl #[.float .f64 a0, .int .i64 1] rfl (by (try simp only [List.map_toArray, List.map_cons, List.map_nil]); first | done | rfl | (simp only [List.length_drop, List.length_take]; rfl)) ?_; (with_reducible refine (math_IsInf.calls a0 1 false _ A3.out).mono ?_); rintro e w8 ⟨rfl, hb⟩; refine ⟨_, rfl, ?_⟩; have n0_ := Aside0.mk (below_step (by repeat (first | (with_reducible first | exact HB.out | apply below_alloc | apply pw_below_drewN | apply below_drew1) | exact HB.out)) hb); clear HB; have HB := n0_; clear n0_; (try clear hb); (try clear hb2); (try clear hk); (try clear hi)) | ((with_reducible refine gate_callee (f := 67) rfl ?_); refine goesL_ (some 16) rfl rfl Tryd.func67 (by kernel_rfl) rfl #[.float .f64 a0, .int .i64 (-1)] rfl (by (try simp only [List.map_toArray, List.map_cons, List.map_nil]); first | done | rfl | (simp only [List.length_drop, List.length_take]; rfl)) ?_; (with_reducible refine (math_IsInf.calls a0 (-1) true _ A6.out).mono ?_); rintro e w9 ⟨rfl, hb⟩; refine ⟨_, rfl, ?_⟩; have n0_ := Aside0.mk (below_step (by repeat (first | (with_reducible first | exact HB.out | apply below_alloc | apply pw_below_drewN | apply below_drew1) | exact HB.out)) hb); clear HB; have HB := n0_; clear n0_; (try clear hb); (try clear hb2); (try clear hk); (try clear hi)))
        go_ret
        exact ⟨by first | rfl | (simp only [show ∀ l : List UInt8, (l != []) = (!l.isEmpty) from fun l => by cases l <;> rfl]; rfl) | (simp [errW_none, errW_some] <;> rfl) | (simp [*, errW_none, errW_some] <;> rfl), by repeat (first | (with_reducible first | exact HB.out | apply below_alloc | apply pw_below_drewN | apply below_drew1) | exact HB.out)⟩
      · replace c7 := Bool.eq_false_iff.mpr c7
        subst c7
        have H1 : ((math_Signbit.f a0).bind fun t130 => ((math_Abs.f a0).bind fun t131 => (if (fvalid .mul 4652007308841189376 t131) = true then (if (FloatKind.f64.format.order (fop .mul 4652007308841189376 t131) 4832362400168542208 == some .gt || FloatKind.f64.format.order (fop .mul 4652007308841189376 t131) 4832362400168542208 == some .eq) = true then (if t130 = true then (some (⟨#[45, 66, 105, 103]⟩ : ByteArray)) else (some (⟨#[43, 66, 105, 103]⟩ : ByteArray))) else ((math_Floor.f (fop .mul 4652007308841189376 t131)).bind fun t132 => (if (fintOk t132) = true then ((math_Floor.f (fop .mul 4652007308841189376 t131)).bind fun t133 => (if (fvalid .sub (fop .mul 4652007308841189376 t131) t133) = true then (if (FloatKind.f64.format.order (fop .sub (fop .mul 4652007308841189376 t131) t133) 4602678819172646912 == some .gt || FloatKind.f64.format.order (fop .sub (fop .mul 4652007308841189376 t131) t133) 4602678819172646912 == some .eq) = true then (rate_Text.j0 k t130 (wrap64 ((fint t132) + 1))) else (rate_Text.j0 k t130 (fint t132))) else (none))) else (none)))) else (none)))) = some r := by rw [if_neg (show ¬ (false = true) by decide)] at H; exact H
        clear H
        have H := H1
        clear H1
        replace H := Option.bind_eq_some_iff.mp H
        obtain ⟨t130, A100, H⟩ := H
        replace H : ((math_Abs.f a0).bind fun t131 => (if (fvalid .mul 4652007308841189376 t131) = true then (if (FloatKind.f64.format.order (fop .mul 4652007308841189376 t131) 4832362400168542208 == some .gt || FloatKind.f64.format.order (fop .mul 4652007308841189376 t131) 4832362400168542208 == some .eq) = true then (if t130 = true then (some (⟨#[45, 66, 105, 103]⟩ : ByteArray)) else (some (⟨#[43, 66, 105, 103]⟩ : ByteArray))) else ((math_Floor.f (fop .mul 4652007308841189376 t131)).bind fun t132 => (if (fintOk t132) = true then ((math_Floor.f (fop .mul 4652007308841189376 t131)).bind fun t133 => (if (fvalid .sub (fop .mul 4652007308841189376 t131) t133) = true then (if (FloatKind.f64.format.order (fop .sub (fop .mul 4652007308841189376 t131) t133) 4602678819172646912 == some .gt || FloatKind.f64.format.order (fop .sub (fop .mul 4652007308841189376 t131) t133) 4602678819172646912 == some .eq) = true then (rate_Text.j0 k t130 (wrap64 ((fint t132) + 1))) else (rate_Text.j0 k t130 (fint t132))) else (none))) else (none)))) else (none))) = some r := H
        have A10 := Aside0.mk A100
        clear A100
        replace H := Option.bind_eq_some_iff.mp H
        obtain ⟨t131, A110, H⟩ := H
        replace H : (if (fvalid .mul 4652007308841189376 t131) = true then (if (FloatKind.f64.format.order (fop .mul 4652007308841189376 t131) 4832362400168542208 == some .gt || FloatKind.f64.format.order (fop .mul 4652007308841189376 t131) 4832362400168542208 == some .eq) = true then (if t130 = true then (some (⟨#[45, 66, 105, 103]⟩ : ByteArray)) else (some (⟨#[43, 66, 105, 103]⟩ : ByteArray))) else ((math_Floor.f (fop .mul 4652007308841189376 t131)).bind fun t132 => (if (fintOk t132) = true then ((math_Floor.f (fop .mul 4652007308841189376 t131)).bind fun t133 => (if (fvalid .sub (fop .mul 4652007308841189376 t131) t133) = true then (if (FloatKind.f64.format.order (fop .sub (fop .mul 4652007308841189376 t131) t133) 4602678819172646912 == some .gt || FloatKind.f64.format.order (fop .sub (fop .mul 4652007308841189376 t131) t133) 4602678819172646912 == some .eq) = true then (rate_Text.j0 k t130 (wrap64 ((fint t132) + 1))) else (rate_Text.j0 k t130 (fint t132))) else (none))) else (none)))) else (none)) = some r := H
        have A11 := Aside0.mk A110
        clear A110
        by_cases c12 : (fvalid .mul 4652007308841189376 t131) = true
        · rw [if_pos c12] at H
          have c12b0 := eq_true c12
          have c12b1 : decide ((fvalid .mul 4652007308841189376 t131) = true) = true := decide_eq_true c12
          clear c12
          by_cases c13 : (FloatKind.f64.format.order (fop .mul 4652007308841189376 t131) 4832362400168542208 == some .gt || FloatKind.f64.format.order (fop .mul 4652007308841189376 t131) 4832362400168542208 == some .eq) = true
          · rw [if_pos c13] at H
            have c13b0 : (FloatKind.f64.format.order (fop .mul 4652007308841189376 t131) 4832362400168542208 == some .gt || FloatKind.f64.format.order (fop .mul 4652007308841189376 t131) 4832362400168542208 == some .eq) = true := c13
            have c13b7 : (!(FloatKind.f64.format.order (fop .mul 4652007308841189376 t131) 4832362400168542208 == some .gt) && !(FloatKind.f64.format.order (fop .mul 4652007308841189376 t131) 4832362400168542208 == some .eq)) = false := by rw [← Bool.not_or, c13b0]; rfl
            (try (have c13b1 : decide (FloatKind.f64.format.order (fop .mul 4652007308841189376 t131) 4832362400168542208 = some .gt || FloatKind.f64.format.order (fop .mul 4652007308841189376 t131) 4832362400168542208 == some .eq) = true := by simpa using c13))
            (try (have c13b2 : (FloatKind.f64.format.order (fop .mul 4652007308841189376 t131) 4832362400168542208 == some .gt || FloatKind.f64.format.order (fop .mul 4652007308841189376 t131) 4832362400168542208 == some .eq) = true := by simpa using c13))
            clear c13
            by_cases c14 : t130 = true
            · subst c14
              have H1 : (some (⟨#[45, 66, 105, 103]⟩ : ByteArray)) = some r := by rw [if_pos rfl] at H; exact H
              clear H
              have H := H1
              clear H1
              obtain rfl := Option.some.inj H
              go_enter Tryd.func30, Tryd.ntmps30
              go_wp2_with (first | ((with_reducible refine gate_callee (f := 67) rfl ?_); refine goesL_ (some 13) rfl rfl Tryd.func67 (by kernel_rfl) rfl #[.float .f64 a0, .int .i64 1] rfl (by (try simp only [List.map_toArray, List.map_cons, List.map_nil]); first | done | rfl | (simp only [List.length_drop, List.length_take]; rfl)) ?_; (with_reducible refine (math_IsInf.calls a0 1 false _ A3.out).mono ?_); rintro e w15 ⟨rfl, hb⟩; refine ⟨_, rfl, ?_⟩; have n0_ := Aside0.mk (below_step (by repeat (first | (with_reducible first | exact HB.out | apply below_alloc | apply pw_below_drewN | apply below_drew1) | exact HB.out)) hb); clear HB; have HB := n0_; clear n0_; (try clear hb); (try clear hb2); (try clear hk); (try clear hi)) | ((with_reducible refine gate_callee (f := 67) rfl ?_); refine goesL_ (some 16) rfl rfl Tryd.func67 (by kernel_rfl) rfl #[.float .f64 a0, .int .i64 (-1)] rfl (by (try simp only [List.map_toArray, List.map_cons, List.map_nil]); first | done | rfl | (simp only [List.length_drop, List.length_take]; rfl)) ?_; (with_reducible refine (math_IsInf.calls a0 (-1) false _ A6.out).mono ?_); rintro e w16 ⟨rfl, hb⟩; refine ⟨_, rfl, ?_⟩; have n0_ := Aside0.mk (below_step (by repeat (first | (with_reducible first | exact HB.out | apply below_alloc | apply pw_below_drewN | apply below_drew1) | exact HB.out)) hb); clear HB; have HB := n0_; clear n0_; (try clear hb); (try clear hb2); (try clear hk); (try clear hi)) | ((with_reducible refine gate_callee (f := 68) rfl ?_); refine goesL_ (some 18) rfl rfl Tryd.func68 (by kernel_rfl) rfl #[.float .f64 a0] rfl (by (try simp only [List.map_toArray, List.map_cons, List.map_nil]); first | done | rfl | (simp only [List.length_drop, List.length_take]; rfl)) ?_; (with_reducible refine (math_Signbit.calls a0 true _ A10.out).mono ?_); rintro e w17 ⟨rfl, hb⟩; refine ⟨_, rfl, ?_⟩; have n0_ := Aside0.mk (below_step (by repeat (first | (with_reducible first | exact HB.out | apply below_alloc | apply pw_below_drewN | apply below_drew1) | exact HB.out)) hb); clear HB; have HB := n0_; clear n0_; (try clear hb); (try clear hb2); (try clear hk); (try clear hi)) | ((with_reducible refine gate_callee (f := 69) rfl ?_); refine goesL_ (some 20) rfl rfl Tryd.func69 (by kernel_rfl) rfl #[.float .f64 a0] rfl (by (try simp only [List.map_toArray, List.map_cons, List.map_nil]); first | done | rfl | (simp only [List.length_drop, List.length_take]; rfl)) ?_; (with_reducible refine (math_Abs.calls a0 t131 _ A11.out).mono ?_); rintro e w18 ⟨rfl, hb⟩; refine ⟨_, rfl, ?_⟩; have n0_ := Aside0.mk (below_step (by repeat (first | (with_reducible first | exact HB.out | apply below_alloc | apply pw_below_drewN | apply below_drew1) | exact HB.out)) hb); clear HB; have HB := n0_; clear n0_; (try clear hb); (try clear hb2); (try clear hk); (try clear hi)))
              go_ret
              exact ⟨by first | rfl | (simp only [show ∀ l : List UInt8, (l != []) = (!l.isEmpty) from fun l => by cases l <;> rfl]; rfl) | (simp [errW_none, errW_some] <;> rfl) | (simp [*, errW_none, errW_some] <;> rfl), by repeat (first | (with_reducible first | exact HB.out | apply below_alloc | apply pw_below_drewN | apply below_drew1) | exact HB.out)⟩
            · replace c14 := Bool.eq_false_iff.mpr c14
              subst c14
              have H1 : (some (⟨#[43, 66, 105, 103]⟩ : ByteArray)) = some r := by rw [if_neg (show ¬ (false = true) by decide)] at H; exact H
              clear H
              have H := H1
              clear H1
              obtain rfl := Option.some.inj H
              go_enter Tryd.func30, Tryd.ntmps30
              go_wp2_with (first | ((with_reducible refine gate_callee (f := 67) rfl ?_); refine goesL_ (some 13) rfl rfl Tryd.func67 (by kernel_rfl) rfl #[.float .f64 a0, .int .i64 1] rfl (by (try simp only [List.map_toArray, List.map_cons, List.map_nil]); first | done | rfl | (simp only [List.length_drop, List.length_take]; rfl)) ?_; (with_reducible refine (math_IsInf.calls a0 1 false _ A3.out).mono ?_); rintro e w19 ⟨rfl, hb⟩; refine ⟨_, rfl, ?_⟩; have n0_ := Aside0.mk (below_step (by repeat (first | (with_reducible first | exact HB.out | apply below_alloc | apply pw_below_drewN | apply below_drew1) | exact HB.out)) hb); clear HB; have HB := n0_; clear n0_; (try clear hb); (try clear hb2); (try clear hk); (try clear hi)) | ((with_reducible refine gate_callee (f := 67) rfl ?_); refine goesL_ (some 16) rfl rfl Tryd.func67 (by kernel_rfl) rfl #[.float .f64 a0, .int .i64 (-1)] rfl (by (try simp only [List.map_toArray, List.map_cons, List.map_nil]); first | done | rfl | (simp only [List.length_drop, List.length_take]; rfl)) ?_; (with_reducible refine (math_IsInf.calls a0 (-1) false _ A6.out).mono ?_); rintro e w20 ⟨rfl, hb⟩; refine ⟨_, rfl, ?_⟩; have n0_ := Aside0.mk (below_step (by repeat (first | (with_reducible first | exact HB.out | apply below_alloc | apply pw_below_drewN | apply below_drew1) | exact HB.out)) hb); clear HB; have HB := n0_; clear n0_; (try clear hb); (try clear hb2); (try clear hk); (try clear hi)) | ((with_reducible refine gate_callee (f := 68) rfl ?_); refine goesL_ (some 18) rfl rfl Tryd.func68 (by kernel_rfl) rfl #[.float .f64 a0] rfl (by (try simp only [List.map_toArray, List.map_cons, List.map_nil]); first | done | rfl | (simp only [List.length_drop, List.length_take]; rfl)) ?_; (with_reducible refine (math_Signbit.calls a0 false _ A10.out).mono ?_); rintro e w21 ⟨rfl, hb⟩; refine ⟨_, rfl, ?_⟩; have n0_ := Aside0.mk (below_step (by repeat (first | (with_reducible first | exact HB.out | apply below_alloc | apply pw_below_drewN | apply below_drew1) | exact HB.out)) hb); clear HB; have HB := n0_; clear n0_; (try clear hb); (try clear hb2); (try clear hk); (try clear hi)) | ((with_reducible refine gate_callee (f := 69) rfl ?_); refine goesL_ (some 20) rfl rfl Tryd.func69 (by kernel_rfl) rfl #[.float .f64 a0] rfl (by (try simp only [List.map_toArray, List.map_cons, List.map_nil]); first | done | rfl | (simp only [List.length_drop, List.length_take]; rfl)) ?_; (with_reducible refine (math_Abs.calls a0 t131 _ A11.out).mono ?_); rintro e w22 ⟨rfl, hb⟩; refine ⟨_, rfl, ?_⟩; have n0_ := Aside0.mk (below_step (by repeat (first | (with_reducible first | exact HB.out | apply below_alloc | apply pw_below_drewN | apply below_drew1) | exact HB.out)) hb); clear HB; have HB := n0_; clear n0_; (try clear hb); (try clear hb2); (try clear hk); (try clear hi)))
              go_ret
              exact ⟨by first | rfl | (simp only [show ∀ l : List UInt8, (l != []) = (!l.isEmpty) from fun l => by cases l <;> rfl]; rfl) | (simp [errW_none, errW_some] <;> rfl) | (simp [*, errW_none, errW_some] <;> rfl), by repeat (first | (with_reducible first | exact HB.out | apply below_alloc | apply pw_below_drewN | apply below_drew1) | exact HB.out)⟩
          · rw [if_neg c13] at H
            have c13b0 : (FloatKind.f64.format.order (fop .mul 4652007308841189376 t131) 4832362400168542208 == some .gt || FloatKind.f64.format.order (fop .mul 4652007308841189376 t131) 4832362400168542208 == some .eq) = false := by simpa using c13
            have c13b7 : (!(FloatKind.f64.format.order (fop .mul 4652007308841189376 t131) 4832362400168542208 == some .gt) && !(FloatKind.f64.format.order (fop .mul 4652007308841189376 t131) 4832362400168542208 == some .eq)) = true := by rw [← Bool.not_or, c13b0]; rfl
            (try (have c13b1 : decide (FloatKind.f64.format.order (fop .mul 4652007308841189376 t131) 4832362400168542208 = some .gt || FloatKind.f64.format.order (fop .mul 4652007308841189376 t131) 4832362400168542208 == some .eq) = false := by simpa using c13))
            (try (have c13b2 : (FloatKind.f64.format.order (fop .mul 4652007308841189376 t131) 4832362400168542208 == some .gt || FloatKind.f64.format.order (fop .mul 4652007308841189376 t131) 4832362400168542208 == some .eq) = false := by simpa using c13))
            (try (have c13b3 : ¬ (FloatKind.f64.format.order (fop .mul 4652007308841189376 t131) 4832362400168542208 = some .gt || FloatKind.f64.format.order (fop .mul 4652007308841189376 t131) 4832362400168542208 == some .eq) := by simpa using c13))
            clear c13
            replace H := Option.bind_eq_some_iff.mp H
            obtain ⟨t132, A230, H⟩ := H
            replace H : (if (fintOk t132) = true then ((math_Floor.f (fop .mul 4652007308841189376 t131)).bind fun t133 => (if (fvalid .sub (fop .mul 4652007308841189376 t131) t133) = true then (if (FloatKind.f64.format.order (fop .sub (fop .mul 4652007308841189376 t131) t133) 4602678819172646912 == some .gt || FloatKind.f64.format.order (fop .sub (fop .mul 4652007308841189376 t131) t133) 4602678819172646912 == some .eq) = true then (rate_Text.j0 k t130 (wrap64 ((fint t132) + 1))) else (rate_Text.j0 k t130 (fint t132))) else (none))) else (none)) = some r := H
            have A23 := Aside0.mk A230
            clear A230
            by_cases c24 : (fintOk t132) = true
            · rw [if_pos c24] at H
              have c24b0 := eq_true c24
              have c24b1 : decide ((fintOk t132) = true) = true := decide_eq_true c24
              clear c24
              replace H := Option.bind_eq_some_iff.mp H
              obtain ⟨t133, A250, H⟩ := H
              replace H : (if (fvalid .sub (fop .mul 4652007308841189376 t131) t133) = true then (if (FloatKind.f64.format.order (fop .sub (fop .mul 4652007308841189376 t131) t133) 4602678819172646912 == some .gt || FloatKind.f64.format.order (fop .sub (fop .mul 4652007308841189376 t131) t133) 4602678819172646912 == some .eq) = true then (rate_Text.j0 k t130 (wrap64 ((fint t132) + 1))) else (rate_Text.j0 k t130 (fint t132))) else (none)) = some r := H
              have A25 := Aside0.mk A250
              clear A250
              by_cases c26 : (fvalid .sub (fop .mul 4652007308841189376 t131) t133) = true
              · rw [if_pos c26] at H
                have c26b0 := eq_true c26
                have c26b1 : decide ((fvalid .sub (fop .mul 4652007308841189376 t131) t133) = true) = true := decide_eq_true c26
                clear c26
                have HC27 := Aside0.mk H
                clear H
                go_enter Tryd.func30, Tryd.ntmps30
                go_upto_if 32 with (first | ((with_reducible refine gate_callee (f := 67) rfl ?_); refine goesL_ (some 13) rfl rfl Tryd.func67 (by kernel_rfl) rfl #[.float .f64 a0, .int .i64 1] rfl (by (try simp only [List.map_toArray, List.map_cons, List.map_nil]); first | done | rfl | (simp only [List.length_drop, List.length_take]; rfl)) ?_; (with_reducible refine (math_IsInf.calls a0 1 false _ A3.out).mono ?_); rintro e w28 ⟨rfl, hb⟩; refine ⟨_, rfl, ?_⟩; have n0_ := Aside0.mk (below_step (by repeat (first | (with_reducible first | exact HB.out | apply below_alloc | apply pw_below_drewN | apply below_drew1) | exact HB.out)) hb); clear HB; have HB := n0_; clear n0_; (try clear hb); (try clear hb2); (try clear hk); (try clear hi)) | ((with_reducible refine gate_callee (f := 67) rfl ?_); refine goesL_ (some 16) rfl rfl Tryd.func67 (by kernel_rfl) rfl #[.float .f64 a0, .int .i64 (-1)] rfl (by (try simp only [List.map_toArray, List.map_cons, List.map_nil]); first | done | rfl | (simp only [List.length_drop, List.length_take]; rfl)) ?_; (with_reducible refine (math_IsInf.calls a0 (-1) false _ A6.out).mono ?_); rintro e w29 ⟨rfl, hb⟩; refine ⟨_, rfl, ?_⟩; have n0_ := Aside0.mk (below_step (by repeat (first | (with_reducible first | exact HB.out | apply below_alloc | apply pw_below_drewN | apply below_drew1) | exact HB.out)) hb); clear HB; have HB := n0_; clear n0_; (try clear hb); (try clear hb2); (try clear hk); (try clear hi)) | ((with_reducible refine gate_callee (f := 68) rfl ?_); refine goesL_ (some 18) rfl rfl Tryd.func68 (by kernel_rfl) rfl #[.float .f64 a0] rfl (by (try simp only [List.map_toArray, List.map_cons, List.map_nil]); first | done | rfl | (simp only [List.length_drop, List.length_take]; rfl)) ?_; (with_reducible refine (math_Signbit.calls a0 t130 _ A10.out).mono ?_); rintro e w30 ⟨rfl, hb⟩; refine ⟨_, rfl, ?_⟩; have n0_ := Aside0.mk (below_step (by repeat (first | (with_reducible first | exact HB.out | apply below_alloc | apply pw_below_drewN | apply below_drew1) | exact HB.out)) hb); clear HB; have HB := n0_; clear n0_; (try clear hb); (try clear hb2); (try clear hk); (try clear hi)) | ((with_reducible refine gate_callee (f := 69) rfl ?_); refine goesL_ (some 20) rfl rfl Tryd.func69 (by kernel_rfl) rfl #[.float .f64 a0] rfl (by (try simp only [List.map_toArray, List.map_cons, List.map_nil]); first | done | rfl | (simp only [List.length_drop, List.length_take]; rfl)) ?_; (with_reducible refine (math_Abs.calls a0 t131 _ A11.out).mono ?_); rintro e w31 ⟨rfl, hb⟩; refine ⟨_, rfl, ?_⟩; have n0_ := Aside0.mk (below_step (by repeat (first | (with_reducible first | exact HB.out | apply below_alloc | apply pw_below_drewN | apply below_drew1) | exact HB.out)) hb); clear HB; have HB := n0_; clear n0_; (try clear hb); (try clear hb2); (try clear hk); (try clear hi)) | ((with_reducible refine gate_callee (f := 70) rfl ?_); refine goesL_ (some 26) rfl rfl Tryd.func70 (by kernel_rfl) rfl #[.float .f64 (fop .mul 4652007308841189376 t131)] rfl (by (try simp only [List.map_toArray, List.map_cons, List.map_nil]); first | done | rfl | (simp only [List.length_drop, List.length_take]; rfl)) ?_; (with_reducible refine (math_Floor.calls (fop .mul 4652007308841189376 t131) t132 _ A23.out).mono ?_); rintro e w32 ⟨rfl, hb⟩; refine ⟨_, rfl, ?_⟩; have n0_ := Aside0.mk (below_step (by repeat (first | (with_reducible first | exact HB.out | apply below_alloc | apply pw_below_drewN | apply below_drew1) | exact HB.out)) hb); clear HB; have HB := n0_; clear n0_; (try clear hb); (try clear hb2); (try clear hk); (try clear hi)) | ((with_reducible refine gate_callee (f := 70) rfl ?_); refine goesL_ (some 30) rfl rfl Tryd.func70 (by kernel_rfl) rfl #[.float .f64 (fop .mul 4652007308841189376 t131)] rfl (by (try simp only [List.map_toArray, List.map_cons, List.map_nil]); first | done | rfl | (simp only [List.length_drop, List.length_take]; rfl)) ?_; (with_reducible refine (math_Floor.calls (fop .mul 4652007308841189376 t131) t133 _ A25.out).mono ?_); rintro e w33 ⟨rfl, hb⟩; refine ⟨_, rfl, ?_⟩; have n0_ := Aside0.mk (below_step (by repeat (first | (with_reducible first | exact HB.out | apply below_alloc | apply pw_below_drewN | apply below_drew1) | exact HB.out)) hb); clear HB; have HB := n0_; clear n0_; (try clear hb); (try clear hb2); (try clear hk); (try clear hi)))
                (try simp only [Act.put, List.setIfInBounds_toArray, List.set_cons_zero, List.set_cons_succ])
                go_cut [5] (fun v5 wc => ∃ (kq : Nat) (x5_26 : Int), v5 = .int .i64 x5_26 ∧ Aside0 (rate_Text.j0 kq t130 x5_26 = some r) ∧ Aside0 (kq ≤ k) ∧ Aside0 (Below w.heap.size w wc))
                case first =>
                  have H := HC27.out
                  clear HC27
                  by_cases c34 : (FloatKind.f64.format.order (fop .sub (fop .mul 4652007308841189376 t131) t133) 4602678819172646912 == some .gt || FloatKind.f64.format.order (fop .sub (fop .mul 4652007308841189376 t131) t133) 4602678819172646912 == some .eq) = true
                  · rw [if_pos c34] at H
                    have c34b0 : (FloatKind.f64.format.order (fop .sub (fop .mul 4652007308841189376 t131) t133) 4602678819172646912 == some .gt || FloatKind.f64.format.order (fop .sub (fop .mul 4652007308841189376 t131) t133) 4602678819172646912 == some .eq) = true := c34
                    have c34b7 : (!(FloatKind.f64.format.order (fop .sub (fop .mul 4652007308841189376 t131) t133) 4602678819172646912 == some .gt) && !(FloatKind.f64.format.order (fop .sub (fop .mul 4652007308841189376 t131) t133) 4602678819172646912 == some .eq)) = false := by rw [← Bool.not_or, c34b0]; rfl
                    (try (have c34b1 : decide (FloatKind.f64.format.order (fop .sub (fop .mul 4652007308841189376 t131) t133) 4602678819172646912 = some .gt || FloatKind.f64.format.order (fop .sub (fop .mul 4652007308841189376 t131) t133) 4602678819172646912 == some .eq) = true := by simpa using c34))
                    (try (have c34b2 : (FloatKind.f64.format.order (fop .sub (fop .mul 4652007308841189376 t131) t133) 4602678819172646912 == some .gt || FloatKind.f64.format.order (fop .sub (fop .mul 4652007308841189376 t131) t133) 4602678819172646912 == some .eq) = true := by simpa using c34))
                    clear c34
                    (first | rw [c34b0] | (simp only [i64_w, i32_w]; rw [c34b0]) | rw [c34b1] | skip)
                    (try rw [c34b7])
                    have H' := Aside0.mk H
                    clear H
                    go_wp2
                    go_meet
                    case rel => exact ⟨_, (wrap64 ((fint t132) + 1)), (by first | rfl | (simp; done) | (simp [*]; done)), H', ⟨by first | omega | exact Nat.le_refl _⟩, ⟨by repeat (first | (with_reducible first | exact HB.out | apply below_alloc | apply pw_below_drewN | apply below_drew1) | exact HB.out)⟩⟩
                  · rw [if_neg c34] at H
                    have c34b0 : (FloatKind.f64.format.order (fop .sub (fop .mul 4652007308841189376 t131) t133) 4602678819172646912 == some .gt || FloatKind.f64.format.order (fop .sub (fop .mul 4652007308841189376 t131) t133) 4602678819172646912 == some .eq) = false := by simpa using c34
                    have c34b7 : (!(FloatKind.f64.format.order (fop .sub (fop .mul 4652007308841189376 t131) t133) 4602678819172646912 == some .gt) && !(FloatKind.f64.format.order (fop .sub (fop .mul 4652007308841189376 t131) t133) 4602678819172646912 == some .eq)) = true := by rw [← Bool.not_or, c34b0]; rfl
                    (try (have c34b1 : decide (FloatKind.f64.format.order (fop .sub (fop .mul 4652007308841189376 t131) t133) 4602678819172646912 = some .gt || FloatKind.f64.format.order (fop .sub (fop .mul 4652007308841189376 t131) t133) 4602678819172646912 == some .eq) = false := by simpa using c34))
                    (try (have c34b2 : (FloatKind.f64.format.order (fop .sub (fop .mul 4652007308841189376 t131) t133) 4602678819172646912 == some .gt || FloatKind.f64.format.order (fop .sub (fop .mul 4652007308841189376 t131) t133) 4602678819172646912 == some .eq) = false := by simpa using c34))
                    (try (have c34b3 : ¬ (FloatKind.f64.format.order (fop .sub (fop .mul 4652007308841189376 t131) t133) 4602678819172646912 = some .gt || FloatKind.f64.format.order (fop .sub (fop .mul 4652007308841189376 t131) t133) 4602678819172646912 == some .eq) := by simpa using c34))
                    clear c34
                    (first | rw [c34b0] | (simp only [i64_w, i32_w]; rw [c34b0]) | rw [c34b1] | skip)
                    (try rw [c34b7])
                    have H' := Aside0.mk H
                    clear H
                    go_wp2
                    go_meet
                    case rel => exact ⟨_, (fint t132), (by first | rfl | (simp; done) | (simp [*]; done)), H', ⟨by first | omega | exact Nat.le_refl _⟩, ⟨by repeat (first | (with_reducible first | exact HB.out | apply below_alloc | apply pw_below_drewN | apply below_drew1) | exact HB.out)⟩⟩
                case rest =>
                  clear HC27
                  try clear c1
                  try clear c2
                  try clear c2b0
                  try clear c2b1
                  try clear c2b2
                  try clear p2
                  try clear c3
                  try clear c4
                  try clear c6
                  try clear p6
                  try clear c7
                  try clear c12
                  try clear c12b0
                  try clear c12b1
                  try clear c13
                  try clear c13b0
                  try clear c13b1
                  try clear c13b2
                  try clear c14
                  try clear c24
                  try clear c24b0
                  try clear c24b1
                  try clear c26
                  try clear c26b0
                  try clear c26b1
                  try clear c30
                  try clear c34
                  try clear c34b0
                  try clear c34b1
                  try clear c34b2
                  obtain ⟨kq, x5_26, rfl, HA, HJ26, HB⟩ := hcut
                  cases kq with
                  | zero => exact absurd HA.out (by simp [rate_Text.j0])
                  | succ kj26 =>
                    have H := HA.out
                    clear HA
                    simp only [rate_Text.j0] at H
                    replace H := Option.bind_eq_some_iff.mp H
                    obtain ⟨t134, A350, H⟩ := H
                    replace H : (if t134.size + 1 ≤ 9223372036854775807 then ((strconv_Itoa.f (wrap64 (1000 + (Int.tmod x5_26 1000)))).bind fun t135 => (if 1 ≤ (t135.size : Int) then (if (t134 ++ (⟨#[46]⟩ : ByteArray)).size + (t135.extract 1 t135.size).size ≤ 9223372036854775807 then (if t130 = true then (if 1 + ((t134 ++ (⟨#[46]⟩ : ByteArray)) ++ (t135.extract 1 t135.size)).size ≤ 9223372036854775807 then (some ((⟨#[45]⟩ : ByteArray) ++ ((t134 ++ (⟨#[46]⟩ : ByteArray)) ++ (t135.extract 1 t135.size)))) else (none)) else (some ((t134 ++ (⟨#[46]⟩ : ByteArray)) ++ (t135.extract 1 t135.size)))) else (none)) else (none))) else (none)) = some r := H
                    have A35 := Aside0.mk A350
                    clear A350
                    by_cases c36 : t134.size + 1 ≤ 9223372036854775807
                    · rw [if_pos c36] at H
                      have c36b0 := eq_true c36
                      have c36b1 : decide (t134.size + 1 ≤ 9223372036854775807) = true := decide_eq_true c36
                      try have c36b2 : (9223372036854775807 < t134.size + 1) = False := eq_false (Nat.not_lt.2 c36)
                      replace H := Option.bind_eq_some_iff.mp H
                      obtain ⟨t135, A370, H⟩ := H
                      replace H : (if 1 ≤ (t135.size : Int) then (if (t134 ++ (⟨#[46]⟩ : ByteArray)).size + (t135.extract 1 t135.size).size ≤ 9223372036854775807 then (if t130 = true then (if 1 + ((t134 ++ (⟨#[46]⟩ : ByteArray)) ++ (t135.extract 1 t135.size)).size ≤ 9223372036854775807 then (some ((⟨#[45]⟩ : ByteArray) ++ ((t134 ++ (⟨#[46]⟩ : ByteArray)) ++ (t135.extract 1 t135.size)))) else (none)) else (some ((t134 ++ (⟨#[46]⟩ : ByteArray)) ++ (t135.extract 1 t135.size)))) else (none)) else (none)) = some r := H
                      have A37 := Aside0.mk A370
                      clear A370
                      by_cases c38 : 1 ≤ (t135.size : Int)
                      · rw [if_pos c38] at H
                        have c38b0 := eq_true c38
                        have c38b1 : decide (1 ≤ (t135.size : Int)) = true := decide_eq_true c38
                        clear c38
                        by_cases c39 : (t134 ++ (⟨#[46]⟩ : ByteArray)).size + (t135.extract 1 t135.size).size ≤ 9223372036854775807
                        · rw [if_pos c39] at H
                          have c39b0 := eq_true c39
                          have c39b1 : decide ((t134 ++ (⟨#[46]⟩ : ByteArray)).size + (t135.extract 1 t135.size).size ≤ 9223372036854775807) = true := decide_eq_true c39
                          (try (have c39b1s := c39b1; simp only [ByteArray.size_append, ByteArray.size_extract, Nat.min_self, show (ByteArray.mk #[46]).size = 1 from rfl] at c39b1s))
                          (try (have c39b1t := c39b1; simp only [ByteArray.size_append, ByteArray.size_extract, Nat.min_self, show (ByteArray.mk #[46]).size = 1 from rfl, Int.natCast_add, Int.cast_ofNat_Int] at c39b1t))
                          try have c39b2 : (9223372036854775807 < (t134 ++ (⟨#[46]⟩ : ByteArray)).size + (t135.extract 1 t135.size).size) = False := eq_false (Nat.not_lt.2 c39)
                          (try (have c39b2s := c39b2; simp only [ByteArray.size_append, ByteArray.size_extract, Nat.min_self, show (ByteArray.mk #[46]).size = 1 from rfl] at c39b2s))
                          (try (have c39b2t := c39b2; simp only [ByteArray.size_append, ByteArray.size_extract, Nat.min_self, show (ByteArray.mk #[46]).size = 1 from rfl, Int.natCast_add, Int.cast_ofNat_Int] at c39b2t))
                          by_cases c40 : t130 = true
                          · subst c40
                            have H1 : (if 1 + ((t134 ++ (⟨#[46]⟩ : ByteArray)) ++ (t135.extract 1 t135.size)).size ≤ 9223372036854775807 then (some ((⟨#[45]⟩ : ByteArray) ++ ((t134 ++ (⟨#[46]⟩ : ByteArray)) ++ (t135.extract 1 t135.size)))) else (none)) = some r := by rw [if_pos rfl] at H; exact H
                            clear H
                            have H := H1
                            clear H1
                            by_cases c41 : 1 + ((t134 ++ (⟨#[46]⟩ : ByteArray)) ++ (t135.extract 1 t135.size)).size ≤ 9223372036854775807
                            · rw [if_pos c41] at H
                              have c41b0 := eq_true c41
                              have c41b1 : decide (1 + ((t134 ++ (⟨#[46]⟩ : ByteArray)) ++ (t135.extract 1 t135.size)).size ≤ 9223372036854775807) = true := decide_eq_true c41
                              (try (have c41b1s := c41b1; simp only [ByteArray.size_append, ByteArray.size_extract, Nat.min_self, show (ByteArray.mk #[46]).size = 1 from rfl] at c41b1s))
                              (try (have c41b1t := c41b1; simp only [ByteArray.size_append, ByteArray.size_extract, Nat.min_self, show (ByteArray.mk #[46]).size = 1 from rfl, Int.natCast_add, Int.cast_ofNat_Int] at c41b1t))
                              try have c41b2 : (9223372036854775807 < 1 + ((t134 ++ (⟨#[46]⟩ : ByteArray)) ++ (t135.extract 1 t135.size)).size) = False := eq_false (Nat.not_lt.2 c41)
                              (try (have c41b2s := c41b2; simp only [ByteArray.size_append, ByteArray.size_extract, Nat.min_self, show (ByteArray.mk #[46]).size = 1 from rfl] at c41b2s))
                              (try (have c41b2t := c41b2; simp only [ByteArray.size_append, ByteArray.size_extract, Nat.min_self, show (ByteArray.mk #[46]).size = 1 from rfl, Int.natCast_add, Int.cast_ofNat_Int] at c41b2t))
                              obtain rfl := Option.some.inj H
                              go_wp2_with (first | ((with_reducible refine gate_callee (f := 71) rfl ?_); refine goesL_ (some 37) rfl rfl Tryd.func71 (by kernel_rfl) rfl #[.int .i64 (wrap64 (Int.tdiv x5_26 1000))] rfl (by (try simp only [List.map_toArray, List.map_cons, List.map_nil]); first | done | rfl | (simp only [List.length_drop, List.length_take]; rfl)) ?_; (with_reducible refine (strconv_Itoa.calls (wrap64 (Int.tdiv x5_26 1000)) t134 _ A35.out (Go.Proofs.YtfmfikodnpnblaaDoor.ClkLib.Vars.below HVARS.out (by repeat (first | (with_reducible first | exact HB.out | apply below_alloc | apply pw_below_drewN | apply below_drew1 | refine below_set ?_ (Aside0.out (by assumption))) | exact HB.out)))).mono ?_); rintro e w42 ⟨rfl, hb⟩; refine ⟨_, rfl, ?_⟩; have n0_ := Aside0.mk (below_step (by repeat (first | (with_reducible first | exact HB.out | apply below_alloc | apply pw_below_drewN | apply below_drew1) | exact HB.out)) hb); clear HB; have HB := n0_; clear n0_; (try clear hb); (try clear hb2); (try clear hk); (try clear hi)) | ((with_reducible refine gate_callee (f := 71) rfl ?_); refine goesL_ (some 42) rfl rfl Tryd.func71 (by kernel_rfl) rfl #[.int .i64 (wrap64 (1000 + (Int.tmod x5_26 1000)))] rfl (by (try simp only [List.map_toArray, List.map_cons, List.map_nil]); first | done | rfl | (simp only [List.length_drop, List.length_take]; rfl)) ?_; (with_reducible refine (strconv_Itoa.calls (wrap64 (1000 + (Int.tmod x5_26 1000))) t135 _ A37.out (Go.Proofs.YtfmfikodnpnblaaDoor.ClkLib.Vars.below HVARS.out (by repeat (first | (with_reducible first | exact HB.out | apply below_alloc | apply pw_below_drewN | apply below_drew1 | refine below_set ?_ (Aside0.out (by assumption))) | exact HB.out)))).mono ?_); rintro e w43 ⟨rfl, hb⟩; refine ⟨_, rfl, ?_⟩; have n0_ := Aside0.mk (below_step (by repeat (first | (with_reducible first | exact HB.out | apply below_alloc | apply pw_below_drewN | apply below_drew1) | exact HB.out)) hb); clear HB; have HB := n0_; clear n0_; (try clear hb); (try clear hb2); (try clear hk); (try clear hi)))
                              go_ret
                              exact ⟨by first | rfl | (simp only [show ∀ l : List UInt8, (l != []) = (!l.isEmpty) from fun l => by cases l <;> rfl]; rfl) | (simp [errW_none, errW_some] <;> rfl) | (simp [*, errW_none, errW_some] <;> rfl), by repeat (first | (with_reducible first | exact HB.out | apply below_alloc | apply pw_below_drewN | apply below_drew1) | exact HB.out)⟩
                            · rw [if_neg c41] at H
                              exact absurd H (by simp)
                          · replace c40 := Bool.eq_false_iff.mpr c40
                            subst c40
                            have H1 : (some ((t134 ++ (⟨#[46]⟩ : ByteArray)) ++ (t135.extract 1 t135.size))) = some r := by rw [if_neg (show ¬ (false = true) by decide)] at H; exact H
                            clear H
                            have H := H1
                            clear H1
                            obtain rfl := Option.some.inj H
                            go_wp2_with (first | ((with_reducible refine gate_callee (f := 71) rfl ?_); refine goesL_ (some 37) rfl rfl Tryd.func71 (by kernel_rfl) rfl #[.int .i64 (wrap64 (Int.tdiv x5_26 1000))] rfl (by (try simp only [List.map_toArray, List.map_cons, List.map_nil]); first | done | rfl | (simp only [List.length_drop, List.length_take]; rfl)) ?_; (with_reducible refine (strconv_Itoa.calls (wrap64 (Int.tdiv x5_26 1000)) t134 _ A35.out (Go.Proofs.YtfmfikodnpnblaaDoor.ClkLib.Vars.below HVARS.out (by repeat (first | (with_reducible first | exact HB.out | apply below_alloc | apply pw_below_drewN | apply below_drew1 | refine below_set ?_ (Aside0.out (by assumption))) | exact HB.out)))).mono ?_); rintro e w44 ⟨rfl, hb⟩; refine ⟨_, rfl, ?_⟩; have n0_ := Aside0.mk (below_step (by repeat (first | (with_reducible first | exact HB.out | apply below_alloc | apply pw_below_drewN | apply below_drew1) | exact HB.out)) hb); clear HB; have HB := n0_; clear n0_; (try clear hb); (try clear hb2); (try clear hk); (try clear hi)) | ((with_reducible refine gate_callee (f := 71) rfl ?_); refine goesL_ (some 42) rfl rfl Tryd.func71 (by kernel_rfl) rfl #[.int .i64 (wrap64 (1000 + (Int.tmod x5_26 1000)))] rfl (by (try simp only [List.map_toArray, List.map_cons, List.map_nil]); first | done | rfl | (simp only [List.length_drop, List.length_take]; rfl)) ?_; (with_reducible refine (strconv_Itoa.calls (wrap64 (1000 + (Int.tmod x5_26 1000))) t135 _ A37.out (Go.Proofs.YtfmfikodnpnblaaDoor.ClkLib.Vars.below HVARS.out (by repeat (first | (with_reducible first | exact HB.out | apply below_alloc | apply pw_below_drewN | apply below_drew1 | refine below_set ?_ (Aside0.out (by assumption))) | exact HB.out)))).mono ?_); rintro e w45 ⟨rfl, hb⟩; refine ⟨_, rfl, ?_⟩; have n0_ := Aside0.mk (below_step (by repeat (first | (with_reducible first | exact HB.out | apply below_alloc | apply pw_below_drewN | apply below_drew1) | exact HB.out)) hb); clear HB; have HB := n0_; clear n0_; (try clear hb); (try clear hb2); (try clear hk); (try clear hi)))
                            go_ret
                            exact ⟨by first | rfl | (simp only [show ∀ l : List UInt8, (l != []) = (!l.isEmpty) from fun l => by cases l <;> rfl]; rfl) | (simp [errW_none, errW_some] <;> rfl) | (simp [*, errW_none, errW_some] <;> rfl), by repeat (first | (with_reducible first | exact HB.out | apply below_alloc | apply pw_below_drewN | apply below_drew1) | exact HB.out)⟩
                        · rw [if_neg c39] at H
                          exact absurd H (by simp)
                      · rw [if_neg c38] at H
                        exact absurd H (by simp)
                    · rw [if_neg c36] at H
                      exact absurd H (by simp)
              · rw [if_neg c26] at H
                exact absurd H (by simp)
            · rw [if_neg c24] at H
              exact absurd H (by simp)
        · rw [if_neg c12] at H
          exact absurd H (by simp)

/-! ### stevedorelaw36_ints: function 17 -/
def stevedorelaw36_ints.l0 : Nat → List Int → List Int → Int → Option (Bool)
  | 0, _, _, _ => none
  | k + 1, x0, x1, x5 => if x5 < (x0.length : Int) then (if 0 ≤ x5 then (if x5 < (x1.length : Int) then (if (rd x0 x5) = (rd x1 x5) then (stevedorelaw36_ints.l0 k x0 x1 (wrap64 (x5 + 1))) else (some false)) else (none)) else (none)) else (some true)
def stevedorelaw36_ints.f (k : Nat) (l0 : List Int) (l1 : List Int) : Option (Bool) := if (l0.length : Int) = (l1.length : Int) then (stevedorelaw36_ints.l0 k l0 l1 0) else (some false)
theorem stevedorelaw36_ints.mono_l : ∀ k, (∀ y0 y1 y2, LeO (stevedorelaw36_ints.l0 k y0 y1 y2) (stevedorelaw36_ints.l0 (k + 1) y0 y1 y2))
  | 0 => fun _ _ _ r h => by simp [stevedorelaw36_ints.l0] at h
  | k + 1 => by
    have ih0 := stevedorelaw36_ints.mono_l k
    · intro y0 y1 y2
      unfold stevedorelaw36_ints.l0
      repeat' first
      | (with_reducible exact ih0 _ _ _)
      | (with_reducible exact LeO.refl _)
      | (with_reducible exact LeO.none _)
      | (with_reducible refine LeO.ite ?_ ?_)
      | (with_reducible refine LeO.bind ?_ (fun _ => ?_))
      | exact ih0 _ _ _
      | exact LeO.none _
      | refine LeO.ite ?_ ?_
      | refine LeO.bind ?_ (fun _ => ?_)
theorem stevedorelaw36_ints.mono : ∀ a0 a1 k, LeO (stevedorelaw36_ints.f k a0 a1) (stevedorelaw36_ints.f (k + 1) a0 a1) := by
  intro a0 a1 k
  have ih0 := stevedorelaw36_ints.mono_l k
  unfold stevedorelaw36_ints.f
  repeat' first
      | (with_reducible exact ih0 _ _ _)
      | (with_reducible exact LeO.refl _)
      | (with_reducible exact LeO.none _)
      | (with_reducible refine LeO.ite ?_ ?_)
      | (with_reducible refine LeO.bind ?_ (fun _ => ?_))
      | exact ih0 _ _ _
      | exact LeO.none _
      | refine LeO.ite ?_ ?_
      | refine LeO.bind ?_ (fun _ => ?_)
set_option maxHeartbeats 8000000 in
set_option maxRecDepth 100000 in
theorem stevedorelaw36_ints.calls (k : Nat) (A0 : Option Addr) (c0 : Nat) (l0 : List Int) (A1 : Option Addr) (c1 : Nat) (l1 : List Int) (r : Bool) (w : World) (hr0 : Kd.C (Kd.int .i64) w A0 l0.length l0) (hc0 : l0.length ≤ c0) (hr1 : Kd.C (Kd.int .i64) w A1 l1.length l1) (hc1 : l1.length ≤ c1) (h : stevedorelaw36_ints.f k l0 l1 = some r) :
    Calls Tryd.prog 17 #[.slice A0 l0.length c0, .slice A1 l1.length c1] w fun e w' => e = .returned (.bool r) ∧ Drawn0 w w' := by
  have HR0 := Aside0.mk hr0
  have HC0 := Aside0.mk hc0
  clear hr0 hc0
  have HR1 := Aside0.mk hr1
  have HC1 := Aside0.mk hc1
  clear hr1 hc1
  have H : (if (l0.length : Int) = (l1.length : Int) then (stevedorelaw36_ints.l0 k l0 l1 0) else (some false)) = some r := h
  clear h
  by_cases c3 : (l0.length : Int) = (l1.length : Int)
  · rw [if_pos c3] at H
    have c3b0 : ((l0.length : Int) == (l1.length : Int)) = true := beq_iff_eq.mpr c3
    have c3b1 : ((l0.length : Int) != (l1.length : Int)) = false := bne_eq_false_iff_eq.mpr c3
    have c3b2 : (l0.length == l1.length) = true := by first | simpa using c3 | (simp at c3 ⊢; omega)
    clear c3
    have H' := Aside0.mk H
    clear H
    go_enter Tryd.func17, Tryd.ntmps17
    go_wp2
    repeat (go_quiet (fail); try go_wp2)
    go_loopg [5] k (fun kq v5 w' => ∃ (x5_1 : Int), v5 = .int .i64 x5_1 ∧ Aside0 (stevedorelaw36_ints.l0 kq l0 l1 x5_1 = some r) ∧ Aside0 (kq ≤ k) ∧ Drawn0 w w')
    case atStart => exact ⟨(0), (by first | rfl | (simp; done) | (simp [*]; done)), H', ⟨Nat.le_refl _⟩, by repeat (first | exact Drawn0.refl _ | apply Drawn0.step)⟩
    case round =>
      clear H'
      try clear c1
      try clear p2
      try clear c3
      try clear c3b0
      try clear c3b1
      try clear c3b2
      obtain ⟨x5_1, rfl, HA, HK1, ⟨m1, rfl⟩⟩ := hrel
      cases gk with
      | zero => exact absurd HA.out (by simp [stevedorelaw36_ints.l0])
      | succ k1 =>
        have H := HA.out
        clear HA
        simp only [stevedorelaw36_ints.l0] at H
        by_cases c4 : x5_1 < (l0.length : Int)
        · rw [if_pos c4] at H
          have c4b0 : decide (x5_1 < (l0.length : Int)) = true := decide_eq_true c4
          clear c4
          by_cases c5 : 0 ≤ x5_1
          · rw [if_pos c5] at H
            have c5b0 : decide (0 ≤ x5_1) = true := decide_eq_true c5
            clear c5
            by_cases c6 : x5_1 < (l1.length : Int)
            · rw [if_pos c6] at H
              have c6b0 : decide (x5_1 < (l1.length : Int)) = true := decide_eq_true c6
              clear c6
              by_cases c7 : (rd l0 x5_1) = (rd l1 x5_1)
              · rw [if_pos c7] at H
                have c7b0 : ((rd l0 x5_1) == (rd l1 x5_1)) = true := beq_iff_eq.mpr c7
                have c7b1 : ((rd l0 x5_1) != (rd l1 x5_1)) = false := bne_eq_false_iff_eq.mpr c7
                clear c7
                have H' := Aside0.mk H
                clear H
                have p136 : 0 ≤ (x5_1 : Int) := of_decide_eq_true (by first | (with_reducible assumption) | assumption)
                have q136 : x5_1 < (l0.length : Int) := of_decide_eq_true (by first | (with_reducible assumption) | assumption)
                obtain ⟨ad136, e136, hx136_0⟩ := Kd.at_int HR0.out x5_1 p136 q136
                cases e136
                replace p136 := eq_true p136
                replace q136 := eq_true q136
                have p137 : 0 ≤ (x5_1 : Int) := of_decide_eq_true (by first | (with_reducible assumption) | assumption)
                have q137 : x5_1 < (l1.length : Int) := of_decide_eq_true (by first | (with_reducible assumption) | assumption)
                obtain ⟨ad137, e137, hx137_0⟩ := Kd.at_int HR1.out x5_1 p137 q137
                cases e137
                replace p137 := eq_true p137
                replace q137 := eq_true q137
                go_wp2
                repeat (go_quiet (fail); try go_wp2)
                go_roundg k1
                case measure => have := HK1.out; omega
                case rel => exact ⟨(wrap64 (x5_1 + 1)), (by first | rfl | (simp; done) | (simp [*]; done)), H', ⟨by have := HK1.out; omega⟩, by repeat (first | exact Drawn0.refl _ | apply Drawn0.step)⟩
              · rw [if_neg c7] at H
                have c7b0 : ((rd l0 x5_1) == (rd l1 x5_1)) = false := beq_eq_false_iff_ne.mpr c7
                have c7b1 : ((rd l0 x5_1) != (rd l1 x5_1)) = true := bne_iff_ne.mpr c7
                obtain rfl := Option.some.inj H
                have p136 : 0 ≤ (x5_1 : Int) := of_decide_eq_true (by first | (with_reducible assumption) | assumption)
                have q136 : x5_1 < (l0.length : Int) := of_decide_eq_true (by first | (with_reducible assumption) | assumption)
                obtain ⟨ad136, e136, hx136_0⟩ := Kd.at_int HR0.out x5_1 p136 q136
                cases e136
                replace p136 := eq_true p136
                replace q136 := eq_true q136
                have p137 : 0 ≤ (x5_1 : Int) := of_decide_eq_true (by first | (with_reducible assumption) | assumption)
                have q137 : x5_1 < (l1.length : Int) := of_decide_eq_true (by first | (with_reducible assumption) | assumption)
                obtain ⟨ad137, e137, hx137_0⟩ := Kd.at_int HR1.out x5_1 p137 q137
                cases e137
                replace p137 := eq_true p137
                replace q137 := eq_true q137
                go_wp2
                repeat (go_quiet (fail); try go_wp2)
                go_ret
                exact ⟨by first | rfl | (simp only [show ∀ l : List UInt8, (l != []) = (!l.isEmpty) from fun l => by cases l <;> rfl]; rfl) | (simp; done) | (simp [*]; done), by repeat (first | exact Drawn0.refl _ | apply Drawn0.step)⟩
            · rw [if_neg c6] at H
              exact absurd H (by simp)
          · rw [if_neg c5] at H
            exact absurd H (by simp)
        · rw [if_neg c4] at H
          have c4b0 : decide (x5_1 < (l0.length : Int)) = false := decide_eq_false c4
          clear c4
          obtain rfl := Option.some.inj H
          go_wp2
          repeat (go_quiet (fail); try go_wp2)
          go_ret
          exact ⟨by first | rfl | (simp only [show ∀ l : List UInt8, (l != []) = (!l.isEmpty) from fun l => by cases l <;> rfl]; rfl) | (simp; done) | (simp [*]; done), by repeat (first | exact Drawn0.refl _ | apply Drawn0.step)⟩
  · rw [if_neg c3] at H
    have c3b0 : ((l0.length : Int) == (l1.length : Int)) = false := beq_eq_false_iff_ne.mpr c3
    have c3b1 : ((l0.length : Int) != (l1.length : Int)) = true := bne_iff_ne.mpr c3
    have c3b2 : (l0.length == l1.length) = false := by first | simpa using c3 | (simp at c3 ⊢; omega)
    obtain rfl := Option.some.inj H
    go_enter Tryd.func17, Tryd.ntmps17
    go_wp2
    repeat (go_quiet (fail); try go_wp2)
    go_ret
    exact ⟨by first | rfl | (simp only [show ∀ l : List UInt8, (l != []) = (!l.isEmpty) from fun l => by cases l <;> rfl]; rfl) | (simp; done) | (simp [*]; done), by repeat (first | exact Drawn0.refl _ | apply Drawn0.step)⟩

/-- THE ONE PURE STATEMENT of stevedorelaw36_ints: yours. -/
def stevedorelaw36_ints.Pure : Prop := ∀ (l0 : List Int) (l1 : List Int), l0.length ≤ maxLen → l0.length * 8 ≤ 140737488351232 → (∀ x ∈ l0, (Lit.int .i64 x).wf = true) → l1.length ≤ maxLen → l1.length * 8 ≤ 140737488351232 → (∀ x ∈ l1, (Lit.int .i64 x).wf = true) → ∃ k, stevedorelaw36_ints.f k l0 l1 = some true
theorem stevedorelaw36_ints.walk (P : stevedorelaw36_ints.Pure) (a0 : Option Addr) (len0 cap0 : Nat) (z0 : List Int) (a1 : Option Addr) (len1 cap1 : Nat) (z1 : List Int) (w : World) (w0 : (a0 = none ∧ len0 = 0 ∧ cap0 = 0 ∧ z0 = []) ∨ ∃ x, a0 = some x ∧ len0 ≤ cap0 ∧ cap0 ≤ maxLen ∧ z0.length = cap0 ∧ (∀ i, i < z0.length → w.cell? (x.add i) = some (.int .i64 (z0.getD i 0))) ∧ ∀ n ∈ z0, (Lit.int .i64 n).wf = true) (y0 : len0 * 8 ≤ 140737488351232) (w1 : (a1 = none ∧ len1 = 0 ∧ cap1 = 0 ∧ z1 = []) ∨ ∃ x, a1 = some x ∧ len1 ≤ cap1 ∧ cap1 ≤ maxLen ∧ z1.length = cap1 ∧ (∀ i, i < z1.length → w.cell? (x.add i) = some (.int .i64 (z1.getD i 0))) ∧ ∀ n ∈ z1, (Lit.int .i64 n).wf = true) (y1 : len1 * 8 ≤ 140737488351232) :
    Calls Tryd.prog 17 #[.slice a0 len0 cap0, .slice a1 len1 cap1] w fun e w' => e = .returned (.bool true) ∧ Below w.heap.size w w' := by
  obtain ⟨l0, rfl, hr0, hm0, hw0, hc0⟩ := ReadsInt.ofRowC w0
  obtain ⟨l1, rfl, hr1, hm1, hw1, hc1⟩ := ReadsInt.ofRowC w1
  obtain ⟨k, h⟩ := P l0 l1 hm0 y0 hw0 hm1 y1 hw1
  refine (stevedorelaw36_ints.calls k _ _ l0 _ _ l1 true w (Kd.C_of_reads (d := (0 : Int)) (h1 := fun _ => rfl) hr0) hc0 (Kd.C_of_reads (d := (0 : Int)) (h1 := fun _ => rfl) hr1) hc1 h).mono ?_
  rintro e w' ⟨rfl, hd⟩
  exact ⟨rfl, hd.below⟩

/-! ### stevedorelaw36_digits: function 28 -/
def stevedorelaw36_digits.l0 : Nat → Int → ByteArray → Option (ByteArray)
  | 0, _, _ => none
  | k + 1, x0, x3 => if x0 ≥ 10 then (if 0 ≤ (Int.tmod x0 10) then (if (Int.tmod x0 10) ≤ (wrap64 ((Int.tmod x0 10) + 1)) then (if (wrap64 ((Int.tmod x0 10) + 1)) ≤ 10 then (if ((⟨#[48, 49, 50, 51, 52, 53, 54, 55, 56, 57]⟩ : ByteArray).extract ((Int.tmod x0 10) : Int).toNat ((wrap64 ((Int.tmod x0 10) + 1)) : Int).toNat).size + x3.size ≤ 9223372036854775807 then (stevedorelaw36_digits.l0 k (wrap64 (Int.tdiv x0 10)) (((⟨#[48, 49, 50, 51, 52, 53, 54, 55, 56, 57]⟩ : ByteArray).extract ((Int.tmod x0 10) : Int).toNat ((wrap64 ((Int.tmod x0 10) + 1)) : Int).toNat) ++ x3)) else (none)) else (none)) else (none)) else (none)) else (if 0 ≤ x0 then (if x0 ≤ (wrap64 (x0 + 1)) then (if (wrap64 (x0 + 1)) ≤ 10 then (if ((⟨#[48, 49, 50, 51, 52, 53, 54, 55, 56, 57]⟩ : ByteArray).extract (x0 : Int).toNat ((wrap64 (x0 + 1)) : Int).toNat).size + x3.size ≤ 9223372036854775807 then (some (((⟨#[48, 49, 50, 51, 52, 53, 54, 55, 56, 57]⟩ : ByteArray).extract (x0 : Int).toNat ((wrap64 (x0 + 1)) : Int).toNat) ++ x3)) else (none)) else (none)) else (none)) else (none))
def stevedorelaw36_digits.f (k : Nat) (a0 : Int) : Option (ByteArray) := stevedorelaw36_digits.l0 k a0 (⟨#[]⟩ : ByteArray)
theorem stevedorelaw36_digits.mono_l : ∀ k, (∀ y0 y1, LeO (stevedorelaw36_digits.l0 k y0 y1) (stevedorelaw36_digits.l0 (k + 1) y0 y1))
  | 0 => fun _ _ r h => by simp [stevedorelaw36_digits.l0] at h
  | k + 1 => by
    have ih0 := stevedorelaw36_digits.mono_l k
    · intro y0 y1
      unfold stevedorelaw36_digits.l0
      repeat' first
      | (with_reducible exact ih0 _ _)
      | (with_reducible exact LeO.refl _)
      | (with_reducible exact LeO.none _)
      | (with_reducible refine LeO.ite ?_ ?_)
      | (with_reducible refine LeO.bind ?_ (fun _ => ?_))
      | exact ih0 _ _
      | exact LeO.none _
      | refine LeO.ite ?_ ?_
      | refine LeO.bind ?_ (fun _ => ?_)
theorem stevedorelaw36_digits.mono : ∀ a0 k, LeO (stevedorelaw36_digits.f k a0) (stevedorelaw36_digits.f (k + 1) a0) := by
  intro a0 k
  have ih0 := stevedorelaw36_digits.mono_l k
  unfold stevedorelaw36_digits.f
  repeat' first
      | (with_reducible exact ih0 _ _)
      | (with_reducible exact LeO.refl _)
      | (with_reducible exact LeO.none _)
      | (with_reducible refine LeO.ite ?_ ?_)
      | (with_reducible refine LeO.bind ?_ (fun _ => ?_))
      | exact ih0 _ _
      | exact LeO.none _
      | refine LeO.ite ?_ ?_
      | refine LeO.bind ?_ (fun _ => ?_)
set_option maxHeartbeats 8000000 in
set_option maxRecDepth 100000 in
theorem stevedorelaw36_digits.calls (k : Nat) (a0 : Int) (r : ByteArray) (w : World) (h : stevedorelaw36_digits.f k a0 = some r) :
    Calls Tryd.prog 28 #[.int .i64 a0] w fun e w' => e = .returned (.string r) ∧ Drawn0 w w' := by
  have H : (stevedorelaw36_digits.l0 k a0 (⟨#[]⟩ : ByteArray)) = some r := h
  clear h
  have H' := Aside0.mk H
  clear H
  go_enter Tryd.func28, Tryd.ntmps28
  go_wp2
  go_loopg [0, 3] k (fun kq v0 v3 w' => ∃ (x0_1 : Int) (x3_1 : ByteArray), v0 = .int .i64 x0_1 ∧ v3 = .string x3_1 ∧ Aside0 (stevedorelaw36_digits.l0 kq x0_1 x3_1 = some r) ∧ Aside0 (kq ≤ k) ∧ Drawn0 w w')
  case atStart => exact ⟨(a0), ((⟨#[]⟩ : ByteArray)), (by first | rfl | (simp; done) | (simp [*]; done)), (by first | rfl | (simp; done) | (simp [*]; done)), H', ⟨Nat.le_refl _⟩, by repeat (first | exact Drawn0.refl _ | apply Drawn0.step)⟩
  case round =>
    clear H'
    obtain ⟨x0_1, x3_1, rfl, rfl, HA, HK1, ⟨m1, rfl⟩⟩ := hrel
    cases gk with
    | zero => exact absurd HA.out (by simp [stevedorelaw36_digits.l0])
    | succ k1 =>
      have H := HA.out
      clear HA
      simp only [stevedorelaw36_digits.l0] at H
      by_cases c2 : x0_1 ≥ 10
      · rw [if_pos c2] at H
        have c2b0 : decide (10 ≤ x0_1) = true := decide_eq_true c2
        clear c2
        obtain ⟨ji3, hji3⟩ : ∃ j_ : Int, (Int.tmod x0_1 10) = j_ := ⟨_, rfl⟩
        replace H : (if 0 ≤ (ji3) then (if (ji3) ≤ (wrap64 ((ji3) + 1)) then (if (wrap64 ((ji3) + 1)) ≤ 10 then (if ((⟨#[48, 49, 50, 51, 52, 53, 54, 55, 56, 57]⟩ : ByteArray).extract ((ji3) : Int).toNat ((wrap64 ((ji3) + 1)) : Int).toNat).size + x3_1.size ≤ 9223372036854775807 then (stevedorelaw36_digits.l0 k1 (wrap64 (Int.tdiv x0_1 10)) (((⟨#[48, 49, 50, 51, 52, 53, 54, 55, 56, 57]⟩ : ByteArray).extract ((ji3) : Int).toNat ((wrap64 ((ji3) + 1)) : Int).toNat) ++ x3_1)) else (none)) else (none)) else (none)) else (none)) = some r := by first | (rw [hji3] at H; exact H) | (simp only [hji3] at H ⊢; exact H)
        by_cases c4 : 0 ≤ (ji3)
        · rw [if_pos c4] at H
          have c4b0 := eq_true c4
          have c4b1 : decide (0 ≤ (ji3)) = true := decide_eq_true c4
          clear c4
          by_cases c5 : (ji3) ≤ (wrap64 ((ji3) + 1))
          · rw [if_pos c5] at H
            have c5b0 := eq_true c5
            have c5b1 : decide ((ji3) ≤ (wrap64 ((ji3) + 1))) = true := decide_eq_true c5
            by_cases c6 : (wrap64 ((ji3) + 1)) ≤ 10
            · rw [if_pos c6] at H
              have c6b0 := eq_true c6
              have c6b1 : decide ((wrap64 ((ji3) + 1)) ≤ 10) = true := decide_eq_true c6
              by_cases c7 : ((⟨#[48, 49, 50, 51, 52, 53, 54, 55, 56, 57]⟩ : ByteArray).extract ((ji3) : Int).toNat ((wrap64 ((ji3) + 1)) : Int).toNat).size + x3_1.size ≤ 9223372036854775807
              · rw [if_pos c7] at H
                have c7b0 := eq_true c7
                have c7b1 : decide (((⟨#[48, 49, 50, 51, 52, 53, 54, 55, 56, 57]⟩ : ByteArray).extract ((ji3) : Int).toNat ((wrap64 ((ji3) + 1)) : Int).toNat).size + x3_1.size ≤ 9223372036854775807) = true := decide_eq_true c7
                (try (have c7b1s := c7b1; simp only [ByteArray.size_append, ByteArray.size_extract, Nat.min_self, show (ByteArray.mk #[48, 49, 50, 51, 52, 53, 54, 55, 56, 57]).size = 10 from rfl] at c7b1s))
                (try (have c7b1t := c7b1; simp only [ByteArray.size_append, ByteArray.size_extract, Nat.min_self, show (ByteArray.mk #[48, 49, 50, 51, 52, 53, 54, 55, 56, 57]).size = 10 from rfl, Int.natCast_add, Int.cast_ofNat_Int] at c7b1t))
                try have c7b2 : (9223372036854775807 < ((⟨#[48, 49, 50, 51, 52, 53, 54, 55, 56, 57]⟩ : ByteArray).extract ((ji3) : Int).toNat ((wrap64 ((ji3) + 1)) : Int).toNat).size + x3_1.size) = False := eq_false (Nat.not_lt.2 c7)
                (try (have c7b2s := c7b2; simp only [ByteArray.size_append, ByteArray.size_extract, Nat.min_self, show (ByteArray.mk #[48, 49, 50, 51, 52, 53, 54, 55, 56, 57]).size = 10 from rfl] at c7b2s))
                (try (have c7b2t := c7b2; simp only [ByteArray.size_append, ByteArray.size_extract, Nat.min_self, show (ByteArray.mk #[48, 49, 50, 51, 52, 53, 54, 55, 56, 57]).size = 10 from rfl, Int.natCast_add, Int.cast_ofNat_Int] at c7b2t))
                have H' := Aside0.mk H
                clear H
                go_wp2
                go_roundg k1
                case measure => have := HK1.out; omega
                case rel => exact ⟨(wrap64 (Int.tdiv x0_1 10)), (((⟨#[48, 49, 50, 51, 52, 53, 54, 55, 56, 57]⟩ : ByteArray).extract ((ji3) : Int).toNat ((wrap64 ((ji3) + 1)) : Int).toNat) ++ x3_1), (by first | rfl | (simp; done) | (simp [*]; done)), (by first | rfl | (simp; done) | (simp only [← hji3] <;> (first | rfl | simp)) | (simp [*]; done)), H', ⟨by have := HK1.out; omega⟩, by repeat (first | exact Drawn0.refl _ | apply Drawn0.step)⟩
              · rw [if_neg c7] at H
                exact absurd H (by simp)
            · rw [if_neg c6] at H
              exact absurd H (by simp)
          · rw [if_neg c5] at H
            exact absurd H (by simp)
        · rw [if_neg c4] at H
          exact absurd H (by simp)
      · rw [if_neg c2] at H
        have c2b0 : decide (10 ≤ x0_1) = false := decide_eq_false c2
        clear c2
        by_cases c8 : 0 ≤ x0_1
        · rw [if_pos c8] at H
          have c8b0 := eq_true c8
          have c8b1 : decide (0 ≤ x0_1) = true := decide_eq_true c8
          clear c8
          by_cases c9 : x0_1 ≤ (wrap64 (x0_1 + 1))
          · rw [if_pos c9] at H
            have c9b0 := eq_true c9
            have c9b1 : decide (x0_1 ≤ (wrap64 (x0_1 + 1))) = true := decide_eq_true c9
            by_cases c10 : (wrap64 (x0_1 + 1)) ≤ 10
            · rw [if_pos c10] at H
              have c10b0 := eq_true c10
              have c10b1 : decide ((wrap64 (x0_1 + 1)) ≤ 10) = true := decide_eq_true c10
              by_cases c11 : ((⟨#[48, 49, 50, 51, 52, 53, 54, 55, 56, 57]⟩ : ByteArray).extract (x0_1 : Int).toNat ((wrap64 (x0_1 + 1)) : Int).toNat).size + x3_1.size ≤ 9223372036854775807
              · rw [if_pos c11] at H
                have c11b0 := eq_true c11
                have c11b1 : decide (((⟨#[48, 49, 50, 51, 52, 53, 54, 55, 56, 57]⟩ : ByteArray).extract (x0_1 : Int).toNat ((wrap64 (x0_1 + 1)) : Int).toNat).size + x3_1.size ≤ 9223372036854775807) = true := decide_eq_true c11
                (try (have c11b1s := c11b1; simp only [ByteArray.size_append, ByteArray.size_extract, Nat.min_self, show (ByteArray.mk #[48, 49, 50, 51, 52, 53, 54, 55, 56, 57]).size = 10 from rfl] at c11b1s))
                (try (have c11b1t := c11b1; simp only [ByteArray.size_append, ByteArray.size_extract, Nat.min_self, show (ByteArray.mk #[48, 49, 50, 51, 52, 53, 54, 55, 56, 57]).size = 10 from rfl, Int.natCast_add, Int.cast_ofNat_Int] at c11b1t))
                try have c11b2 : (9223372036854775807 < ((⟨#[48, 49, 50, 51, 52, 53, 54, 55, 56, 57]⟩ : ByteArray).extract (x0_1 : Int).toNat ((wrap64 (x0_1 + 1)) : Int).toNat).size + x3_1.size) = False := eq_false (Nat.not_lt.2 c11)
                (try (have c11b2s := c11b2; simp only [ByteArray.size_append, ByteArray.size_extract, Nat.min_self, show (ByteArray.mk #[48, 49, 50, 51, 52, 53, 54, 55, 56, 57]).size = 10 from rfl] at c11b2s))
                (try (have c11b2t := c11b2; simp only [ByteArray.size_append, ByteArray.size_extract, Nat.min_self, show (ByteArray.mk #[48, 49, 50, 51, 52, 53, 54, 55, 56, 57]).size = 10 from rfl, Int.natCast_add, Int.cast_ofNat_Int] at c11b2t))
                obtain rfl := Option.some.inj H
                go_wp2
                go_ret
                exact ⟨by first | rfl | (simp only [show ∀ l : List UInt8, (l != []) = (!l.isEmpty) from fun l => by cases l <;> rfl]; rfl) | (simp; done) | (simp [*]; done), by repeat (first | exact Drawn0.refl _ | apply Drawn0.step)⟩
              · rw [if_neg c11] at H
                exact absurd H (by simp)
            · rw [if_neg c10] at H
              exact absurd H (by simp)
          · rw [if_neg c9] at H
            exact absurd H (by simp)
        · rw [if_neg c8] at H
          exact absurd H (by simp)

/-! ### stevedoreref35_sign: function 61 -/
def stevedoreref35_sign.f (a0 : Nat) : Option (Bool) := if (FloatKind.f64.format.order a0 0 == some .lt) = true then (some true) else (if (FloatKind.f64.format.order a0 0 == some .eq) = true then (if (fvalid .quo 4607182418800017408 a0) = true then (some (FloatKind.f64.format.order (fop .quo 4607182418800017408 a0) 0 == some .lt)) else (none)) else (some false))
set_option maxHeartbeats 8000000 in
set_option maxRecDepth 100000 in
theorem stevedoreref35_sign.calls (a0 : Nat) (r : Bool) (w : World) (h : stevedoreref35_sign.f a0 = some r) :
    Calls Tryd.prog 61 #[.float .f64 a0] w fun e w' => e = .returned (.bool r) ∧ Drawn0 w w' := by
  have H : (if (FloatKind.f64.format.order a0 0 == some .lt) = true then (some true) else (if (FloatKind.f64.format.order a0 0 == some .eq) = true then (if (fvalid .quo 4607182418800017408 a0) = true then (some (FloatKind.f64.format.order (fop .quo 4607182418800017408 a0) 0 == some .lt)) else (none)) else (some false))) = some r := h
  clear h
  by_cases c2 : (FloatKind.f64.format.order a0 0 == some .lt) = true
  · rw [if_pos c2] at H
    have c2b0 : (FloatKind.f64.format.order a0 0 == some .lt) = true := c2
    (try (have c2b1 : decide (FloatKind.f64.format.order a0 0 = some .lt) = true := by simpa using c2))
    (try (have c2b2 : (FloatKind.f64.format.order a0 0 == some .lt) = true := by simpa using c2))
    clear c2
    obtain rfl := Option.some.inj H
    go_enter Tryd.func61, Tryd.ntmps61
    go_wp2
    go_ret
    exact ⟨by first | rfl | (simp only [show ∀ l : List UInt8, (l != []) = (!l.isEmpty) from fun l => by cases l <;> rfl]; rfl) | (simp; done) | (simp [*]; done), by repeat (first | exact Drawn0.refl _ | apply Drawn0.step)⟩
  · rw [if_neg c2] at H
    have c2b0 : (FloatKind.f64.format.order a0 0 == some .lt) = false := by simpa using c2
    (try (have c2b1 : decide (FloatKind.f64.format.order a0 0 = some .lt) = false := by simpa using c2))
    (try (have c2b2 : (FloatKind.f64.format.order a0 0 == some .lt) = false := by simpa using c2))
    (try (have c2b3 : ¬ (FloatKind.f64.format.order a0 0 = some .lt) := by simpa using c2))
    clear c2
    by_cases c3 : (FloatKind.f64.format.order a0 0 == some .eq) = true
    · rw [if_pos c3] at H
      have c3b0 : (FloatKind.f64.format.order a0 0 == some .eq) = true := c3
      (try (have c3b1 : decide (FloatKind.f64.format.order a0 0 = some .eq) = true := by simpa using c3))
      (try (have c3b2 : (FloatKind.f64.format.order a0 0 == some .eq) = true := by simpa using c3))
      clear c3
      by_cases c4 : (fvalid .quo 4607182418800017408 a0) = true
      · rw [if_pos c4] at H
        have c4b0 := eq_true c4
        have c4b1 : decide ((fvalid .quo 4607182418800017408 a0) = true) = true := decide_eq_true c4
        clear c4
        obtain rfl := Option.some.inj H
        go_enter Tryd.func61, Tryd.ntmps61
        go_wp2
        go_ret
        exact ⟨by first | rfl | (simp only [show ∀ l : List UInt8, (l != []) = (!l.isEmpty) from fun l => by cases l <;> rfl]; rfl) | (simp; done) | (simp [*]; done), by repeat (first | exact Drawn0.refl _ | apply Drawn0.step)⟩
      · rw [if_neg c4] at H
        exact absurd H (by simp)
    · rw [if_neg c3] at H
      have c3b0 : (FloatKind.f64.format.order a0 0 == some .eq) = false := by simpa using c3
      (try (have c3b1 : decide (FloatKind.f64.format.order a0 0 = some .eq) = false := by simpa using c3))
      (try (have c3b2 : (FloatKind.f64.format.order a0 0 == some .eq) = false := by simpa using c3))
      (try (have c3b3 : ¬ (FloatKind.f64.format.order a0 0 = some .eq) := by simpa using c3))
      clear c3
      obtain rfl := Option.some.inj H
      go_enter Tryd.func61, Tryd.ntmps61
      go_wp2
      go_ret
      exact ⟨by first | rfl | (simp only [show ∀ l : List UInt8, (l != []) = (!l.isEmpty) from fun l => by cases l <;> rfl]; rfl) | (simp; done) | (simp [*]; done), by repeat (first | exact Drawn0.refl _ | apply Drawn0.step)⟩

/-! ### stevedoreref35_SameFloat: function 27 -/
def stevedoreref35_SameFloat.f (a0 : Nat) (a1 : Nat) : Option (Bool) := if (FloatKind.f64.format.order a0 a0 != some .eq) = true then (if (FloatKind.f64.format.order a1 a1 != some .eq) = true then (some true) else (if (FloatKind.f64.format.order a0 a1 == some .eq) = true then ((stevedoreref35_sign.f a0).bind fun t138 => ((stevedoreref35_sign.f a1).bind fun t139 => (some (t138 == t139)))) else (some false))) else (if (FloatKind.f64.format.order a0 a1 == some .eq) = true then ((stevedoreref35_sign.f a0).bind fun t140 => ((stevedoreref35_sign.f a1).bind fun t141 => (some (t140 == t141)))) else (some false))
set_option maxHeartbeats 8000000 in
set_option maxRecDepth 100000 in
theorem stevedoreref35_SameFloat.calls (a0 : Nat) (a1 : Nat) (r : Bool) (w : World) (h : stevedoreref35_SameFloat.f a0 a1 = some r) :
    Calls Tryd.prog 27 #[.float .f64 a0, .float .f64 a1] w fun e w' => e = .returned (.bool r) ∧ Drawn0 w w' := by
  have H : (if (FloatKind.f64.format.order a0 a0 != some .eq) = true then (if (FloatKind.f64.format.order a1 a1 != some .eq) = true then (some true) else (if (FloatKind.f64.format.order a0 a1 == some .eq) = true then ((stevedoreref35_sign.f a0).bind fun t138 => ((stevedoreref35_sign.f a1).bind fun t139 => (some (t138 == t139)))) else (some false))) else (if (FloatKind.f64.format.order a0 a1 == some .eq) = true then ((stevedoreref35_sign.f a0).bind fun t140 => ((stevedoreref35_sign.f a1).bind fun t141 => (some (t140 == t141)))) else (some false))) = some r := h
  clear h
  by_cases c3 : (FloatKind.f64.format.order a0 a0 != some .eq) = true
  · rw [if_pos c3] at H
    have c3b0 : (FloatKind.f64.format.order a0 a0 != some .eq) = true := c3
    (try (have c3b1 : decide (FloatKind.f64.format.order a0 a0 = some .eq) = false := by simpa using c3))
    (try (have c3b2 : (FloatKind.f64.format.order a0 a0 == some .eq) = false := by simpa using c3))
    (try (have c3b3 : ¬ (FloatKind.f64.format.order a0 a0 = some .eq) := by simpa using c3))
    clear c3
    by_cases c4 : (FloatKind.f64.format.order a1 a1 != some .eq) = true
    · rw [if_pos c4] at H
      have c4b0 : (FloatKind.f64.format.order a1 a1 != some .eq) = true := c4
      (try (have c4b1 : decide (FloatKind.f64.format.order a1 a1 = some .eq) = false := by simpa using c4))
      (try (have c4b2 : (FloatKind.f64.format.order a1 a1 == some .eq) = false := by simpa using c4))
      (try (have c4b3 : ¬ (FloatKind.f64.format.order a1 a1 = some .eq) := by simpa using c4))
      clear c4
      obtain rfl := Option.some.inj H
      go_enter Tryd.func27, Tryd.ntmps27
      go_wp2
      go_ret
      exact ⟨by first | rfl | (simp only [show ∀ l : List UInt8, (l != []) = (!l.isEmpty) from fun l => by cases l <;> rfl]; rfl) | (simp; done) | (simp [*]; done), by repeat (first | exact Drawn0.refl _ | apply Drawn0.step)⟩
    · rw [if_neg c4] at H
      have c4b0 : (FloatKind.f64.format.order a1 a1 != some .eq) = false := by simpa using c4
      (try (have c4b1 : decide (FloatKind.f64.format.order a1 a1 = some .eq) = true := by simpa using c4))
      (try (have c4b2 : (FloatKind.f64.format.order a1 a1 == some .eq) = true := by simpa using c4))
      clear c4
      by_cases c5 : (FloatKind.f64.format.order a0 a1 == some .eq) = true
      · rw [if_pos c5] at H
        have c5b0 : (FloatKind.f64.format.order a0 a1 == some .eq) = true := c5
        (try (have c5b1 : decide (FloatKind.f64.format.order a0 a1 = some .eq) = true := by simpa using c5))
        (try (have c5b2 : (FloatKind.f64.format.order a0 a1 == some .eq) = true := by simpa using c5))
        clear c5
        replace H := Option.bind_eq_some_iff.mp H
        obtain ⟨t138, A60, H⟩ := H
        replace H : ((stevedoreref35_sign.f a1).bind fun t139 => (some (t138 == t139))) = some r := H
        have A6 := Aside0.mk A60
        clear A60
        replace H := Option.bind_eq_some_iff.mp H
        obtain ⟨t139, A70, H⟩ := H
        replace H : (some (t138 == t139)) = some r := H
        have A7 := Aside0.mk A70
        clear A70
        obtain rfl := Option.some.inj H
        go_enter Tryd.func27, Tryd.ntmps27
        go_wp2_with (first | (go_at_call 61; (with_reducible refine (stevedoreref35_sign.calls a0 t138 _ A6.out).mono ?_); rintro e w' ⟨rfl, ⟨nd, rfl⟩⟩) | (go_at_call 61; (with_reducible refine (stevedoreref35_sign.calls a1 t139 _ A7.out).mono ?_); rintro e w' ⟨rfl, ⟨nd, rfl⟩⟩))
        go_ret
        exact ⟨by first | rfl | (simp only [show ∀ l : List UInt8, (l != []) = (!l.isEmpty) from fun l => by cases l <;> rfl]; rfl) | (simp; done) | (simp [*]; done), by repeat (first | exact Drawn0.refl _ | apply Drawn0.step)⟩
      · rw [if_neg c5] at H
        have c5b0 : (FloatKind.f64.format.order a0 a1 == some .eq) = false := by simpa using c5
        (try (have c5b1 : decide (FloatKind.f64.format.order a0 a1 = some .eq) = false := by simpa using c5))
        (try (have c5b2 : (FloatKind.f64.format.order a0 a1 == some .eq) = false := by simpa using c5))
        (try (have c5b3 : ¬ (FloatKind.f64.format.order a0 a1 = some .eq) := by simpa using c5))
        clear c5
        obtain rfl := Option.some.inj H
        go_enter Tryd.func27, Tryd.ntmps27
        go_wp2
        go_ret
        exact ⟨by first | rfl | (simp only [show ∀ l : List UInt8, (l != []) = (!l.isEmpty) from fun l => by cases l <;> rfl]; rfl) | (simp; done) | (simp [*]; done), by repeat (first | exact Drawn0.refl _ | apply Drawn0.step)⟩
  · rw [if_neg c3] at H
    have c3b0 : (FloatKind.f64.format.order a0 a0 != some .eq) = false := by simpa using c3
    (try (have c3b1 : decide (FloatKind.f64.format.order a0 a0 = some .eq) = true := by simpa using c3))
    (try (have c3b2 : (FloatKind.f64.format.order a0 a0 == some .eq) = true := by simpa using c3))
    clear c3
    by_cases c8 : (FloatKind.f64.format.order a0 a1 == some .eq) = true
    · rw [if_pos c8] at H
      have c8b0 : (FloatKind.f64.format.order a0 a1 == some .eq) = true := c8
      (try (have c8b1 : decide (FloatKind.f64.format.order a0 a1 = some .eq) = true := by simpa using c8))
      (try (have c8b2 : (FloatKind.f64.format.order a0 a1 == some .eq) = true := by simpa using c8))
      clear c8
      replace H := Option.bind_eq_some_iff.mp H
      obtain ⟨t140, A90, H⟩ := H
      replace H : ((stevedoreref35_sign.f a1).bind fun t141 => (some (t140 == t141))) = some r := H
      have A9 := Aside0.mk A90
      clear A90
      replace H := Option.bind_eq_some_iff.mp H
      obtain ⟨t141, A100, H⟩ := H
      replace H : (some (t140 == t141)) = some r := H
      have A10 := Aside0.mk A100
      clear A100
      obtain rfl := Option.some.inj H
      go_enter Tryd.func27, Tryd.ntmps27
      go_wp2_with (first | (go_at_call 61; (with_reducible refine (stevedoreref35_sign.calls a0 t140 _ A9.out).mono ?_); rintro e w' ⟨rfl, ⟨nd, rfl⟩⟩) | (go_at_call 61; (with_reducible refine (stevedoreref35_sign.calls a1 t141 _ A10.out).mono ?_); rintro e w' ⟨rfl, ⟨nd, rfl⟩⟩))
      go_ret
      exact ⟨by first | rfl | (simp only [show ∀ l : List UInt8, (l != []) = (!l.isEmpty) from fun l => by cases l <;> rfl]; rfl) | (simp; done) | (simp [*]; done), by repeat (first | exact Drawn0.refl _ | apply Drawn0.step)⟩
    · rw [if_neg c8] at H
      have c8b0 : (FloatKind.f64.format.order a0 a1 == some .eq) = false := by simpa using c8
      (try (have c8b1 : decide (FloatKind.f64.format.order a0 a1 = some .eq) = false := by simpa using c8))
      (try (have c8b2 : (FloatKind.f64.format.order a0 a1 == some .eq) = false := by simpa using c8))
      (try (have c8b3 : ¬ (FloatKind.f64.format.order a0 a1 = some .eq) := by simpa using c8))
      clear c8
      obtain rfl := Option.some.inj H
      go_enter Tryd.func27, Tryd.ntmps27
      go_wp2
      go_ret
      exact ⟨by first | rfl | (simp only [show ∀ l : List UInt8, (l != []) = (!l.isEmpty) from fun l => by cases l <;> rfl]; rfl) | (simp; done) | (simp [*]; done), by repeat (first | exact Drawn0.refl _ | apply Drawn0.step)⟩

end Go.Proofs.YtfmfikodnpnblaaDoor.PRate1

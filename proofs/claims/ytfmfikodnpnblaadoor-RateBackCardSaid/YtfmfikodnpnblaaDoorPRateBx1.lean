-- Written by this repo's gprint.py over the kit's printer, out of the translation. Not trusted: Lean checks it.
import Derived.Test.YtfmfikodnpnblaaDoorWGuard
import Derived.Test.YtfmfikodnpnblaaDoorPRateBx0
import Derived.Test.YtfmfikodnpnblaaDoorClkAtoiRateB
namespace Go.Proofs.YtfmfikodnpnblaaDoor.PRateB
open Go.RowKit Go.Proofs.YtfmfikodnpnblaaDoorW.PrintWords Go.Proofs.YtfmfikodnpnblaaDoorW.PrintLast Go.Proofs.YtfmfikodnpnblaaDoorW.PrintMore
attribute [local go_sem] max2_int min2_int max_two min_two max_three min_three max_four min_four   -- for this text's walks alone
open Go.Proofs.YtfmfikodnpnblaaDoor.ClkAtoiRateB Go.Proofs.YtfmfikodnpnblaaDoor.ClkLib Go.Proofs.YtfmfikodnpnblaaDoor.PRate1 Go.Proofs.YtfmfikodnpnblaaDoor.RateLibB
attribute [local go_sem] fop_run fint_run fofint_run
set_option linter.unusedVariables false
set_option linter.unusedSimpArgs false

-- function 30 (rate_Text): by hand

-- function 54 (math_NaN): by hand

-- function 62 (math_Inf): by hand

-- function 63 (strings_CutPrefix): by hand

-- function 64 (strings_Cut): by hand

-- function 65 (strconv_Atoi): by hand

-- function 66 (math_Copysign): by hand

/-! ### rate_Parse: function 29 -/
def rate_Parse.j0 : Nat → ByteArray → Bool → Int → Bool → Option (Nat × Int)
  | 0, _, _, _, _ => none
  | k + 1, x0, x5, x9, x48 => if x48 = true then (some (0, 2)) else (if (fvalid .quo (floatOfInt .f64 x9) 4652007308841189376) = true then (if x5 = true then ((math_Copysign.f (fop .quo (floatOfInt .f64 x9) 4652007308841189376) 13830554455654793216).bind fun t112 => ((rate_Text.f k t112).bind fun t113 => (if t113.toList = x0.toList then (some (t112, 0)) else (some (0, 2))))) else ((rate_Text.f k (fop .quo (floatOfInt .f64 x9) 4652007308841189376)).bind fun t114 => (if t114.toList = x0.toList then (some (fop .quo (floatOfInt .f64 x9) 4652007308841189376, 0)) else (some (0, 2))))) else (none))
def rate_Parse.f (k : Nat) (a0 : ByteArray) : Option (Nat × Int) := if a0.toList = ([78, 97, 78] : List UInt8) then ((math_NaN.f).bind fun t101 => (some (t101, 0))) else (if a0.toList = ([43, 73, 110, 102] : List UInt8) then ((math_Inf.f 1).bind fun t102 => (some (t102, 0))) else (if a0.toList = ([45, 73, 110, 102] : List UInt8) then ((math_Inf.f (-1)).bind fun t103 => (some (t103, 0))) else (if a0.toList = ([43, 66, 105, 103] : List UInt8) then (some (0, 7)) else (if a0.toList = ([45, 66, 105, 103] : List UInt8) then (some (0, 7)) else ((strings_CutPrefix.f a0 (⟨#[45]⟩ : ByteArray)).bind fun bt104 => ((strings_Cut.f bt104.1 (⟨#[46]⟩ : ByteArray)).bind fun bt106 => (if bt106.1.size + bt106.2.1.size ≤ 9223372036854775807 then ((strconv_Atoi.f (bt106.1 ++ bt106.2.1)).bind fun bt109 => (if bt109.2.isNone = true then (rate_Parse.j0 k a0 bt104.2 bt109.1 (decide (bt109.1 > 1125899906842624))) else (rate_Parse.j0 k a0 bt104.2 bt109.1 true))) else (none))))))))
theorem rate_Parse.mono_l : ∀ k, (∀ y0 y1 y2 y3, LeO (rate_Parse.j0 k y0 y1 y2 y3) (rate_Parse.j0 (k + 1) y0 y1 y2 y3))
  | 0 => fun _ _ _ _ r h => by simp [rate_Parse.j0] at h
  | k + 1 => by
    have ih0 := rate_Parse.mono_l k
    · intro y0 y1 y2 y3
      unfold rate_Parse.j0
      repeat' first
      | (with_reducible exact ih0 _ _ _ _)
      | (with_reducible exact rate_Text.mono _ _)
      | (with_reducible exact LeO.refl _)
      | (with_reducible exact LeO.none _)
      | (with_reducible refine LeO.ite ?_ ?_)
      | (with_reducible refine LeO.bind ?_ (fun _ => ?_))
      | exact ih0 _ _ _ _
      | exact rate_Text.mono _ _
      | exact LeO.none _
      | refine LeO.ite ?_ ?_
      | refine LeO.bind ?_ (fun _ => ?_)
theorem rate_Parse.mono : ∀ a0 k, LeO (rate_Parse.f k a0) (rate_Parse.f (k + 1) a0) := by
  intro a0 k
  have ih0 := rate_Parse.mono_l k
  unfold rate_Parse.f
  repeat' first
      | (with_reducible exact ih0 _ _ _ _)
      | (with_reducible exact rate_Text.mono _ _)
      | (with_reducible exact LeO.refl _)
      | (with_reducible exact LeO.none _)
      | (with_reducible refine LeO.ite ?_ ?_)
      | (with_reducible refine LeO.bind ?_ (fun _ => ?_))
      | exact ih0 _ _ _ _
      | exact rate_Text.mono _ _
      | exact LeO.none _
      | refine LeO.ite ?_ ?_
      | refine LeO.bind ?_ (fun _ => ?_)
set_option maxHeartbeats 8000000 in
set_option maxRecDepth 100000 in
theorem rate_Parse.calls (k : Nat) (a0 : ByteArray) (r1 : Nat) (r2 : Int) (w : World) (h : rate_Parse.f k a0 = some (r1, r2)) (hv : Go.Proofs.YtfmfikodnpnblaaDoor.ClkLib.Vars w) :
    Calls Tryd.prog 29 #[.string a0] w fun e w' => e = .returned (.tuple #[.float .f64 r1, .int .i64 r2]) ∧ Below w.heap.size w w' := by
  have HVARS := Aside0.mk hv
  have hu80 := Tryd.underlying80
  have HB := Aside0.mk (Below.refl w.heap.size w)
  have H : (if a0.toList = ([78, 97, 78] : List UInt8) then ((math_NaN.f).bind fun t101 => (some (t101, 0))) else (if a0.toList = ([43, 73, 110, 102] : List UInt8) then ((math_Inf.f 1).bind fun t102 => (some (t102, 0))) else (if a0.toList = ([45, 73, 110, 102] : List UInt8) then ((math_Inf.f (-1)).bind fun t103 => (some (t103, 0))) else (if a0.toList = ([43, 66, 105, 103] : List UInt8) then (some (0, 7)) else (if a0.toList = ([45, 66, 105, 103] : List UInt8) then (some (0, 7)) else ((strings_CutPrefix.f a0 (⟨#[45]⟩ : ByteArray)).bind fun bt104 => ((strings_Cut.f bt104.1 (⟨#[46]⟩ : ByteArray)).bind fun bt106 => (if bt106.1.size + bt106.2.1.size ≤ 9223372036854775807 then ((strconv_Atoi.f (bt106.1 ++ bt106.2.1)).bind fun bt109 => (if bt109.2.isNone = true then (rate_Parse.j0 k a0 bt104.2 bt109.1 (decide (bt109.1 > 1125899906842624))) else (rate_Parse.j0 k a0 bt104.2 bt109.1 true))) else (none))))))))) = some (r1, r2) := h
  clear h
  by_cases c2 : a0.toList = ([78, 97, 78] : List UInt8)
  · rw [if_pos c2] at H
    have c2b0 : (a0.toList == ([78, 97, 78] : List UInt8)) = true := beq_iff_eq.mpr c2
    have c2b1 : (a0.toList != ([78, 97, 78] : List UInt8)) = false := bne_eq_false_iff_eq.mpr c2
    clear c2
    replace H := Option.bind_eq_some_iff.mp H
    obtain ⟨t101, A30, H⟩ := H
    replace H : (some (t101, 0)) = some (r1, r2) := H
    have A3 := Aside0.mk A30
    clear A30
    simp only [Option.some.injEq, Prod.mk.injEq] at H
    obtain ⟨rfl, rfl⟩ := H
    go_enter Tryd.func29, Tryd.ntmps29
    go_wp2_with (first | ((with_reducible refine gate_callee (f := 54) rfl ?_); refine goesL_ (some 15) rfl rfl Tryd.func54 (by kernel_rfl) rfl #[] rfl (by (try simp only [List.map_toArray, List.map_cons, List.map_nil]); first | done | rfl | (simp only [List.length_drop, List.length_take]; rfl)) ?_; (with_reducible refine (math_NaN.calls  t101 _ A3.out).mono ?_); rintro e w4 ⟨rfl, hb⟩; refine ⟨_, rfl, ?_⟩; have n0_ := Aside0.mk (below_step (by repeat (first | (with_reducible first | exact HB.out | apply below_alloc | apply pw_below_drewN | apply below_drew1) | exact HB.out)) hb); clear HB; have HB := n0_; clear n0_; (try clear hb); (try clear hb2); (try clear hk); (try clear hi)))
    go_ret2
    exact ⟨by first | rfl | (simp only [show ∀ l : List UInt8, (l != []) = (!l.isEmpty) from fun l => by cases l <;> rfl]; rfl) | (simp [errW_none, errW_some] <;> rfl) | (simp [*, errW_none, errW_some] <;> rfl), by repeat (first | (with_reducible first | exact HB.out | apply below_alloc | apply pw_below_drewN | apply below_drew1) | exact HB.out)⟩
  · rw [if_neg c2] at H
    have c2b0 : (a0.toList == ([78, 97, 78] : List UInt8)) = false := beq_eq_false_iff_ne.mpr c2
    have c2b1 : (a0.toList != ([78, 97, 78] : List UInt8)) = true := bne_iff_ne.mpr c2
    by_cases c5 : a0.toList = ([43, 73, 110, 102] : List UInt8)
    · rw [if_pos c5] at H
      have c5b0 : (a0.toList == ([43, 73, 110, 102] : List UInt8)) = true := beq_iff_eq.mpr c5
      have c5b1 : (a0.toList != ([43, 73, 110, 102] : List UInt8)) = false := bne_eq_false_iff_eq.mpr c5
      clear c5
      replace H := Option.bind_eq_some_iff.mp H
      obtain ⟨t102, A60, H⟩ := H
      replace H : (some (t102, 0)) = some (r1, r2) := H
      have A6 := Aside0.mk A60
      clear A60
      simp only [Option.some.injEq, Prod.mk.injEq] at H
      obtain ⟨rfl, rfl⟩ := H
      go_enter Tryd.func29, Tryd.ntmps29
      go_wp2_with (first | ((with_reducible refine gate_callee (f := 62) rfl ?_); refine goesL_ (some 18) rfl rfl Tryd.func62 (by kernel_rfl) rfl #[.int .i64 1] rfl (by (try simp only [List.map_toArray, List.map_cons, List.map_nil]); first | done | rfl | (simp only [List.length_drop, List.length_take]; rfl)) ?_; (with_reducible refine (math_Inf.calls 1 t102 _ A6.out).mono ?_); rintro e w7 ⟨rfl, hb⟩; refine ⟨_, rfl, ?_⟩; have n0_ := Aside0.mk (below_step (by repeat (first | (with_reducible first | exact HB.out | apply below_alloc | apply pw_below_drewN | apply below_drew1) | exact HB.out)) hb); clear HB; have HB := n0_; clear n0_; (try clear hb); (try clear hb2); (try clear hk); (try clear hi)))
      go_ret2
      exact ⟨by first | rfl | (simp only [show ∀ l : List UInt8, (l != []) = (!l.isEmpty) from fun l => by cases l <;> rfl]; rfl) | (simp [errW_none, errW_some] <;> rfl) | (simp [*, errW_none, errW_some] <;> rfl), by repeat (first | (with_reducible first | exact HB.out | apply below_alloc | apply pw_below_drewN | apply below_drew1) | exact HB.out)⟩
    · rw [if_neg c5] at H
      have c5b0 : (a0.toList == ([43, 73, 110, 102] : List UInt8)) = false := beq_eq_false_iff_ne.mpr c5
      have c5b1 : (a0.toList != ([43, 73, 110, 102] : List UInt8)) = true := bne_iff_ne.mpr c5
      by_cases c8 : a0.toList = ([45, 73, 110, 102] : List UInt8)
      · rw [if_pos c8] at H
        have c8b0 : (a0.toList == ([45, 73, 110, 102] : List UInt8)) = true := beq_iff_eq.mpr c8
        have c8b1 : (a0.toList != ([45, 73, 110, 102] : List UInt8)) = false := bne_eq_false_iff_eq.mpr c8
        clear c8
        replace H := Option.bind_eq_some_iff.mp H
        obtain ⟨t103, A90, H⟩ := H
        replace H : (some (t103, 0)) = some (r1, r2) := H
        have A9 := Aside0.mk A90
        clear A90
        simp only [Option.some.injEq, Prod.mk.injEq] at H
        obtain ⟨rfl, rfl⟩ := H
        go_enter Tryd.func29, Tryd.ntmps29
        go_wp2_with (first | ((with_reducible refine gate_callee (f := 62) rfl ?_); refine goesL_ (some 21) rfl rfl Tryd.func62 (by kernel_rfl) rfl #[.int .i64 (-1)] rfl (by (try simp only [List.map_toArray, List.map_cons, List.map_nil]); first | done | rfl | (simp only [List.length_drop, List.length_take]; rfl)) ?_; (with_reducible refine (math_Inf.calls (-1) t103 _ A9.out).mono ?_); rintro e w10 ⟨rfl, hb⟩; refine ⟨_, rfl, ?_⟩; have n0_ := Aside0.mk (below_step (by repeat (first | (with_reducible first | exact HB.out | apply below_alloc | apply pw_below_drewN | apply below_drew1) | exact HB.out)) hb); clear HB; have HB := n0_; clear n0_; (try clear hb); (try clear hb2); (try clear hk); (try clear hi)))
        go_ret2
        exact ⟨by first | rfl | (simp only [show ∀ l : List UInt8, (l != []) = (!l.isEmpty) from fun l => by cases l <;> rfl]; rfl) | (simp [errW_none, errW_some] <;> rfl) | (simp [*, errW_none, errW_some] <;> rfl), by repeat (first | (with_reducible first | exact HB.out | apply below_alloc | apply pw_below_drewN | apply below_drew1) | exact HB.out)⟩
      · rw [if_neg c8] at H
        have c8b0 : (a0.toList == ([45, 73, 110, 102] : List UInt8)) = false := beq_eq_false_iff_ne.mpr c8
        have c8b1 : (a0.toList != ([45, 73, 110, 102] : List UInt8)) = true := bne_iff_ne.mpr c8
        by_cases c11 : a0.toList = ([43, 66, 105, 103] : List UInt8)
        · rw [if_pos c11] at H
          have c11b0 : (a0.toList == ([43, 66, 105, 103] : List UInt8)) = true := beq_iff_eq.mpr c11
          have c11b1 : (a0.toList != ([43, 66, 105, 103] : List UInt8)) = false := bne_eq_false_iff_eq.mpr c11
          clear c11
          simp only [Option.some.injEq, Prod.mk.injEq] at H
          obtain ⟨rfl, rfl⟩ := H
          go_enter Tryd.func29, Tryd.ntmps29
          go_wp2
          go_ret2
          exact ⟨by first | rfl | (simp only [show ∀ l : List UInt8, (l != []) = (!l.isEmpty) from fun l => by cases l <;> rfl]; rfl) | (simp [errW_none, errW_some] <;> rfl) | (simp [*, errW_none, errW_some] <;> rfl), by repeat (first | (with_reducible first | exact HB.out | apply below_alloc | apply pw_below_drewN | apply below_drew1) | exact HB.out)⟩
        · rw [if_neg c11] at H
          have c11b0 : (a0.toList == ([43, 66, 105, 103] : List UInt8)) = false := beq_eq_false_iff_ne.mpr c11
          have c11b1 : (a0.toList != ([43, 66, 105, 103] : List UInt8)) = true := bne_iff_ne.mpr c11
          by_cases c12 : a0.toList = ([45, 66, 105, 103] : List UInt8)
          · rw [if_pos c12] at H
            have c12b0 : (a0.toList == ([45, 66, 105, 103] : List UInt8)) = true := beq_iff_eq.mpr c12
            have c12b1 : (a0.toList != ([45, 66, 105, 103] : List UInt8)) = false := bne_eq_false_iff_eq.mpr c12
            clear c12
            simp only [Option.some.injEq, Prod.mk.injEq] at H
            obtain ⟨rfl, rfl⟩ := H
            go_enter Tryd.func29, Tryd.ntmps29
            go_wp2
            go_ret2
            exact ⟨by first | rfl | (simp only [show ∀ l : List UInt8, (l != []) = (!l.isEmpty) from fun l => by cases l <;> rfl]; rfl) | (simp [errW_none, errW_some] <;> rfl) | (simp [*, errW_none, errW_some] <;> rfl), by repeat (first | (with_reducible first | exact HB.out | apply below_alloc | apply pw_below_drewN | apply below_drew1) | exact HB.out)⟩
          · rw [if_neg c12] at H
            have c12b0 : (a0.toList == ([45, 66, 105, 103] : List UInt8)) = false := beq_eq_false_iff_ne.mpr c12
            have c12b1 : (a0.toList != ([45, 66, 105, 103] : List UInt8)) = true := bne_iff_ne.mpr c12
            replace H := Option.bind_eq_some_iff.mp H
            obtain ⟨⟨t104, t105⟩, A130, H⟩ := H
            replace H : ((strings_Cut.f t104 (⟨#[46]⟩ : ByteArray)).bind fun bt106 => (if bt106.1.size + bt106.2.1.size ≤ 9223372036854775807 then ((strconv_Atoi.f (bt106.1 ++ bt106.2.1)).bind fun bt109 => (if bt109.2.isNone = true then (rate_Parse.j0 k a0 t105 bt109.1 (decide (bt109.1 > 1125899906842624))) else (rate_Parse.j0 k a0 t105 bt109.1 true))) else (none))) = some (r1, r2) := H
            have A13 := Aside0.mk A130
            clear A130
            replace H := Option.bind_eq_some_iff.mp H
            obtain ⟨⟨t106, t107, t108⟩, A140, H⟩ := H
            replace H : (if t106.size + t107.size ≤ 9223372036854775807 then ((strconv_Atoi.f (t106 ++ t107)).bind fun bt109 => (if bt109.2.isNone = true then (rate_Parse.j0 k a0 t105 bt109.1 (decide (bt109.1 > 1125899906842624))) else (rate_Parse.j0 k a0 t105 bt109.1 true))) else (none)) = some (r1, r2) := H
            have A14 := Aside0.mk A140
            clear A140
            by_cases c15 : t106.size + t107.size ≤ 9223372036854775807
            · rw [if_pos c15] at H
              have c15b0 := eq_true c15
              have c15b1 : decide (t106.size + t107.size ≤ 9223372036854775807) = true := decide_eq_true c15
              try have c15b2 : (9223372036854775807 < t106.size + t107.size) = False := eq_false (Nat.not_lt.2 c15)
              replace H := Option.bind_eq_some_iff.mp H
              obtain ⟨⟨t109, t110⟩, A160, H⟩ := H
              replace H : (if t110.isNone = true then (rate_Parse.j0 k a0 t105 t109 (decide (t109 > 1125899906842624))) else (rate_Parse.j0 k a0 t105 t109 true)) = some (r1, r2) := H
              have A16 := Aside0.mk A160
              clear A160
              have HC17 := Aside0.mk H
              clear H
              go_enter Tryd.func29, Tryd.ntmps29
              go_upto_region 14 with (first | ((with_reducible refine gate_callee (f := 63) rfl ?_); refine goesL_ (some 27) rfl rfl Tryd.func63 (by kernel_rfl) rfl #[.string a0, .string (⟨#[45]⟩ : ByteArray)] rfl (by (try simp only [List.map_toArray, List.map_cons, List.map_nil]); first | done | rfl | (simp only [List.length_drop, List.length_take]; rfl)) ?_; (with_reducible refine (strings_CutPrefix.calls a0 (⟨#[45]⟩ : ByteArray) t104 t105 _ A13.out).mono ?_); rintro e w18 ⟨rfl, hb⟩; refine ⟨_, rfl, ?_⟩; have n0_ := Aside0.mk (below_step (by repeat (first | (with_reducible first | exact HB.out | apply below_alloc | apply pw_below_drewN | apply below_drew1) | exact HB.out)) hb); clear HB; have HB := n0_; clear n0_; (try clear hb); (try clear hb2); (try clear hk); (try clear hi)) | ((with_reducible refine gate_callee (f := 64) rfl ?_); refine goesL_ (some 32) rfl rfl Tryd.func64 (by kernel_rfl) rfl #[.string t104, .string (⟨#[46]⟩ : ByteArray)] rfl (by (try simp only [List.map_toArray, List.map_cons, List.map_nil]); first | done | rfl | (simp only [List.length_drop, List.length_take]; rfl)) ?_; (with_reducible refine (strings_Cut.calls t104 (⟨#[46]⟩ : ByteArray) t106 t107 t108 _ A14.out).mono ?_); rintro e w19 ⟨rfl, hb⟩; refine ⟨_, rfl, ?_⟩; have n0_ := Aside0.mk (below_step (by repeat (first | (with_reducible first | exact HB.out | apply below_alloc | apply pw_below_drewN | apply below_drew1) | exact HB.out)) hb); clear HB; have HB := n0_; clear n0_; (try clear hb); (try clear hb2); (try clear hk); (try clear hi)) | ((with_reducible refine gate_callee (f := 65) rfl ?_); refine goesL_ (some 40) rfl rfl Tryd.func65 (by kernel_rfl) rfl #[.string (t106 ++ t107)] rfl (by (try simp only [List.map_toArray, List.map_cons, List.map_nil]); first | done | rfl | (simp only [List.length_drop, List.length_take]; rfl)) ?_; (with_reducible refine (strconv_Atoi.calls (t106 ++ t107) t109 t110 _ A16.out).mono ?_); rintro e w20 ⟨rfl, hb⟩; refine ⟨_, rfl, ?_⟩; have n0_ := Aside0.mk (below_step (by repeat (first | (with_reducible first | exact HB.out | apply below_alloc | apply pw_below_drewN | apply below_drew1) | exact HB.out)) hb); clear HB; have HB := n0_; clear n0_; (try clear hb); (try clear hb2); (try clear hk); (try clear hi); (try simp only [errW_none, errW_some])))
              (try simp only [Act.put, List.setIfInBounds_toArray, List.set_cons_zero, List.set_cons_succ])
              go_cut [48] (fun v48 wc => ∃ (kq : Nat) (x48_16 : Bool), v48 = .bool x48_16 ∧ Aside0 (rate_Parse.j0 kq a0 t105 t109 x48_16 = some (r1, r2)) ∧ Aside0 (kq ≤ k) ∧ Aside0 (Below w.heap.size w wc))
              case first =>
                have H := HC17.out
                clear HC17
                rcases t110 with _ | q111
                · have H1 : (rate_Parse.j0 k a0 t105 t109 (decide (t109 > 1125899906842624))) = some (r1, r2) := by rw [if_pos (show (none : Option Int).isNone = true by rfl)] at H; exact H
                  clear H
                  have H := H1
                  clear H1
                  try simp only [errW_none, errW_some]
                  have H' := Aside0.mk H
                  clear H
                  go_wp2
                  go_meet
                  case rel => exact ⟨_, (decide (t109 > 1125899906842624)), (by first | rfl | (simp; done) | (simp [*]; done)), H', ⟨by first | omega | exact Nat.le_refl _⟩, ⟨by repeat (first | (with_reducible first | exact HB.out | apply below_alloc | apply pw_below_drewN | apply below_drew1) | exact HB.out)⟩⟩
                · have H1 : (rate_Parse.j0 k a0 t105 t109 true) = some (r1, r2) := by rw [if_neg (show ¬ (some q111).isNone = true by simp)] at H; exact H
                  clear H
                  have H := H1
                  clear H1
                  try simp only [errW_none, errW_some]
                  have H' := Aside0.mk H
                  clear H
                  go_wp2
                  go_meet
                  case rel => exact ⟨_, (true), (by first | rfl | (simp; done) | (simp [*]; done)), H', ⟨by first | omega | exact Nat.le_refl _⟩, ⟨by repeat (first | (with_reducible first | exact HB.out | apply below_alloc | apply pw_below_drewN | apply below_drew1) | exact HB.out)⟩⟩
              case rest =>
                clear HC17
                try clear c1
                try clear q1
                try clear c2
                try clear c2b0
                try clear c2b1
                try clear p2
                try clear c5
                try clear c5b0
                try clear c5b1
                try clear c6
                try clear c8
                try clear c8b0
                try clear c8b1
                try clear c11
                try clear c11b0
                try clear c11b1
                try clear q11
                try clear c12
                try clear c12b0
                try clear c12b1
                try clear c15
                try clear c15b0
                try clear c15b1
                try clear c15b2
                try clear q111
                obtain ⟨kq, x48_16, rfl, HA, HJ16, HB⟩ := hcut
                cases kq with
                | zero => exact absurd HA.out (by simp [rate_Parse.j0])
                | succ kj16 =>
                  have H := HA.out
                  clear HA
                  simp only [rate_Parse.j0] at H
                  by_cases c21 : x48_16 = true
                  · subst c21
                    have H1 : (some (0, 2)) = some (r1, r2) := by rw [if_pos rfl] at H; exact H
                    clear H
                    have H := H1
                    clear H1
                    simp only [Option.some.injEq, Prod.mk.injEq] at H
                    obtain ⟨rfl, rfl⟩ := H
                    go_wp2
                    go_ret2
                    exact ⟨by first | rfl | (simp only [show ∀ l : List UInt8, (l != []) = (!l.isEmpty) from fun l => by cases l <;> rfl]; rfl) | (simp [errW_none, errW_some] <;> rfl) | (simp [*, errW_none, errW_some] <;> rfl), by repeat (first | (with_reducible first | exact HB.out | apply below_alloc | apply pw_below_drewN | apply below_drew1) | exact HB.out)⟩
                  · replace c21 := Bool.eq_false_iff.mpr c21
                    subst c21
                    have H1 : (if (fvalid .quo (floatOfInt .f64 t109) 4652007308841189376) = true then (if t105 = true then ((math_Copysign.f (fop .quo (floatOfInt .f64 t109) 4652007308841189376) 13830554455654793216).bind fun t112 => ((rate_Text.f kj16 t112).bind fun t113 => (if t113.toList = a0.toList then (some (t112, 0)) else (some (0, 2))))) else ((rate_Text.f kj16 (fop .quo (floatOfInt .f64 t109) 4652007308841189376)).bind fun t114 => (if t114.toList = a0.toList then (some (fop .quo (floatOfInt .f64 t109) 4652007308841189376, 0)) else (some (0, 2))))) else (none)) = some (r1, r2) := by rw [if_neg (show ¬ (false = true) by decide)] at H; exact H
                    clear H
                    have H := H1
                    clear H1
                    by_cases c22 : (fvalid .quo (floatOfInt .f64 t109) 4652007308841189376) = true
                    · rw [if_pos c22] at H
                      have c22b0 := eq_true c22
                      have c22b1 : decide ((fvalid .quo (floatOfInt .f64 t109) 4652007308841189376) = true) = true := decide_eq_true c22
                      clear c22
                      by_cases c23 : t105 = true
                      · subst c23
                        have H1 : ((math_Copysign.f (fop .quo (floatOfInt .f64 t109) 4652007308841189376) 13830554455654793216).bind fun t112 => ((rate_Text.f kj16 t112).bind fun t113 => (if t113.toList = a0.toList then (some (t112, 0)) else (some (0, 2))))) = some (r1, r2) := by rw [if_pos rfl] at H; exact H
                        clear H
                        have H := H1
                        clear H1
                        replace H := Option.bind_eq_some_iff.mp H
                        obtain ⟨t112, A240, H⟩ := H
                        replace H : ((rate_Text.f kj16 t112).bind fun t113 => (if t113.toList = a0.toList then (some (t112, 0)) else (some (0, 2)))) = some (r1, r2) := H
                        have A24 := Aside0.mk A240
                        clear A240
                        replace H := Option.bind_eq_some_iff.mp H
                        obtain ⟨t113, A250, H⟩ := H
                        replace H : (if t113.toList = a0.toList then (some (t112, 0)) else (some (0, 2))) = some (r1, r2) := H
                        have A25 := Aside0.mk A250
                        clear A250
                        by_cases c26 : t113.toList = a0.toList
                        · rw [if_pos c26] at H
                          have c26b0 : (t113.toList == a0.toList) = true := beq_iff_eq.mpr c26
                          have c26b1 : (t113.toList != a0.toList) = false := bne_eq_false_iff_eq.mpr c26
                          clear c26
                          simp only [Option.some.injEq, Prod.mk.injEq] at H
                          obtain ⟨rfl, rfl⟩ := H
                          go_wp2_with (first | ((with_reducible refine gate_callee (f := 66) rfl ?_); refine goesL_ (some 54) rfl rfl Tryd.func66 (by kernel_rfl) rfl #[.float .f64 (fop .quo (floatOfInt .f64 t109) 4652007308841189376), .float .f64 13830554455654793216] rfl (by (try simp only [List.map_toArray, List.map_cons, List.map_nil]); first | done | rfl | (simp only [List.length_drop, List.length_take]; rfl)) ?_; (with_reducible refine (math_Copysign.calls (fop .quo (floatOfInt .f64 t109) 4652007308841189376) 13830554455654793216 t112 _ A24.out).mono ?_); rintro e w27 ⟨rfl, hb⟩; refine ⟨_, rfl, ?_⟩; have n0_ := Aside0.mk (below_step (by repeat (first | (with_reducible first | exact HB.out | apply below_alloc | apply pw_below_drewN | apply below_drew1) | exact HB.out)) hb); clear HB; have HB := n0_; clear n0_; (try clear hb); (try clear hb2); (try clear hk); (try clear hi)) | ((with_reducible refine gate_callee (f := 30) rfl ?_); refine goesL_ (some 56) rfl rfl Tryd.func30 (by kernel_rfl) rfl #[.float .f64 t112] rfl (by (try simp only [List.map_toArray, List.map_cons, List.map_nil]); first | done | rfl | (simp only [List.length_drop, List.length_take]; rfl)) ?_; (with_reducible refine (rate_Text.calls kj16 t112 t113 _ A25.out (Go.Proofs.YtfmfikodnpnblaaDoor.ClkLib.Vars.below HVARS.out (by repeat (first | (with_reducible first | exact HB.out | apply below_alloc | apply pw_below_drewN | apply below_drew1 | refine below_set ?_ (Aside0.out (by assumption))) | exact HB.out)))).mono ?_); rintro e w28 ⟨rfl, hb⟩; refine ⟨_, rfl, ?_⟩; have n0_ := Aside0.mk (below_step (by repeat (first | (with_reducible first | exact HB.out | apply below_alloc | apply pw_below_drewN | apply below_drew1) | exact HB.out)) hb); clear HB; have HB := n0_; clear n0_; (try clear hb); (try clear hb2); (try clear hk); (try clear hi)))
                          go_ret2
                          exact ⟨by first | rfl | (simp only [show ∀ l : List UInt8, (l != []) = (!l.isEmpty) from fun l => by cases l <;> rfl]; rfl) | (simp [errW_none, errW_some] <;> rfl) | (simp [*, errW_none, errW_some] <;> rfl), by repeat (first | (with_reducible first | exact HB.out | apply below_alloc | apply pw_below_drewN | apply below_drew1) | exact HB.out)⟩
                        · rw [if_neg c26] at H
                          have c26b0 : (t113.toList == a0.toList) = false := beq_eq_false_iff_ne.mpr c26
                          have c26b1 : (t113.toList != a0.toList) = true := bne_iff_ne.mpr c26
                          simp only [Option.some.injEq, Prod.mk.injEq] at H
                          obtain ⟨rfl, rfl⟩ := H
                          go_wp2_with (first | ((with_reducible refine gate_callee (f := 66) rfl ?_); refine goesL_ (some 54) rfl rfl Tryd.func66 (by kernel_rfl) rfl #[.float .f64 (fop .quo (floatOfInt .f64 t109) 4652007308841189376), .float .f64 13830554455654793216] rfl (by (try simp only [List.map_toArray, List.map_cons, List.map_nil]); first | done | rfl | (simp only [List.length_drop, List.length_take]; rfl)) ?_; (with_reducible refine (math_Copysign.calls (fop .quo (floatOfInt .f64 t109) 4652007308841189376) 13830554455654793216 t112 _ A24.out).mono ?_); rintro e w29 ⟨rfl, hb⟩; refine ⟨_, rfl, ?_⟩; have n0_ := Aside0.mk (below_step (by repeat (first | (with_reducible first | exact HB.out | apply below_alloc | apply pw_below_drewN | apply below_drew1) | exact HB.out)) hb); clear HB; have HB := n0_; clear n0_; (try clear hb); (try clear hb2); (try clear hk); (try clear hi)) | ((with_reducible refine gate_callee (f := 30) rfl ?_); refine goesL_ (some 56) rfl rfl Tryd.func30 (by kernel_rfl) rfl #[.float .f64 t112] rfl (by (try simp only [List.map_toArray, List.map_cons, List.map_nil]); first | done | rfl | (simp only [List.length_drop, List.length_take]; rfl)) ?_; (with_reducible refine (rate_Text.calls kj16 t112 t113 _ A25.out (Go.Proofs.YtfmfikodnpnblaaDoor.ClkLib.Vars.below HVARS.out (by repeat (first | (with_reducible first | exact HB.out | apply below_alloc | apply pw_below_drewN | apply below_drew1 | refine below_set ?_ (Aside0.out (by assumption))) | exact HB.out)))).mono ?_); rintro e w30 ⟨rfl, hb⟩; refine ⟨_, rfl, ?_⟩; have n0_ := Aside0.mk (below_step (by repeat (first | (with_reducible first | exact HB.out | apply below_alloc | apply pw_below_drewN | apply below_drew1) | exact HB.out)) hb); clear HB; have HB := n0_; clear n0_; (try clear hb); (try clear hb2); (try clear hk); (try clear hi)))
                          go_ret2
                          exact ⟨by first | rfl | (simp only [show ∀ l : List UInt8, (l != []) = (!l.isEmpty) from fun l => by cases l <;> rfl]; rfl) | (simp [errW_none, errW_some] <;> rfl) | (simp [*, errW_none, errW_some] <;> rfl), by repeat (first | (with_reducible first | exact HB.out | apply below_alloc | apply pw_below_drewN | apply below_drew1) | exact HB.out)⟩
                      · replace c23 := Bool.eq_false_iff.mpr c23
                        subst c23
                        have H1 : ((rate_Text.f kj16 (fop .quo (floatOfInt .f64 t109) 4652007308841189376)).bind fun t114 => (if t114.toList = a0.toList then (some (fop .quo (floatOfInt .f64 t109) 4652007308841189376, 0)) else (some (0, 2)))) = some (r1, r2) := by rw [if_neg (show ¬ (false = true) by decide)] at H; exact H
                        clear H
                        have H := H1
                        clear H1
                        replace H := Option.bind_eq_some_iff.mp H
                        obtain ⟨t114, A310, H⟩ := H
                        replace H : (if t114.toList = a0.toList then (some (fop .quo (floatOfInt .f64 t109) 4652007308841189376, 0)) else (some (0, 2))) = some (r1, r2) := H
                        have A31 := Aside0.mk A310
                        clear A310
                        by_cases c32 : t114.toList = a0.toList
                        · rw [if_pos c32] at H
                          have c32b0 : (t114.toList == a0.toList) = true := beq_iff_eq.mpr c32
                          have c32b1 : (t114.toList != a0.toList) = false := bne_eq_false_iff_eq.mpr c32
                          clear c32
                          simp only [Option.some.injEq, Prod.mk.injEq] at H
                          obtain ⟨rfl, rfl⟩ := H
                          go_wp2_with (first | ((with_reducible refine gate_callee (f := 30) rfl ?_); refine goesL_ (some 56) rfl rfl Tryd.func30 (by kernel_rfl) rfl #[.float .f64 (fop .quo (floatOfInt .f64 t109) 4652007308841189376)] rfl (by (try simp only [List.map_toArray, List.map_cons, List.map_nil]); first | done | rfl | (simp only [List.length_drop, List.length_take]; rfl)) ?_; (with_reducible refine (rate_Text.calls kj16 (fop .quo (floatOfInt .f64 t109) 4652007308841189376) t114 _ A31.out (Go.Proofs.YtfmfikodnpnblaaDoor.ClkLib.Vars.below HVARS.out (by repeat (first | (with_reducible first | exact HB.out | apply below_alloc | apply pw_below_drewN | apply below_drew1 | refine below_set ?_ (Aside0.out (by assumption))) | exact HB.out)))).mono ?_); rintro e w33 ⟨rfl, hb⟩; refine ⟨_, rfl, ?_⟩; have n0_ := Aside0.mk (below_step (by repeat (first | (with_reducible first | exact HB.out | apply below_alloc | apply pw_below_drewN | apply below_drew1) | exact HB.out)) hb); clear HB; have HB := n0_; clear n0_; (try clear hb); (try clear hb2); (try clear hk); (try clear hi)))
                          go_ret2
                          exact ⟨by first | rfl | (simp only [show ∀ l : List UInt8, (l != []) = (!l.isEmpty) from fun l => by cases l <;> rfl]; rfl) | (simp [errW_none, errW_some] <;> rfl) | (simp [*, errW_none, errW_some] <;> rfl), by repeat (first | (with_reducible first | exact HB.out | apply below_alloc | apply pw_below_drewN | apply below_drew1) | exact HB.out)⟩
                        · rw [if_neg c32] at H
                          have c32b0 : (t114.toList == a0.toList) = false := beq_eq_false_iff_ne.mpr c32
                          have c32b1 : (t114.toList != a0.toList) = true := bne_iff_ne.mpr c32
                          simp only [Option.some.injEq, Prod.mk.injEq] at H
                          obtain ⟨rfl, rfl⟩ := H
                          go_wp2_with (first | ((with_reducible refine gate_callee (f := 30) rfl ?_); refine goesL_ (some 56) rfl rfl Tryd.func30 (by kernel_rfl) rfl #[.float .f64 (fop .quo (floatOfInt .f64 t109) 4652007308841189376)] rfl (by (try simp only [List.map_toArray, List.map_cons, List.map_nil]); first | done | rfl | (simp only [List.length_drop, List.length_take]; rfl)) ?_; (with_reducible refine (rate_Text.calls kj16 (fop .quo (floatOfInt .f64 t109) 4652007308841189376) t114 _ A31.out (Go.Proofs.YtfmfikodnpnblaaDoor.ClkLib.Vars.below HVARS.out (by repeat (first | (with_reducible first | exact HB.out | apply below_alloc | apply pw_below_drewN | apply below_drew1 | refine below_set ?_ (Aside0.out (by assumption))) | exact HB.out)))).mono ?_); rintro e w34 ⟨rfl, hb⟩; refine ⟨_, rfl, ?_⟩; have n0_ := Aside0.mk (below_step (by repeat (first | (with_reducible first | exact HB.out | apply below_alloc | apply pw_below_drewN | apply below_drew1) | exact HB.out)) hb); clear HB; have HB := n0_; clear n0_; (try clear hb); (try clear hb2); (try clear hk); (try clear hi)))
                          go_ret2
                          exact ⟨by first | rfl | (simp only [show ∀ l : List UInt8, (l != []) = (!l.isEmpty) from fun l => by cases l <;> rfl]; rfl) | (simp [errW_none, errW_some] <;> rfl) | (simp [*, errW_none, errW_some] <;> rfl), by repeat (first | (with_reducible first | exact HB.out | apply below_alloc | apply pw_below_drewN | apply below_drew1) | exact HB.out)⟩
                    · rw [if_neg c22] at H
                      exact absurd H (by simp)
            · rw [if_neg c15] at H
              exact absurd H (by simp)

end Go.Proofs.YtfmfikodnpnblaaDoor.PRateB

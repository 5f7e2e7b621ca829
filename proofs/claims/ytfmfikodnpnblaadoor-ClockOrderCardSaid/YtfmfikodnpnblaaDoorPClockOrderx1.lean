-- Written by this repo's gprint.py over the kit's printer, out of the translation. Not trusted: Lean checks it.
import Derived.Test.YtfmfikodnpnblaaDoorPClockOrderx0
namespace Go.Proofs.YtfmfikodnpnblaaDoor.PClockOrder
open Go.RowKit Go.Proofs.YtfmfikodnpnblaaDoorW.PrintWords Go.Proofs.YtfmfikodnpnblaaDoorW.PrintLast Go.Proofs.YtfmfikodnpnblaaDoorW.PrintMore
attribute [local go_sem] max2_int min2_int max_two min_two max_three min_three max_four min_four   -- for this text's walks alone
open Go.Proofs.YtfmfikodnpnblaaDoor.ClkTold Go.Proofs.YtfmfikodnpnblaaDoor.PClk1
attribute [local go_sem] fop_run fint_run fofint_run
set_option linter.unusedVariables false
set_option linter.unusedSimpArgs false

-- function 31 (stevedorelaw4_told): by hand

-- function 35 (clock_Fine): by hand

-- function 39 (clock_Unix): by hand

-- function 40 (clock_Dos): by hand

/-! ### stevedorelaw4_ClockOrder: function 10 -/
def stevedorelaw4_ClockOrder.j0 : Nat → Nat → Nat → Option (Bool)
  | 0, _, _ => none
  | k + 1, x0, x1 => if ((FloatKind.f64.format.order x0 x1 == some .lt || FloatKind.f64.format.order x0 x1 == some .eq) = true) then ((stevedorelaw4_told.f).bind fun t102 => (if t102 = true then ((clock_Fine.f x0).bind fun t103 => ((clock_Fine.f x1).bind fun t104 => (if (FloatKind.f64.format.order t103 t104 == some .lt || FloatKind.f64.format.order t103 t104 == some .eq) = true then ((clock_Unix.f k x0).bind fun t105 => ((clock_Unix.f k x1).bind fun t106 => (if t105 ≤ t106 then ((clock_Dos.f k x0).bind fun t107 => ((clock_Dos.f k x1).bind fun t108 => (some (decide (t107 ≤ t108))))) else (some false)))) else (some false)))) else (some false))) else ((stevedorelaw4_told.f).bind fun t101 => (some t101))
def stevedorelaw4_ClockOrder.f (k : Nat) (a0 : Nat) (a1 : Nat) : Option (Bool) := if ((FloatKind.f64.format.order a0 a1 == some .lt || FloatKind.f64.format.order a0 a1 == some .eq) = true) then (stevedorelaw4_ClockOrder.j0 k a0 a1) else (stevedorelaw4_ClockOrder.j0 k a1 a0)
theorem stevedorelaw4_ClockOrder.mono_l : ∀ k, (∀ y0 y1, LeO (stevedorelaw4_ClockOrder.j0 k y0 y1) (stevedorelaw4_ClockOrder.j0 (k + 1) y0 y1))
  | 0 => fun _ _ r h => by simp [stevedorelaw4_ClockOrder.j0] at h
  | k + 1 => by
    have ih0 := stevedorelaw4_ClockOrder.mono_l k
    · intro y0 y1
      unfold stevedorelaw4_ClockOrder.j0
      repeat' first
      | (with_reducible exact ih0 _ _)
      | (with_reducible exact clock_Dos.mono _ _)
      | (with_reducible exact clock_Unix.mono _ _)
      | (with_reducible exact LeO.refl _)
      | (with_reducible exact LeO.none _)
      | (with_reducible refine LeO.ite ?_ ?_)
      | (with_reducible refine LeO.bind ?_ (fun _ => ?_))
      | exact ih0 _ _
      | exact clock_Dos.mono _ _
      | exact clock_Unix.mono _ _
      | exact LeO.none _
      | refine LeO.ite ?_ ?_
      | refine LeO.bind ?_ (fun _ => ?_)
theorem stevedorelaw4_ClockOrder.mono : ∀ a0 a1 k, LeO (stevedorelaw4_ClockOrder.f k a0 a1) (stevedorelaw4_ClockOrder.f (k + 1) a0 a1) := by
  intro a0 a1 k
  have ih0 := stevedorelaw4_ClockOrder.mono_l k
  unfold stevedorelaw4_ClockOrder.f
  repeat' first
      | (with_reducible exact ih0 _ _)
      | (with_reducible exact clock_Dos.mono _ _)
      | (with_reducible exact clock_Unix.mono _ _)
      | (with_reducible exact LeO.refl _)
      | (with_reducible exact LeO.none _)
      | (with_reducible refine LeO.ite ?_ ?_)
      | (with_reducible refine LeO.bind ?_ (fun _ => ?_))
      | exact ih0 _ _
      | exact clock_Dos.mono _ _
      | exact clock_Unix.mono _ _
      | exact LeO.none _
      | refine LeO.ite ?_ ?_
      | refine LeO.bind ?_ (fun _ => ?_)
set_option maxHeartbeats 8000000 in
set_option maxRecDepth 100000 in
theorem stevedorelaw4_ClockOrder.calls (k : Nat) (a0 : Nat) (a1 : Nat) (r : Bool) (w : World) (h : stevedorelaw4_ClockOrder.f k a0 a1 = some r) (hv : Go.Proofs.YtfmfikodnpnblaaDoor.ClkLib.Vars w) :
    Calls Tryd.prog 10 #[.float .f64 a0, .float .f64 a1] w fun e w' => e = .returned (.bool r) ∧ Below w.heap.size w w' := by
  have HVARS := Aside0.mk hv
  have HB := Aside0.mk (Below.refl w.heap.size w)
  have H : (if ((FloatKind.f64.format.order a0 a1 == some .lt || FloatKind.f64.format.order a0 a1 == some .eq) = true) then (stevedorelaw4_ClockOrder.j0 k a0 a1) else (stevedorelaw4_ClockOrder.j0 k a1 a0)) = some r := h
  clear h
  have HC3 := Aside0.mk H
  clear H
  go_enter Tryd.func10, Tryd.ntmps10
  go_upto_if 8 with (fail)
  go_cut [0, 1] (fun v0 v1 wc => ∃ (kq : Nat) (x0_2 : Nat) (x1_2 : Nat), v0 = .float .f64 x0_2 ∧ v1 = .float .f64 x1_2 ∧ Aside0 (stevedorelaw4_ClockOrder.j0 kq x0_2 x1_2 = some r) ∧ Aside0 (kq ≤ k) ∧ Aside0 (Below w.heap.size w wc))
  case first =>
    have H := HC3.out
    clear HC3
    by_cases c4 : ((FloatKind.f64.format.order a0 a1 == some .lt || FloatKind.f64.format.order a0 a1 == some .eq) = true)
    · rw [if_pos c4] at H
      have c4b0 : (FloatKind.f64.format.order a0 a1 == some .lt || FloatKind.f64.format.order a0 a1 == some .eq) = true := c4
      have c4b7 : (!(FloatKind.f64.format.order a0 a1 == some .lt) && !(FloatKind.f64.format.order a0 a1 == some .eq)) = false := by rw [← Bool.not_or, c4b0]; rfl
      (try (have c4b1 : decide (FloatKind.f64.format.order a0 a1 = some .lt || FloatKind.f64.format.order a0 a1 == some .eq) = true := by simpa using c4))
      (try (have c4b2 : (FloatKind.f64.format.order a0 a1 == some .lt || FloatKind.f64.format.order a0 a1 == some .eq) = true := by simpa using c4))
      clear c4
      (first | rw [c4b0] | (simp only [i64_w, i32_w]; rw [c4b0]) | rw [c4b1] | skip)
      (try rw [c4b7])
      have H' := Aside0.mk H
      clear H
      go_wp2
      go_meet
      case rel => exact ⟨_, (a0), (a1), (by first | rfl | (simp; done) | (simp [*]; done)), (by first | rfl | (simp; done) | (simp [*]; done)), H', ⟨by first | omega | exact Nat.le_refl _⟩, ⟨by repeat (first | (with_reducible first | exact HB.out | apply below_alloc | apply pw_below_drewN | apply below_drew1) | exact HB.out)⟩⟩
    · rw [if_neg c4] at H
      have c4b0 : (FloatKind.f64.format.order a0 a1 == some .lt || FloatKind.f64.format.order a0 a1 == some .eq) = false := by simpa using c4
      have c4b7 : (!(FloatKind.f64.format.order a0 a1 == some .lt) && !(FloatKind.f64.format.order a0 a1 == some .eq)) = true := by rw [← Bool.not_or, c4b0]; rfl
      (try (have c4b1 : decide (FloatKind.f64.format.order a0 a1 = some .lt || FloatKind.f64.format.order a0 a1 == some .eq) = false := by simpa using c4))
      (try (have c4b2 : (FloatKind.f64.format.order a0 a1 == some .lt || FloatKind.f64.format.order a0 a1 == some .eq) = false := by simpa using c4))
      (try (have c4b3 : ¬ (FloatKind.f64.format.order a0 a1 = some .lt || FloatKind.f64.format.order a0 a1 == some .eq) := by simpa using c4))
      clear c4
      (first | rw [c4b0] | (simp only [i64_w, i32_w]; rw [c4b0]) | rw [c4b1] | skip)
      (try rw [c4b7])
      have H' := Aside0.mk H
      clear H
      go_wp2
      go_meet
      case rel => exact ⟨_, (a1), (a0), (by first | rfl | (simp; done) | (simp [*]; done)), (by first | rfl | (simp; done) | (simp [*]; done)), H', ⟨by first | omega | exact Nat.le_refl _⟩, ⟨by repeat (first | (with_reducible first | exact HB.out | apply below_alloc | apply pw_below_drewN | apply below_drew1) | exact HB.out)⟩⟩
  case rest =>
    clear HC3
    try clear c1
    try clear p2
    try clear c4
    try clear c4b0
    try clear c4b1
    try clear c4b2
    obtain ⟨kq, x0_2, x1_2, rfl, rfl, HA, HJ2, HB⟩ := hcut
    cases kq with
    | zero => exact absurd HA.out (by simp [stevedorelaw4_ClockOrder.j0])
    | succ kj2 =>
      have H := HA.out
      clear HA
      simp only [stevedorelaw4_ClockOrder.j0] at H
      by_cases c5 : ((FloatKind.f64.format.order x0_2 x1_2 == some .lt || FloatKind.f64.format.order x0_2 x1_2 == some .eq) = true)
      · rw [if_pos c5] at H
        have c5b0 : (FloatKind.f64.format.order x0_2 x1_2 == some .lt || FloatKind.f64.format.order x0_2 x1_2 == some .eq) = true := c5
        have c5b7 : (!(FloatKind.f64.format.order x0_2 x1_2 == some .lt) && !(FloatKind.f64.format.order x0_2 x1_2 == some .eq)) = false := by rw [← Bool.not_or, c5b0]; rfl
        (try (have c5b1 : decide (FloatKind.f64.format.order x0_2 x1_2 = some .lt || FloatKind.f64.format.order x0_2 x1_2 == some .eq) = true := by simpa using c5))
        (try (have c5b2 : (FloatKind.f64.format.order x0_2 x1_2 == some .lt || FloatKind.f64.format.order x0_2 x1_2 == some .eq) = true := by simpa using c5))
        clear c5
        replace H := Option.bind_eq_some_iff.mp H
        obtain ⟨t102, A60, H⟩ := H
        replace H : (if t102 = true then ((clock_Fine.f x0_2).bind fun t103 => ((clock_Fine.f x1_2).bind fun t104 => (if (FloatKind.f64.format.order t103 t104 == some .lt || FloatKind.f64.format.order t103 t104 == some .eq) = true then ((clock_Unix.f kj2 x0_2).bind fun t105 => ((clock_Unix.f kj2 x1_2).bind fun t106 => (if t105 ≤ t106 then ((clock_Dos.f kj2 x0_2).bind fun t107 => ((clock_Dos.f kj2 x1_2).bind fun t108 => (some (decide (t107 ≤ t108))))) else (some false)))) else (some false)))) else (some false)) = some r := H
        have A6 := Aside0.mk A60
        clear A60
        by_cases c7 : t102 = true
        · subst c7
          have H1 : ((clock_Fine.f x0_2).bind fun t103 => ((clock_Fine.f x1_2).bind fun t104 => (if (FloatKind.f64.format.order t103 t104 == some .lt || FloatKind.f64.format.order t103 t104 == some .eq) = true then ((clock_Unix.f kj2 x0_2).bind fun t105 => ((clock_Unix.f kj2 x1_2).bind fun t106 => (if t105 ≤ t106 then ((clock_Dos.f kj2 x0_2).bind fun t107 => ((clock_Dos.f kj2 x1_2).bind fun t108 => (some (decide (t107 ≤ t108))))) else (some false)))) else (some false)))) = some r := by rw [if_pos rfl] at H; exact H
          clear H
          have H := H1
          clear H1
          replace H := Option.bind_eq_some_iff.mp H
          obtain ⟨t103, A80, H⟩ := H
          replace H : ((clock_Fine.f x1_2).bind fun t104 => (if (FloatKind.f64.format.order t103 t104 == some .lt || FloatKind.f64.format.order t103 t104 == some .eq) = true then ((clock_Unix.f kj2 x0_2).bind fun t105 => ((clock_Unix.f kj2 x1_2).bind fun t106 => (if t105 ≤ t106 then ((clock_Dos.f kj2 x0_2).bind fun t107 => ((clock_Dos.f kj2 x1_2).bind fun t108 => (some (decide (t107 ≤ t108))))) else (some false)))) else (some false))) = some r := H
          have A8 := Aside0.mk A80
          clear A80
          replace H := Option.bind_eq_some_iff.mp H
          obtain ⟨t104, A90, H⟩ := H
          replace H : (if (FloatKind.f64.format.order t103 t104 == some .lt || FloatKind.f64.format.order t103 t104 == some .eq) = true then ((clock_Unix.f kj2 x0_2).bind fun t105 => ((clock_Unix.f kj2 x1_2).bind fun t106 => (if t105 ≤ t106 then ((clock_Dos.f kj2 x0_2).bind fun t107 => ((clock_Dos.f kj2 x1_2).bind fun t108 => (some (decide (t107 ≤ t108))))) else (some false)))) else (some false)) = some r := H
          have A9 := Aside0.mk A90
          clear A90
          by_cases c10 : (FloatKind.f64.format.order t103 t104 == some .lt || FloatKind.f64.format.order t103 t104 == some .eq) = true
          · rw [if_pos c10] at H
            have c10b0 : (FloatKind.f64.format.order t103 t104 == some .lt || FloatKind.f64.format.order t103 t104 == some .eq) = true := c10
            have c10b7 : (!(FloatKind.f64.format.order t103 t104 == some .lt) && !(FloatKind.f64.format.order t103 t104 == some .eq)) = false := by rw [← Bool.not_or, c10b0]; rfl
            (try (have c10b1 : decide (FloatKind.f64.format.order t103 t104 = some .lt || FloatKind.f64.format.order t103 t104 == some .eq) = true := by simpa using c10))
            (try (have c10b2 : (FloatKind.f64.format.order t103 t104 == some .lt || FloatKind.f64.format.order t103 t104 == some .eq) = true := by simpa using c10))
            clear c10
            replace H := Option.bind_eq_some_iff.mp H
            obtain ⟨t105, A110, H⟩ := H
            replace H : ((clock_Unix.f kj2 x1_2).bind fun t106 => (if t105 ≤ t106 then ((clock_Dos.f kj2 x0_2).bind fun t107 => ((clock_Dos.f kj2 x1_2).bind fun t108 => (some (decide (t107 ≤ t108))))) else (some false))) = some r := H
            have A11 := Aside0.mk A110
            clear A110
            replace H := Option.bind_eq_some_iff.mp H
            obtain ⟨t106, A120, H⟩ := H
            replace H : (if t105 ≤ t106 then ((clock_Dos.f kj2 x0_2).bind fun t107 => ((clock_Dos.f kj2 x1_2).bind fun t108 => (some (decide (t107 ≤ t108))))) else (some false)) = some r := H
            have A12 := Aside0.mk A120
            clear A120
            by_cases c13 : t105 ≤ t106
            · rw [if_pos c13] at H
              have c13b0 : decide (t105 ≤ t106) = true := decide_eq_true c13
              clear c13
              replace H := Option.bind_eq_some_iff.mp H
              obtain ⟨t107, A140, H⟩ := H
              replace H : ((clock_Dos.f kj2 x1_2).bind fun t108 => (some (decide (t107 ≤ t108)))) = some r := H
              have A14 := Aside0.mk A140
              clear A140
              replace H := Option.bind_eq_some_iff.mp H
              obtain ⟨t108, A150, H⟩ := H
              replace H : (some (decide (t107 ≤ t108))) = some r := H
              have A15 := Aside0.mk A150
              clear A150
              obtain rfl := Option.some.inj H
              go_wp2_with (first | ((with_reducible refine gate_callee (f := 31) rfl ?_); refine goesL_ (some 16) rfl rfl Tryd.func31 (by kernel_rfl) rfl #[] rfl (by (try simp only [List.map_toArray, List.map_cons, List.map_nil]); first | done | rfl | (simp only [List.length_drop, List.length_take]; rfl)) ?_; (with_reducible refine (stevedorelaw4_told.calls  true _ A6.out (Go.Proofs.YtfmfikodnpnblaaDoor.ClkLib.Vars.below HVARS.out (by repeat (first | (with_reducible first | exact HB.out | apply below_alloc | apply pw_below_drewN | apply below_drew1 | refine below_set ?_ (Aside0.out (by assumption))) | exact HB.out)))).mono ?_); rintro e w16 ⟨rfl, hb⟩; refine ⟨_, rfl, ?_⟩; have n0_ := Aside0.mk (below_step (by repeat (first | (with_reducible first | exact HB.out | apply below_alloc | apply pw_below_drewN | apply below_drew1) | exact HB.out)) hb); clear HB; have HB := n0_; clear n0_; (try clear hb); (try clear hb2); (try clear hk); (try clear hi)) | (go_at_call 35; (with_reducible refine (clock_Fine.calls x0_2 t103 _ A8.out).mono ?_); rintro e w17 ⟨rfl, hb⟩; have n0_ := Aside0.mk (below_step (by repeat (first | (with_reducible first | exact HB.out | apply below_alloc | apply pw_below_drewN | apply below_drew1) | exact HB.out)) hb); clear HB; have HB := n0_; clear n0_; (try clear hb); (try clear hb2); (try clear hk); (try clear hi)) | (go_at_call 35; (with_reducible refine (clock_Fine.calls x1_2 t104 _ A9.out).mono ?_); rintro e w18 ⟨rfl, hb⟩; have n0_ := Aside0.mk (below_step (by repeat (first | (with_reducible first | exact HB.out | apply below_alloc | apply pw_below_drewN | apply below_drew1) | exact HB.out)) hb); clear HB; have HB := n0_; clear n0_; (try clear hb); (try clear hb2); (try clear hk); (try clear hi)) | (go_at_call 39; (with_reducible refine (clock_Unix.calls kj2 x0_2 t105 _ A11.out).mono ?_); rintro e w19 ⟨rfl, hb⟩; have n0_ := Aside0.mk (below_step (by repeat (first | (with_reducible first | exact HB.out | apply below_alloc | apply pw_below_drewN | apply below_drew1) | exact HB.out)) hb); clear HB; have HB := n0_; clear n0_; (try clear hb); (try clear hb2); (try clear hk); (try clear hi)) | (go_at_call 39; (with_reducible refine (clock_Unix.calls kj2 x1_2 t106 _ A12.out).mono ?_); rintro e w20 ⟨rfl, hb⟩; have n0_ := Aside0.mk (below_step (by repeat (first | (with_reducible first | exact HB.out | apply below_alloc | apply pw_below_drewN | apply below_drew1) | exact HB.out)) hb); clear HB; have HB := n0_; clear n0_; (try clear hb); (try clear hb2); (try clear hk); (try clear hi)) | (go_at_call 40; (with_reducible refine (clock_Dos.calls kj2 x0_2 t107 _ A14.out).mono ?_); rintro e w21 ⟨rfl, hb⟩; have n0_ := Aside0.mk (below_step (by repeat (first | (with_reducible first | exact HB.out | apply below_alloc | apply pw_below_drewN | apply below_drew1) | exact HB.out)) hb); clear HB; have HB := n0_; clear n0_; (try clear hb); (try clear hb2); (try clear hk); (try clear hi)) | (go_at_call 40; (with_reducible refine (clock_Dos.calls kj2 x1_2 t108 _ A15.out).mono ?_); rintro e w22 ⟨rfl, hb⟩; have n0_ := Aside0.mk (below_step (by repeat (first | (with_reducible first | exact HB.out | apply below_alloc | apply pw_below_drewN | apply below_drew1) | exact HB.out)) hb); clear HB; have HB := n0_; clear n0_; (try clear hb); (try clear hb2); (try clear hk); (try clear hi)))
              go_ret
              exact ⟨by first | rfl | (simp only [show ∀ l : List UInt8, (l != []) = (!l.isEmpty) from fun l => by cases l <;> rfl]; rfl) | (simp [errW_none, errW_some] <;> rfl) | (simp [*, errW_none, errW_some] <;> rfl), by repeat (first | (with_reducible first | exact HB.out | apply below_alloc | apply pw_below_drewN | apply below_drew1) | exact HB.out)⟩
            · rw [if_neg c13] at H
              have c13b0 : decide (t105 ≤ t106) = false := decide_eq_false c13
              clear c13
              obtain rfl := Option.some.inj H
              go_wp2_with (first | ((with_reducible refine gate_callee (f := 31) rfl ?_); refine goesL_ (some 16) rfl rfl Tryd.func31 (by kernel_rfl) rfl #[] rfl (by (try simp only [List.map_toArray, List.map_cons, List.map_nil]); first | done | rfl | (simp only [List.length_drop, List.length_take]; rfl)) ?_; (with_reducible refine (stevedorelaw4_told.calls  true _ A6.out (Go.Proofs.YtfmfikodnpnblaaDoor.ClkLib.Vars.below HVARS.out (by repeat (first | (with_reducible first | exact HB.out | apply below_alloc | apply pw_below_drewN | apply below_drew1 | refine below_set ?_ (Aside0.out (by assumption))) | exact HB.out)))).mono ?_); rintro e w23 ⟨rfl, hb⟩; refine ⟨_, rfl, ?_⟩; have n0_ := Aside0.mk (below_step (by repeat (first | (with_reducible first | exact HB.out | apply below_alloc | apply pw_below_drewN | apply below_drew1) | exact HB.out)) hb); clear HB; have HB := n0_; clear n0_; (try clear hb); (try clear hb2); (try clear hk); (try clear hi)) | (go_at_call 35; (with_reducible refine (clock_Fine.calls x0_2 t103 _ A8.out).mono ?_); rintro e w24 ⟨rfl, hb⟩; have n0_ := Aside0.mk (below_step (by repeat (first | (with_reducible first | exact HB.out | apply below_alloc | apply pw_below_drewN | apply below_drew1) | exact HB.out)) hb); clear HB; have HB := n0_; clear n0_; (try clear hb); (try clear hb2); (try clear hk); (try clear hi)) | (go_at_call 35; (with_reducible refine (clock_Fine.calls x1_2 t104 _ A9.out).mono ?_); rintro e w25 ⟨rfl, hb⟩; have n0_ := Aside0.mk (below_step (by repeat (first | (with_reducible first | exact HB.out | apply below_alloc | apply pw_below_drewN | apply below_drew1) | exact HB.out)) hb); clear HB; have HB := n0_; clear n0_; (try clear hb); (try clear hb2); (try clear hk); (try clear hi)) | (go_at_call 39; (with_reducible refine (clock_Unix.calls kj2 x0_2 t105 _ A11.out).mono ?_); rintro e w26 ⟨rfl, hb⟩; have n0_ := Aside0.mk (below_step (by repeat (first | (with_reducible first | exact HB.out | apply below_alloc | apply pw_below_drewN | apply below_drew1) | exact HB.out)) hb); clear HB; have HB := n0_; clear n0_; (try clear hb); (try clear hb2); (try clear hk); (try clear hi)) | (go_at_call 39; (with_reducible refine (clock_Unix.calls kj2 x1_2 t106 _ A12.out).mono ?_); rintro e w27 ⟨rfl, hb⟩; have n0_ := Aside0.mk (below_step (by repeat (first | (with_reducible first | exact HB.out | apply below_alloc | apply pw_below_drewN | apply below_drew1) | exact HB.out)) hb); clear HB; have HB := n0_; clear n0_; (try clear hb); (try clear hb2); (try clear hk); (try clear hi)))
              go_ret
              exact ⟨by first | rfl | (simp only [show ∀ l : List UInt8, (l != []) = (!l.isEmpty) from fun l => by cases l <;> rfl]; rfl) | (simp [errW_none, errW_some] <;> rfl) | (simp [*, errW_none, errW_some] <;> rfl), by repeat (first | (with_reducible first | exact HB.out | apply below_alloc | apply pw_below_drewN | apply below_drew1) | exact HB.out)⟩
          · rw [if_neg c10] at H
            have c10b0 : (FloatKind.f64.format.order t103 t104 == some .lt || FloatKind.f64.format.order t103 t104 == some .eq) = false := by simpa using c10
            have c10b7 : (!(FloatKind.f64.format.order t103 t104 == some .lt) && !(FloatKind.f64.format.order t103 t104 == some .eq)) = true := by rw [← Bool.not_or, c10b0]; rfl
            (try (have c10b1 : decide (FloatKind.f64.format.order t103 t104 = some .lt || FloatKind.f64.format.order t103 t104 == some .eq) = false := by simpa using c10))
            (try (have c10b2 : (FloatKind.f64.format.order t103 t104 == some .lt || FloatKind.f64.format.order t103 t104 == some .eq) = false := by simpa using c10))
            (try (have c10b3 : ¬ (FloatKind.f64.format.order t103 t104 = some .lt || FloatKind.f64.format.order t103 t104 == some .eq) := by simpa using c10))
            clear c10
            obtain rfl := Option.some.inj H
            go_wp2_with (first | ((with_reducible refine gate_callee (f := 31) rfl ?_); refine goesL_ (some 16) rfl rfl Tryd.func31 (by kernel_rfl) rfl #[] rfl (by (try simp only [List.map_toArray, List.map_cons, List.map_nil]); first | done | rfl | (simp only [List.length_drop, List.length_take]; rfl)) ?_; (with_reducible refine (stevedorelaw4_told.calls  true _ A6.out (Go.Proofs.YtfmfikodnpnblaaDoor.ClkLib.Vars.below HVARS.out (by repeat (first | (with_reducible first | exact HB.out | apply below_alloc | apply pw_below_drewN | apply below_drew1 | refine below_set ?_ (Aside0.out (by assumption))) | exact HB.out)))).mono ?_); rintro e w28 ⟨rfl, hb⟩; refine ⟨_, rfl, ?_⟩; have n0_ := Aside0.mk (below_step (by repeat (first | (with_reducible first | exact HB.out | apply below_alloc | apply pw_below_drewN | apply below_drew1) | exact HB.out)) hb); clear HB; have HB := n0_; clear n0_; (try clear hb); (try clear hb2); (try clear hk); (try clear hi)) | (go_at_call 35; (with_reducible refine (clock_Fine.calls x0_2 t103 _ A8.out).mono ?_); rintro e w29 ⟨rfl, hb⟩; have n0_ := Aside0.mk (below_step (by repeat (first | (with_reducible first | exact HB.out | apply below_alloc | apply pw_below_drewN | apply below_drew1) | exact HB.out)) hb); clear HB; have HB := n0_; clear n0_; (try clear hb); (try clear hb2); (try clear hk); (try clear hi)) | (go_at_call 35; (with_reducible refine (clock_Fine.calls x1_2 t104 _ A9.out).mono ?_); rintro e w30 ⟨rfl, hb⟩; have n0_ := Aside0.mk (below_step (by repeat (first | (with_reducible first | exact HB.out | apply below_alloc | apply pw_below_drewN | apply below_drew1) | exact HB.out)) hb); clear HB; have HB := n0_; clear n0_; (try clear hb); (try clear hb2); (try clear hk); (try clear hi)))
            go_ret
            exact ⟨by first | rfl | (simp only [show ∀ l : List UInt8, (l != []) = (!l.isEmpty) from fun l => by cases l <;> rfl]; rfl) | (simp [errW_none, errW_some] <;> rfl) | (simp [*, errW_none, errW_some] <;> rfl), by repeat (first | (with_reducible first | exact HB.out | apply below_alloc | apply pw_below_drewN | apply below_drew1) | exact HB.out)⟩
        · replace c7 := Bool.eq_false_iff.mpr c7
          subst c7
          have H1 : (some false) = some r := by rw [if_neg (show ¬ (false = true) by decide)] at H; exact H
          clear H
          have H := H1
          clear H1
          obtain rfl := Option.some.inj H
          go_wp2_with (first | ((with_reducible refine gate_callee (f := 31) rfl ?_); refine goesL_ (some 16) rfl rfl Tryd.func31 (by kernel_rfl) rfl #[] rfl (by (try simp only [List.map_toArray, List.map_cons, List.map_nil]); first | done | rfl | (simp only [List.length_drop, List.length_take]; rfl)) ?_; (with_reducible refine (stevedorelaw4_told.calls  false _ A6.out (Go.Proofs.YtfmfikodnpnblaaDoor.ClkLib.Vars.below HVARS.out (by repeat (first | (with_reducible first | exact HB.out | apply below_alloc | apply pw_below_drewN | apply below_drew1 | refine below_set ?_ (Aside0.out (by assumption))) | exact HB.out)))).mono ?_); rintro e w31 ⟨rfl, hb⟩; refine ⟨_, rfl, ?_⟩; have n0_ := Aside0.mk (below_step (by repeat (first | (with_reducible first | exact HB.out | apply below_alloc | apply pw_below_drewN | apply below_drew1) | exact HB.out)) hb); clear HB; have HB := n0_; clear n0_; (try clear hb); (try clear hb2); (try clear hk); (try clear hi)))
          go_ret
          exact ⟨by first | rfl | (simp only [show ∀ l : List UInt8, (l != []) = (!l.isEmpty) from fun l => by cases l <;> rfl]; rfl) | (simp [errW_none, errW_some] <;> rfl) | (simp [*, errW_none, errW_some] <;> rfl), by repeat (first | (with_reducible first | exact HB.out | apply below_alloc | apply pw_below_drewN | apply below_drew1) | exact HB.out)⟩
      · rw [if_neg c5] at H
        have c5b0 : (FloatKind.f64.format.order x0_2 x1_2 == some .lt || FloatKind.f64.format.order x0_2 x1_2 == some .eq) = false := by simpa using c5
        have c5b7 : (!(FloatKind.f64.format.order x0_2 x1_2 == some .lt) && !(FloatKind.f64.format.order x0_2 x1_2 == some .eq)) = true := by rw [← Bool.not_or, c5b0]; rfl
        (try (have c5b1 : decide (FloatKind.f64.format.order x0_2 x1_2 = some .lt || FloatKind.f64.format.order x0_2 x1_2 == some .eq) = false := by simpa using c5))
        (try (have c5b2 : (FloatKind.f64.format.order x0_2 x1_2 == some .lt || FloatKind.f64.format.order x0_2 x1_2 == some .eq) = false := by simpa using c5))
        (try (have c5b3 : ¬ (FloatKind.f64.format.order x0_2 x1_2 = some .lt || FloatKind.f64.format.order x0_2 x1_2 == some .eq) := by simpa using c5))
        clear c5
        replace H := Option.bind_eq_some_iff.mp H
        obtain ⟨t101, A320, H⟩ := H
        replace H : (some t101) = some r := H
        have A32 := Aside0.mk A320
        clear A320
        obtain rfl := Option.some.inj H
        go_wp2_with (first | ((with_reducible refine gate_callee (f := 31) rfl ?_); refine goesL_ (some 15) rfl rfl Tryd.func31 (by kernel_rfl) rfl #[] rfl (by (try simp only [List.map_toArray, List.map_cons, List.map_nil]); first | done | rfl | (simp only [List.length_drop, List.length_take]; rfl)) ?_; (with_reducible refine (stevedorelaw4_told.calls  t101 _ A32.out (Go.Proofs.YtfmfikodnpnblaaDoor.ClkLib.Vars.below HVARS.out (by repeat (first | (with_reducible first | exact HB.out | apply below_alloc | apply pw_below_drewN | apply below_drew1 | refine below_set ?_ (Aside0.out (by assumption))) | exact HB.out)))).mono ?_); rintro e w33 ⟨rfl, hb⟩; refine ⟨_, rfl, ?_⟩; have n0_ := Aside0.mk (below_step (by repeat (first | (with_reducible first | exact HB.out | apply below_alloc | apply pw_below_drewN | apply below_drew1) | exact HB.out)) hb); clear HB; have HB := n0_; clear n0_; (try clear hb); (try clear hb2); (try clear hk); (try clear hi)))
        go_ret
        exact ⟨by first | rfl | (simp only [show ∀ l : List UInt8, (l != []) = (!l.isEmpty) from fun l => by cases l <;> rfl]; rfl) | (simp [errW_none, errW_some] <;> rfl) | (simp [*, errW_none, errW_some] <;> rfl), by repeat (first | (with_reducible first | exact HB.out | apply below_alloc | apply pw_below_drewN | apply below_drew1) | exact HB.out)⟩

end Go.Proofs.YtfmfikodnpnblaaDoor.PClockOrder

-- Written by this repo's gprint.py over the kit's printer, out of the translation. Not trusted: Lean checks it.
import Derived.Test.YtfmfikodnpnblaaDoorPClockYearsx0
namespace Go.Proofs.YtfmfikodnpnblaaDoor.PClockYears
open Go.RowKit Go.Proofs.YtfmfikodnpnblaaDoorW.PrintWords Go.Proofs.YtfmfikodnpnblaaDoorW.PrintLast Go.Proofs.YtfmfikodnpnblaaDoorW.PrintMore
attribute [local go_sem] max2_int min2_int max_two min_two max_three min_three max_four min_four   -- for this text's walks alone
open Go.Proofs.YtfmfikodnpnblaaDoor.ClkTold Go.Proofs.YtfmfikodnpnblaaDoor.PClk1
attribute [local go_sem] fop_run fint_run fofint_run
set_option linter.unusedVariables false
set_option linter.unusedSimpArgs false

-- function 31 (stevedorelaw4_told): by hand

-- function 41 (clock_Days): by hand

-- function 42 (stevedoreref4_Month): by hand

/-! ### stevedorelaw4_ClockYears: function 11 -/
mutual
def stevedorelaw4_ClockYears.j0 : Nat → Int → Int → Bool → Option (Bool)
  | 0, _, _, _ => none
  | k + 1, x5, x6, x7 => if x7 = true then (stevedorelaw4_ClockYears.j1 k x5 x6 366) else (stevedorelaw4_ClockYears.j1 k x5 x6 365)
def stevedorelaw4_ClockYears.j1 : Nat → Int → Int → Int → Option (Bool)
  | 0, _, _, _ => none
  | k + 1, x5, x6, x8 => (clock_Days.f (wrap64 (x5 + 1)) 1 1).bind fun t101 => (if x6 < 12 then ((clock_Days.f x5 (wrap64 (x6 + 1)) 1).bind fun t102 => (stevedorelaw4_ClockYears.j2 k x5 x6 x8 t102)) else (stevedorelaw4_ClockYears.j2 k x5 x6 x8 t101))
def stevedorelaw4_ClockYears.j2 : Nat → Int → Int → Int → Int → Option (Bool)
  | 0, _, _, _, _ => none
  | k + 1, x5, x6, x8, x9 => (stevedorelaw4_told.f).bind fun t103 => (if t103 = true then ((clock_Days.f (wrap64 (x5 + 400)) x6 5).bind fun t104 => ((clock_Days.f x5 x6 5).bind fun t105 => (if (wrap64 (t104 - t105)) = 146097 then ((clock_Days.f (wrap64 (x5 + 1)) 1 1).bind fun t106 => ((clock_Days.f x5 1 1).bind fun t107 => (if (wrap64 (t106 - t107)) = x8 then ((clock_Days.f x5 x6 1).bind fun t108 => ((stevedoreref4_Month.f x5 x6).bind fun t109 => (if (wrap64 (x9 - t108)) = t109 then ((clock_Days.f x5 x6 31).bind fun t110 => ((clock_Days.f x5 x6 1).bind fun t111 => (some ((wrap64 (t110 - t111)) == 30)))) else (some false)))) else (some false)))) else (some false)))) else (some false))
end
def stevedorelaw4_ClockYears.f (k : Nat) (a0 : Int) (a1 : Int) : Option (Bool) := if (Int.tmod (wrap64 ((wrap64 (Int.tmod (IntKind.u64.wrap (a0)) 180001)) - 90000)) 4) = 0 then (if (Int.tmod (wrap64 ((wrap64 (Int.tmod (IntKind.u64.wrap (a0)) 180001)) - 90000)) 100) = 0 then (stevedorelaw4_ClockYears.j0 k (wrap64 ((wrap64 (Int.tmod (IntKind.u64.wrap (a0)) 180001)) - 90000)) (wrap64 (1 + (wrap64 (Int.tmod (IntKind.u64.wrap (a1)) 12)))) ((Int.tmod (wrap64 ((wrap64 (Int.tmod (IntKind.u64.wrap (a0)) 180001)) - 90000)) 400) == 0)) else (stevedorelaw4_ClockYears.j0 k (wrap64 ((wrap64 (Int.tmod (IntKind.u64.wrap (a0)) 180001)) - 90000)) (wrap64 (1 + (wrap64 (Int.tmod (IntKind.u64.wrap (a1)) 12)))) true)) else (stevedorelaw4_ClockYears.j0 k (wrap64 ((wrap64 (Int.tmod (IntKind.u64.wrap (a0)) 180001)) - 90000)) (wrap64 (1 + (wrap64 (Int.tmod (IntKind.u64.wrap (a1)) 12)))) false)
theorem stevedorelaw4_ClockYears.mono_l : ∀ k, (∀ y0 y1 y2, LeO (stevedorelaw4_ClockYears.j0 k y0 y1 y2) (stevedorelaw4_ClockYears.j0 (k + 1) y0 y1 y2)) ∧ (∀ y0 y1 y2, LeO (stevedorelaw4_ClockYears.j1 k y0 y1 y2) (stevedorelaw4_ClockYears.j1 (k + 1) y0 y1 y2)) ∧ (∀ y0 y1 y2 y3, LeO (stevedorelaw4_ClockYears.j2 k y0 y1 y2 y3) (stevedorelaw4_ClockYears.j2 (k + 1) y0 y1 y2 y3))
  | 0 => ⟨fun _ _ _ r h => by simp [stevedorelaw4_ClockYears.j0] at h, fun _ _ _ r h => by simp [stevedorelaw4_ClockYears.j1] at h, fun _ _ _ _ r h => by simp [stevedorelaw4_ClockYears.j2] at h⟩
  | k + 1 => by
    obtain ⟨ih0, ih1, ih2⟩ := stevedorelaw4_ClockYears.mono_l k
    refine ⟨?_, ?_, ?_⟩
    · intro y0 y1 y2
      unfold stevedorelaw4_ClockYears.j0
      repeat' first
      | (with_reducible exact ih0 _ _ _)
      | (with_reducible exact ih1 _ _ _)
      | (with_reducible exact ih2 _ _ _ _)
      | (with_reducible exact LeO.refl _)
      | (with_reducible exact LeO.none _)
      | (with_reducible refine LeO.ite ?_ ?_)
      | (with_reducible refine LeO.bind ?_ (fun _ => ?_))
      | exact ih0 _ _ _
      | exact ih1 _ _ _
      | exact ih2 _ _ _ _
      | exact LeO.none _
      | refine LeO.ite ?_ ?_
      | refine LeO.bind ?_ (fun _ => ?_)
    · intro y0 y1 y2
      unfold stevedorelaw4_ClockYears.j1
      repeat' first
      | (with_reducible exact ih0 _ _ _)
      | (with_reducible exact ih1 _ _ _)
      | (with_reducible exact ih2 _ _ _ _)
      | (with_reducible exact LeO.refl _)
      | (with_reducible exact LeO.none _)
      | (with_reducible refine LeO.ite ?_ ?_)
      | (with_reducible refine LeO.bind ?_ (fun _ => ?_))
      | exact ih0 _ _ _
      | exact ih1 _ _ _
      | exact ih2 _ _ _ _
      | exact LeO.none _
      | refine LeO.ite ?_ ?_
      | refine LeO.bind ?_ (fun _ => ?_)
    · intro y0 y1 y2 y3
      unfold stevedorelaw4_ClockYears.j2
      repeat' first
      | (with_reducible exact ih0 _ _ _)
      | (with_reducible exact ih1 _ _ _)
      | (with_reducible exact ih2 _ _ _ _)
      | (with_reducible exact LeO.refl _)
      | (with_reducible exact LeO.none _)
      | (with_reducible refine LeO.ite ?_ ?_)
      | (with_reducible refine LeO.bind ?_ (fun _ => ?_))
      | exact ih0 _ _ _
      | exact ih1 _ _ _
      | exact ih2 _ _ _ _
      | exact LeO.none _
      | refine LeO.ite ?_ ?_
      | refine LeO.bind ?_ (fun _ => ?_)
theorem stevedorelaw4_ClockYears.mono : ∀ a0 a1 k, LeO (stevedorelaw4_ClockYears.f k a0 a1) (stevedorelaw4_ClockYears.f (k + 1) a0 a1) := by
  intro a0 a1 k
  obtain ⟨ih0, ih1, ih2⟩ := stevedorelaw4_ClockYears.mono_l k
  unfold stevedorelaw4_ClockYears.f
  repeat' first
      | (with_reducible exact ih0 _ _ _)
      | (with_reducible exact ih1 _ _ _)
      | (with_reducible exact ih2 _ _ _ _)
      | (with_reducible exact LeO.refl _)
      | (with_reducible exact LeO.none _)
      | (with_reducible refine LeO.ite ?_ ?_)
      | (with_reducible refine LeO.bind ?_ (fun _ => ?_))
      | exact ih0 _ _ _
      | exact ih1 _ _ _
      | exact ih2 _ _ _ _
      | exact LeO.none _
      | refine LeO.ite ?_ ?_
      | refine LeO.bind ?_ (fun _ => ?_)
set_option maxHeartbeats 8000000 in
set_option maxRecDepth 100000 in
theorem stevedorelaw4_ClockYears.calls (k : Nat) (a0 : Int) (a1 : Int) (r : Bool) (w : World) (h : stevedorelaw4_ClockYears.f k a0 a1 = some r) (hv : Go.Proofs.YtfmfikodnpnblaaDoor.ClkLib.Vars w) :
    Calls Tryd.prog 11 #[.int .i64 a0, .int .i64 a1] w fun e w' => e = .returned (.bool r) ∧ Below w.heap.size w w' := by
  have HVARS := Aside0.mk hv
  have HB := Aside0.mk (Below.refl w.heap.size w)
  have H : (if (Int.tmod (wrap64 ((wrap64 (Int.tmod (IntKind.u64.wrap (a0)) 180001)) - 90000)) 4) = 0 then (if (Int.tmod (wrap64 ((wrap64 (Int.tmod (IntKind.u64.wrap (a0)) 180001)) - 90000)) 100) = 0 then (stevedorelaw4_ClockYears.j0 k (wrap64 ((wrap64 (Int.tmod (IntKind.u64.wrap (a0)) 180001)) - 90000)) (wrap64 (1 + (wrap64 (Int.tmod (IntKind.u64.wrap (a1)) 12)))) ((Int.tmod (wrap64 ((wrap64 (Int.tmod (IntKind.u64.wrap (a0)) 180001)) - 90000)) 400) == 0)) else (stevedorelaw4_ClockYears.j0 k (wrap64 ((wrap64 (Int.tmod (IntKind.u64.wrap (a0)) 180001)) - 90000)) (wrap64 (1 + (wrap64 (Int.tmod (IntKind.u64.wrap (a1)) 12)))) true)) else (stevedorelaw4_ClockYears.j0 k (wrap64 ((wrap64 (Int.tmod (IntKind.u64.wrap (a0)) 180001)) - 90000)) (wrap64 (1 + (wrap64 (Int.tmod (IntKind.u64.wrap (a1)) 12)))) false)) = some r := h
  clear h
  have HC3 := Aside0.mk H
  clear H
  go_enter Tryd.func11, Tryd.ntmps11
  go_upto_region 3 with (fail)
  go_cut [7] (fun v7 wc => ∃ (kq : Nat) (x7_2 : Bool), v7 = .bool x7_2 ∧ Aside0 (stevedorelaw4_ClockYears.j0 kq (wrap64 ((wrap64 (Int.tmod (IntKind.u64.wrap (a0)) 180001)) - 90000)) (wrap64 (1 + (wrap64 (Int.tmod (IntKind.u64.wrap (a1)) 12)))) x7_2 = some r) ∧ Aside0 (kq ≤ k) ∧ Aside0 (Below w.heap.size w wc))
  case first =>
    have H := HC3.out
    clear HC3
    by_cases c4 : (Int.tmod (wrap64 ((wrap64 (Int.tmod (IntKind.u64.wrap (a0)) 180001)) - 90000)) 4) = 0
    · rw [if_pos c4] at H
      have c4b0 : ((Int.tmod (wrap64 ((wrap64 (Int.tmod (IntKind.u64.wrap (a0)) 180001)) - 90000)) 4) == 0) = true := beq_iff_eq.mpr c4
      have c4b1 : ((Int.tmod (wrap64 ((wrap64 (Int.tmod (IntKind.u64.wrap (a0)) 180001)) - 90000)) 4) != 0) = false := bne_eq_false_iff_eq.mpr c4
      clear c4
      (first | rw [c4b0] | (simp only [i64_w, i32_w]; rw [c4b0]) | rw [c4b1] | skip)
      by_cases c5 : (Int.tmod (wrap64 ((wrap64 (Int.tmod (IntKind.u64.wrap (a0)) 180001)) - 90000)) 100) = 0
      · rw [if_pos c5] at H
        have c5b0 : ((Int.tmod (wrap64 ((wrap64 (Int.tmod (IntKind.u64.wrap (a0)) 180001)) - 90000)) 100) == 0) = true := beq_iff_eq.mpr c5
        have c5b1 : ((Int.tmod (wrap64 ((wrap64 (Int.tmod (IntKind.u64.wrap (a0)) 180001)) - 90000)) 100) != 0) = false := bne_eq_false_iff_eq.mpr c5
        clear c5
        have H' := Aside0.mk H
        clear H
        go_wp2
        go_meet
        case rel => exact ⟨_, (((Int.tmod (wrap64 ((wrap64 (Int.tmod (IntKind.u64.wrap (a0)) 180001)) - 90000)) 400) == 0)), (by first | rfl | (simp; done) | (simp [*]; done)), H', ⟨by first | omega | exact Nat.le_refl _⟩, ⟨by repeat (first | (with_reducible first | exact HB.out | apply below_alloc | apply pw_below_drewN | apply below_drew1) | exact HB.out)⟩⟩
      · rw [if_neg c5] at H
        have c5b0 : ((Int.tmod (wrap64 ((wrap64 (Int.tmod (IntKind.u64.wrap (a0)) 180001)) - 90000)) 100) == 0) = false := beq_eq_false_iff_ne.mpr c5
        have c5b1 : ((Int.tmod (wrap64 ((wrap64 (Int.tmod (IntKind.u64.wrap (a0)) 180001)) - 90000)) 100) != 0) = true := bne_iff_ne.mpr c5
        have H' := Aside0.mk H
        clear H
        go_wp2
        go_meet
        case rel => exact ⟨_, (true), (by first | rfl | (simp; done) | (simp [*]; done)), H', ⟨by first | omega | exact Nat.le_refl _⟩, ⟨by repeat (first | (with_reducible first | exact HB.out | apply below_alloc | apply pw_below_drewN | apply below_drew1) | exact HB.out)⟩⟩
    · rw [if_neg c4] at H
      have c4b0 : ((Int.tmod (wrap64 ((wrap64 (Int.tmod (IntKind.u64.wrap (a0)) 180001)) - 90000)) 4) == 0) = false := beq_eq_false_iff_ne.mpr c4
      have c4b1 : ((Int.tmod (wrap64 ((wrap64 (Int.tmod (IntKind.u64.wrap (a0)) 180001)) - 90000)) 4) != 0) = true := bne_iff_ne.mpr c4
      (first | rw [c4b0] | (simp only [i64_w, i32_w]; rw [c4b0]) | rw [c4b1] | skip)
      have H' := Aside0.mk H
      clear H
      go_wp2
      go_meet
      case rel => exact ⟨_, (false), (by first | rfl | (simp; done) | (simp [*]; done)), H', ⟨by first | omega | exact Nat.le_refl _⟩, ⟨by repeat (first | (with_reducible first | exact HB.out | apply below_alloc | apply pw_below_drewN | apply below_drew1) | exact HB.out)⟩⟩
  case rest =>
    clear HC3
    try clear c1
    try clear p2
    try clear c4
    try clear c4b0
    try clear c4b1
    try clear c5
    try clear c5b0
    try clear c5b1
    obtain ⟨kq, x7_2, rfl, HA, HJ2, HB⟩ := hcut
    cases kq with
    | zero => exact absurd HA.out (by simp [stevedorelaw4_ClockYears.j0])
    | succ kj2 =>
      have H := HA.out
      clear HA
      simp only [stevedorelaw4_ClockYears.j0] at H
      have HC6 := Aside0.mk H
      clear H
      go_upto_if 33 with (fail)
      go_cut [8] (fun v8 wc => ∃ (kq : Nat) (x8_5 : Int), v8 = .int .i64 x8_5 ∧ Aside0 (stevedorelaw4_ClockYears.j1 kq (wrap64 ((wrap64 (Int.tmod (IntKind.u64.wrap (a0)) 180001)) - 90000)) (wrap64 (1 + (wrap64 (Int.tmod (IntKind.u64.wrap (a1)) 12)))) x8_5 = some r) ∧ Aside0 (kq ≤ kj2) ∧ Aside0 (Below w.heap.size w wc))
      case first =>
        have H := HC6.out
        clear HC6
        by_cases c7 : x7_2 = true
        · subst c7
          have H1 : (stevedorelaw4_ClockYears.j1 kj2 (wrap64 ((wrap64 (Int.tmod (IntKind.u64.wrap (a0)) 180001)) - 90000)) (wrap64 (1 + (wrap64 (Int.tmod (IntKind.u64.wrap (a1)) 12)))) 366) = some r := by rw [if_pos rfl] at H; exact H
          clear H
          have H := H1
          clear H1
          have H' := Aside0.mk H
          clear H
          go_wp2
          go_meet
          case rel => exact ⟨_, (366), (by first | rfl | (simp; done) | (simp [*]; done)), H', ⟨by have := HJ2.out; first | omega | exact Nat.le_refl _⟩, ⟨by repeat (first | (with_reducible first | exact HB.out | apply below_alloc | apply pw_below_drewN | apply below_drew1) | exact HB.out)⟩⟩
        · replace c7 := Bool.eq_false_iff.mpr c7
          subst c7
          have H1 : (stevedorelaw4_ClockYears.j1 kj2 (wrap64 ((wrap64 (Int.tmod (IntKind.u64.wrap (a0)) 180001)) - 90000)) (wrap64 (1 + (wrap64 (Int.tmod (IntKind.u64.wrap (a1)) 12)))) 365) = some r := by rw [if_neg (show ¬ (false = true) by decide)] at H; exact H
          clear H
          have H := H1
          clear H1
          have H' := Aside0.mk H
          clear H
          go_wp2
          go_meet
          case rel => exact ⟨_, (365), (by first | rfl | (simp; done) | (simp [*]; done)), H', ⟨by have := HJ2.out; first | omega | exact Nat.le_refl _⟩, ⟨by repeat (first | (with_reducible first | exact HB.out | apply below_alloc | apply pw_below_drewN | apply below_drew1) | exact HB.out)⟩⟩
      case rest =>
        clear HC6
        try clear c1
        try clear p2
        try clear c4
        try clear c4b0
        try clear c4b1
        try clear c5
        try clear c5b0
        try clear c5b1
        try clear p6
        try clear c7
        try clear p2
        obtain ⟨kq, x8_5, rfl, HA, HJ5, HB⟩ := hcut
        cases kq with
        | zero => exact absurd HA.out (by simp [stevedorelaw4_ClockYears.j1])
        | succ kj5 =>
          have H := HA.out
          clear HA
          simp only [stevedorelaw4_ClockYears.j1] at H
          replace H := Option.bind_eq_some_iff.mp H
          obtain ⟨t101, A80, H⟩ := H
          replace H : (if (wrap64 (1 + (wrap64 (Int.tmod (IntKind.u64.wrap (a1)) 12)))) < 12 then ((clock_Days.f (wrap64 ((wrap64 (Int.tmod (IntKind.u64.wrap (a0)) 180001)) - 90000)) (wrap64 ((wrap64 (1 + (wrap64 (Int.tmod (IntKind.u64.wrap (a1)) 12)))) + 1)) 1).bind fun t102 => (stevedorelaw4_ClockYears.j2 kj5 (wrap64 ((wrap64 (Int.tmod (IntKind.u64.wrap (a0)) 180001)) - 90000)) (wrap64 (1 + (wrap64 (Int.tmod (IntKind.u64.wrap (a1)) 12)))) x8_5 t102)) else (stevedorelaw4_ClockYears.j2 kj5 (wrap64 ((wrap64 (Int.tmod (IntKind.u64.wrap (a0)) 180001)) - 90000)) (wrap64 (1 + (wrap64 (Int.tmod (IntKind.u64.wrap (a1)) 12)))) x8_5 t101)) = some r := H
          have A8 := Aside0.mk A80
          clear A80
          have HC9 := Aside0.mk H
          clear H
          go_upto_if 38 with (first | ((with_reducible refine gate_callee (f := 41) rfl ?_); refine goesL_ (some 36) rfl rfl Tryd.func41 (by kernel_rfl) rfl #[.int .i64 (wrap64 ((wrap64 ((wrap64 (Int.tmod (IntKind.u64.wrap (a0)) 180001)) - 90000)) + 1)), .int .i64 1, .int .i64 1] rfl (by (try simp only [List.map_toArray, List.map_cons, List.map_nil]); first | done | rfl | (simp only [List.length_drop, List.length_take]; rfl)) ?_; (with_reducible refine (clock_Days.calls (wrap64 ((wrap64 ((wrap64 (Int.tmod (IntKind.u64.wrap (a0)) 180001)) - 90000)) + 1)) 1 1 t101 _ A8.out).mono ?_); rintro e w' ⟨rfl, ⟨nd, rfl⟩⟩; refine ⟨_, rfl, ?_⟩))
          (try simp only [Act.put, List.setIfInBounds_toArray, List.set_cons_zero, List.set_cons_succ])
          go_cut [9] (fun v9 wc => ∃ (kq : Nat) (x9_8 : Int), v9 = .int .i64 x9_8 ∧ Aside0 (stevedorelaw4_ClockYears.j2 kq (wrap64 ((wrap64 (Int.tmod (IntKind.u64.wrap (a0)) 180001)) - 90000)) (wrap64 (1 + (wrap64 (Int.tmod (IntKind.u64.wrap (a1)) 12)))) x8_5 x9_8 = some r) ∧ Aside0 (kq ≤ kj5) ∧ Aside0 (Below w.heap.size w wc))
          case first =>
            have H := HC9.out
            clear HC9
            by_cases c10 : (wrap64 (1 + (wrap64 (Int.tmod (IntKind.u64.wrap (a1)) 12)))) < 12
            · rw [if_pos c10] at H
              have c10b0 : decide ((wrap64 (1 + (wrap64 (Int.tmod (IntKind.u64.wrap (a1)) 12)))) < 12) = true := decide_eq_true c10
              clear c10
              (first | rw [c10b0] | (simp only [i64_w, i32_w]; rw [c10b0]) | rw [c10b1] | skip)
              replace H := Option.bind_eq_some_iff.mp H
              obtain ⟨t102, A110, H⟩ := H
              replace H : (stevedorelaw4_ClockYears.j2 kj5 (wrap64 ((wrap64 (Int.tmod (IntKind.u64.wrap (a0)) 180001)) - 90000)) (wrap64 (1 + (wrap64 (Int.tmod (IntKind.u64.wrap (a1)) 12)))) x8_5 t102) = some r := H
              have A11 := Aside0.mk A110
              clear A110
              have H' := Aside0.mk H
              clear H
              go_wp2_with (first | ((with_reducible refine gate_callee (f := 41) rfl ?_); refine goesL_ (some 42) rfl rfl Tryd.func41 (by kernel_rfl) rfl #[.int .i64 (wrap64 ((wrap64 (Int.tmod (IntKind.u64.wrap (a0)) 180001)) - 90000)), .int .i64 (wrap64 ((wrap64 (1 + (wrap64 (Int.tmod (IntKind.u64.wrap (a1)) 12)))) + 1)), .int .i64 1] rfl (by (try simp only [List.map_toArray, List.map_cons, List.map_nil]); first | done | rfl | (simp only [List.length_drop, List.length_take]; rfl)) ?_; (with_reducible refine (clock_Days.calls (wrap64 ((wrap64 (Int.tmod (IntKind.u64.wrap (a0)) 180001)) - 90000)) (wrap64 ((wrap64 (1 + (wrap64 (Int.tmod (IntKind.u64.wrap (a1)) 12)))) + 1)) 1 t102 _ A11.out).mono ?_); rintro e w' ⟨rfl, ⟨nd, rfl⟩⟩; refine ⟨_, rfl, ?_⟩))
              go_meet
              case rel => exact ⟨_, (t102), (by first | rfl | (simp; done) | (simp [*]; done)), H', ⟨by have := HJ2.out; have := HJ5.out; first | omega | exact Nat.le_refl _⟩, ⟨by repeat (first | (with_reducible first | exact HB.out | apply below_alloc | apply pw_below_drewN | apply below_drew1) | exact HB.out)⟩⟩
            · rw [if_neg c10] at H
              have c10b0 : decide ((wrap64 (1 + (wrap64 (Int.tmod (IntKind.u64.wrap (a1)) 12)))) < 12) = false := decide_eq_false c10
              clear c10
              (first | rw [c10b0] | (simp only [i64_w, i32_w]; rw [c10b0]) | rw [c10b1] | skip)
              have H' := Aside0.mk H
              clear H
              go_wp2
              go_meet
              case rel => exact ⟨_, (t101), (by first | rfl | (simp; done) | (simp [*]; done)), H', ⟨by have := HJ2.out; have := HJ5.out; first | omega | exact Nat.le_refl _⟩, ⟨by repeat (first | (with_reducible first | exact HB.out | apply below_alloc | apply pw_below_drewN | apply below_drew1) | exact HB.out)⟩⟩
          case rest =>
            clear HC9
            try clear c1
            try clear p2
            try clear c4
            try clear c4b0
            try clear c4b1
            try clear c5
            try clear c5b0
            try clear c5b1
            try clear p6
            try clear c7
            try clear c10
            try clear c10b0
            try clear c11
            try clear p2
            try clear p6
            obtain ⟨kq, x9_8, rfl, HA, HJ8, HB⟩ := hcut
            cases kq with
            | zero => exact absurd HA.out (by simp [stevedorelaw4_ClockYears.j2])
            | succ kj8 =>
              have H := HA.out
              clear HA
              simp only [stevedorelaw4_ClockYears.j2] at H
              replace H := Option.bind_eq_some_iff.mp H
              obtain ⟨t103, A120, H⟩ := H
              replace H : (if t103 = true then ((clock_Days.f (wrap64 ((wrap64 ((wrap64 (Int.tmod (IntKind.u64.wrap (a0)) 180001)) - 90000)) + 400)) (wrap64 (1 + (wrap64 (Int.tmod (IntKind.u64.wrap (a1)) 12)))) 5).bind fun t104 => ((clock_Days.f (wrap64 ((wrap64 (Int.tmod (IntKind.u64.wrap (a0)) 180001)) - 90000)) (wrap64 (1 + (wrap64 (Int.tmod (IntKind.u64.wrap (a1)) 12)))) 5).bind fun t105 => (if (wrap64 (t104 - t105)) = 146097 then ((clock_Days.f (wrap64 ((wrap64 ((wrap64 (Int.tmod (IntKind.u64.wrap (a0)) 180001)) - 90000)) + 1)) 1 1).bind fun t106 => ((clock_Days.f (wrap64 ((wrap64 (Int.tmod (IntKind.u64.wrap (a0)) 180001)) - 90000)) 1 1).bind fun t107 => (if (wrap64 (t106 - t107)) = x8_5 then ((clock_Days.f (wrap64 ((wrap64 (Int.tmod (IntKind.u64.wrap (a0)) 180001)) - 90000)) (wrap64 (1 + (wrap64 (Int.tmod (IntKind.u64.wrap (a1)) 12)))) 1).bind fun t108 => ((stevedoreref4_Month.f (wrap64 ((wrap64 (Int.tmod (IntKind.u64.wrap (a0)) 180001)) - 90000)) (wrap64 (1 + (wrap64 (Int.tmod (IntKind.u64.wrap (a1)) 12))))).bind fun t109 => (if (wrap64 (x9_8 - t108)) = t109 then ((clock_Days.f (wrap64 ((wrap64 (Int.tmod (IntKind.u64.wrap (a0)) 180001)) - 90000)) (wrap64 (1 + (wrap64 (Int.tmod (IntKind.u64.wrap (a1)) 12)))) 31).bind fun t110 => ((clock_Days.f (wrap64 ((wrap64 (Int.tmod (IntKind.u64.wrap (a0)) 180001)) - 90000)) (wrap64 (1 + (wrap64 (Int.tmod (IntKind.u64.wrap (a1)) 12)))) 1).bind fun t111 => (some ((wrap64 (t110 - t111)) == 30)))) else (some false)))) else (some false)))) else (some false)))) else (some false)) = some r := H
              have A12 := Aside0.mk A120
              clear A120
              by_cases c13 : t103 = true
              · subst c13
                have H1 : ((clock_Days.f (wrap64 ((wrap64 ((wrap64 (Int.tmod (IntKind.u64.wrap (a0)) 180001)) - 90000)) + 400)) (wrap64 (1 + (wrap64 (Int.tmod (IntKind.u64.wrap (a1)) 12)))) 5).bind fun t104 => ((clock_Days.f (wrap64 ((wrap64 (Int.tmod (IntKind.u64.wrap (a0)) 180001)) - 90000)) (wrap64 (1 + (wrap64 (Int.tmod (IntKind.u64.wrap (a1)) 12)))) 5).bind fun t105 => (if (wrap64 (t104 - t105)) = 146097 then ((clock_Days.f (wrap64 ((wrap64 ((wrap64 (Int.tmod (IntKind.u64.wrap (a0)) 180001)) - 90000)) + 1)) 1 1).bind fun t106 => ((clock_Days.f (wrap64 ((wrap64 (Int.tmod (IntKind.u64.wrap (a0)) 180001)) - 90000)) 1 1).bind fun t107 => (if (wrap64 (t106 - t107)) = x8_5 then ((clock_Days.f (wrap64 ((wrap64 (Int.tmod (IntKind.u64.wrap (a0)) 180001)) - 90000)) (wrap64 (1 + (wrap64 (Int.tmod (IntKind.u64.wrap (a1)) 12)))) 1).bind fun t108 => ((stevedoreref4_Month.f (wrap64 ((wrap64 (Int.tmod (IntKind.u64.wrap (a0)) 180001)) - 90000)) (wrap64 (1 + (wrap64 (Int.tmod (IntKind.u64.wrap (a1)) 12))))).bind fun t109 => (if (wrap64 (x9_8 - t108)) = t109 then ((clock_Days.f (wrap64 ((wrap64 (Int.tmod (IntKind.u64.wrap (a0)) 180001)) - 90000)) (wrap64 (1 + (wrap64 (Int.tmod (IntKind.u64.wrap (a1)) 12)))) 31).bind fun t110 => ((clock_Days.f (wrap64 ((wrap64 (Int.tmod (IntKind.u64.wrap (a0)) 180001)) - 90000)) (wrap64 (1 + (wrap64 (Int.tmod (IntKind.u64.wrap (a1)) 12)))) 1).bind fun t111 => (some ((wrap64 (t110 - t111)) == 30)))) else (some false)))) else (some false)))) else (some false)))) = some r := by rw [if_pos rfl] at H; exact H
                clear H
                have H := H1
                clear H1
                replace H := Option.bind_eq_some_iff.mp H
                obtain ⟨t104, A140, H⟩ := H
                replace H : ((clock_Days.f (wrap64 ((wrap64 (Int.tmod (IntKind.u64.wrap (a0)) 180001)) - 90000)) (wrap64 (1 + (wrap64 (Int.tmod (IntKind.u64.wrap (a1)) 12)))) 5).bind fun t105 => (if (wrap64 (t104 - t105)) = 146097 then ((clock_Days.f (wrap64 ((wrap64 ((wrap64 (Int.tmod (IntKind.u64.wrap (a0)) 180001)) - 90000)) + 1)) 1 1).bind fun t106 => ((clock_Days.f (wrap64 ((wrap64 (Int.tmod (IntKind.u64.wrap (a0)) 180001)) - 90000)) 1 1).bind fun t107 => (if (wrap64 (t106 - t107)) = x8_5 then ((clock_Days.f (wrap64 ((wrap64 (Int.tmod (IntKind.u64.wrap (a0)) 180001)) - 90000)) (wrap64 (1 + (wrap64 (Int.tmod (IntKind.u64.wrap (a1)) 12)))) 1).bind fun t108 => ((stevedoreref4_Month.f (wrap64 ((wrap64 (Int.tmod (IntKind.u64.wrap (a0)) 180001)) - 90000)) (wrap64 (1 + (wrap64 (Int.tmod (IntKind.u64.wrap (a1)) 12))))).bind fun t109 => (if (wrap64 (x9_8 - t108)) = t109 then ((clock_Days.f (wrap64 ((wrap64 (Int.tmod (IntKind.u64.wrap (a0)) 180001)) - 90000)) (wrap64 (1 + (wrap64 (Int.tmod (IntKind.u64.wrap (a1)) 12)))) 31).bind fun t110 => ((clock_Days.f (wrap64 ((wrap64 (Int.tmod (IntKind.u64.wrap (a0)) 180001)) - 90000)) (wrap64 (1 + (wrap64 (Int.tmod (IntKind.u64.wrap (a1)) 12)))) 1).bind fun t111 => (some ((wrap64 (t110 - t111)) == 30)))) else (some false)))) else (some false)))) else (some false))) = some r := H
                have A14 := Aside0.mk A140
                clear A140
                replace H := Option.bind_eq_some_iff.mp H
                obtain ⟨t105, A150, H⟩ := H
                replace H : (if (wrap64 (t104 - t105)) = 146097 then ((clock_Days.f (wrap64 ((wrap64 ((wrap64 (Int.tmod (IntKind.u64.wrap (a0)) 180001)) - 90000)) + 1)) 1 1).bind fun t106 => ((clock_Days.f (wrap64 ((wrap64 (Int.tmod (IntKind.u64.wrap (a0)) 180001)) - 90000)) 1 1).bind fun t107 => (if (wrap64 (t106 - t107)) = x8_5 then ((clock_Days.f (wrap64 ((wrap64 (Int.tmod (IntKind.u64.wrap (a0)) 180001)) - 90000)) (wrap64 (1 + (wrap64 (Int.tmod (IntKind.u64.wrap (a1)) 12)))) 1).bind fun t108 => ((stevedoreref4_Month.f (wrap64 ((wrap64 (Int.tmod (IntKind.u64.wrap (a0)) 180001)) - 90000)) (wrap64 (1 + (wrap64 (Int.tmod (IntKind.u64.wrap (a1)) 12))))).bind fun t109 => (if (wrap64 (x9_8 - t108)) = t109 then ((clock_Days.f (wrap64 ((wrap64 (Int.tmod (IntKind.u64.wrap (a0)) 180001)) - 90000)) (wrap64 (1 + (wrap64 (Int.tmod (IntKind.u64.wrap (a1)) 12)))) 31).bind fun t110 => ((clock_Days.f (wrap64 ((wrap64 (Int.tmod (IntKind.u64.wrap (a0)) 180001)) - 90000)) (wrap64 (1 + (wrap64 (Int.tmod (IntKind.u64.wrap (a1)) 12)))) 1).bind fun t111 => (some ((wrap64 (t110 - t111)) == 30)))) else (some false)))) else (some false)))) else (some false)) = some r := H
                have A15 := Aside0.mk A150
                clear A150
                by_cases c16 : (wrap64 (t104 - t105)) = 146097
                · rw [if_pos c16] at H
                  have c16b0 : ((wrap64 (t104 - t105)) == 146097) = true := beq_iff_eq.mpr c16
                  have c16b1 : ((wrap64 (t104 - t105)) != 146097) = false := bne_eq_false_iff_eq.mpr c16
                  clear c16
                  replace H := Option.bind_eq_some_iff.mp H
                  obtain ⟨t106, A170, H⟩ := H
                  replace H : ((clock_Days.f (wrap64 ((wrap64 (Int.tmod (IntKind.u64.wrap (a0)) 180001)) - 90000)) 1 1).bind fun t107 => (if (wrap64 (t106 - t107)) = x8_5 then ((clock_Days.f (wrap64 ((wrap64 (Int.tmod (IntKind.u64.wrap (a0)) 180001)) - 90000)) (wrap64 (1 + (wrap64 (Int.tmod (IntKind.u64.wrap (a1)) 12)))) 1).bind fun t108 => ((stevedoreref4_Month.f (wrap64 ((wrap64 (Int.tmod (IntKind.u64.wrap (a0)) 180001)) - 90000)) (wrap64 (1 + (wrap64 (Int.tmod (IntKind.u64.wrap (a1)) 12))))).bind fun t109 => (if (wrap64 (x9_8 - t108)) = t109 then ((clock_Days.f (wrap64 ((wrap64 (Int.tmod (IntKind.u64.wrap (a0)) 180001)) - 90000)) (wrap64 (1 + (wrap64 (Int.tmod (IntKind.u64.wrap (a1)) 12)))) 31).bind fun t110 => ((clock_Days.f (wrap64 ((wrap64 (Int.tmod (IntKind.u64.wrap (a0)) 180001)) - 90000)) (wrap64 (1 + (wrap64 (Int.tmod (IntKind.u64.wrap (a1)) 12)))) 1).bind fun t111 => (some ((wrap64 (t110 - t111)) == 30)))) else (some false)))) else (some false))) = some r := H
                  have A17 := Aside0.mk A170
                  clear A170
                  obtain rfl : t101 = t106 := Option.some.inj (A8.out.symm.trans A17.out)
                  replace H := Option.bind_eq_some_iff.mp H
                  obtain ⟨t107, A180, H⟩ := H
                  replace H : (if (wrap64 (t101 - t107)) = x8_5 then ((clock_Days.f (wrap64 ((wrap64 (Int.tmod (IntKind.u64.wrap (a0)) 180001)) - 90000)) (wrap64 (1 + (wrap64 (Int.tmod (IntKind.u64.wrap (a1)) 12)))) 1).bind fun t108 => ((stevedoreref4_Month.f (wrap64 ((wrap64 (Int.tmod (IntKind.u64.wrap (a0)) 180001)) - 90000)) (wrap64 (1 + (wrap64 (Int.tmod (IntKind.u64.wrap (a1)) 12))))).bind fun t109 => (if (wrap64 (x9_8 - t108)) = t109 then ((clock_Days.f (wrap64 ((wrap64 (Int.tmod (IntKind.u64.wrap (a0)) 180001)) - 90000)) (wrap64 (1 + (wrap64 (Int.tmod (IntKind.u64.wrap (a1)) 12)))) 31).bind fun t110 => ((clock_Days.f (wrap64 ((wrap64 (Int.tmod (IntKind.u64.wrap (a0)) 180001)) - 90000)) (wrap64 (1 + (wrap64 (Int.tmod (IntKind.u64.wrap (a1)) 12)))) 1).bind fun t111 => (some ((wrap64 (t110 - t111)) == 30)))) else (some false)))) else (some false)) = some r := H
                  have A18 := Aside0.mk A180
                  clear A180
                  by_cases c19 : (wrap64 (t101 - t107)) = x8_5
                  · rw [if_pos c19] at H
                    have c19b0 : ((wrap64 (t101 - t107)) == x8_5) = true := beq_iff_eq.mpr c19
                    have c19b1 : ((wrap64 (t101 - t107)) != x8_5) = false := bne_eq_false_iff_eq.mpr c19
                    clear c19
                    replace H := Option.bind_eq_some_iff.mp H
                    obtain ⟨t108, A200, H⟩ := H
                    replace H : ((stevedoreref4_Month.f (wrap64 ((wrap64 (Int.tmod (IntKind.u64.wrap (a0)) 180001)) - 90000)) (wrap64 (1 + (wrap64 (Int.tmod (IntKind.u64.wrap (a1)) 12))))).bind fun t109 => (if (wrap64 (x9_8 - t108)) = t109 then ((clock_Days.f (wrap64 ((wrap64 (Int.tmod (IntKind.u64.wrap (a0)) 180001)) - 90000)) (wrap64 (1 + (wrap64 (Int.tmod (IntKind.u64.wrap (a1)) 12)))) 31).bind fun t110 => ((clock_Days.f (wrap64 ((wrap64 (Int.tmod (IntKind.u64.wrap (a0)) 180001)) - 90000)) (wrap64 (1 + (wrap64 (Int.tmod (IntKind.u64.wrap (a1)) 12)))) 1).bind fun t111 => (some ((wrap64 (t110 - t111)) == 30)))) else (some false))) = some r := H
                    have A20 := Aside0.mk A200
                    clear A200
                    replace H := Option.bind_eq_some_iff.mp H
                    obtain ⟨t109, A210, H⟩ := H
                    replace H : (if (wrap64 (x9_8 - t108)) = t109 then ((clock_Days.f (wrap64 ((wrap64 (Int.tmod (IntKind.u64.wrap (a0)) 180001)) - 90000)) (wrap64 (1 + (wrap64 (Int.tmod (IntKind.u64.wrap (a1)) 12)))) 31).bind fun t110 => ((clock_Days.f (wrap64 ((wrap64 (Int.tmod (IntKind.u64.wrap (a0)) 180001)) - 90000)) (wrap64 (1 + (wrap64 (Int.tmod (IntKind.u64.wrap (a1)) 12)))) 1).bind fun t111 => (some ((wrap64 (t110 - t111)) == 30)))) else (some false)) = some r := H
                    have A21 := Aside0.mk A210
                    clear A210
                    by_cases c22 : (wrap64 (x9_8 - t108)) = t109
                    · rw [if_pos c22] at H
                      have c22b0 : ((wrap64 (x9_8 - t108)) == t109) = true := beq_iff_eq.mpr c22
                      have c22b1 : ((wrap64 (x9_8 - t108)) != t109) = false := bne_eq_false_iff_eq.mpr c22
                      clear c22
                      replace H := Option.bind_eq_some_iff.mp H
                      obtain ⟨t110, A230, H⟩ := H
                      replace H : ((clock_Days.f (wrap64 ((wrap64 (Int.tmod (IntKind.u64.wrap (a0)) 180001)) - 90000)) (wrap64 (1 + (wrap64 (Int.tmod (IntKind.u64.wrap (a1)) 12)))) 1).bind fun t111 => (some ((wrap64 (t110 - t111)) == 30))) = some r := H
                      have A23 := Aside0.mk A230
                      clear A230
                      replace H := Option.bind_eq_some_iff.mp H
                      obtain ⟨t111, A240, H⟩ := H
                      replace H : (some ((wrap64 (t110 - t111)) == 30)) = some r := H
                      have A24 := Aside0.mk A240
                      clear A240
                      obtain rfl : t108 = t111 := Option.some.inj (A20.out.symm.trans A24.out)
                      obtain rfl := Option.some.inj H
                      go_wp2_with (first | ((with_reducible refine gate_callee (f := 31) rfl ?_); refine goesL_ (some 43) rfl rfl Tryd.func31 (by kernel_rfl) rfl #[] rfl (by (try simp only [List.map_toArray, List.map_cons, List.map_nil]); first | done | rfl | (simp only [List.length_drop, List.length_take]; rfl)) ?_; (with_reducible refine (stevedorelaw4_told.calls  true _ A12.out (Go.Proofs.YtfmfikodnpnblaaDoor.ClkLib.Vars.below HVARS.out (by repeat (first | (with_reducible first | exact HB.out | apply below_alloc | apply pw_below_drewN | apply below_drew1 | refine below_set ?_ (Aside0.out (by assumption))) | exact HB.out)))).mono ?_); rintro e w25 ⟨rfl, hb⟩; refine ⟨_, rfl, ?_⟩; have n0_ := Aside0.mk (below_step (by repeat (first | (with_reducible first | exact HB.out | apply below_alloc | apply pw_below_drewN | apply below_drew1) | exact HB.out)) hb); clear HB; have HB := n0_; clear n0_; (try clear hb); (try clear hb2); (try clear hk); (try clear hi)) | (go_at_call 41; (with_reducible refine (clock_Days.calls (wrap64 ((wrap64 ((wrap64 (Int.tmod (IntKind.u64.wrap (a0)) 180001)) - 90000)) + 400)) (wrap64 (1 + (wrap64 (Int.tmod (IntKind.u64.wrap (a1)) 12)))) 5 t104 _ A14.out).mono ?_); rintro e w' ⟨rfl, ⟨nd, rfl⟩⟩) | (go_at_call 41; (with_reducible refine (clock_Days.calls (wrap64 ((wrap64 (Int.tmod (IntKind.u64.wrap (a0)) 180001)) - 90000)) (wrap64 (1 + (wrap64 (Int.tmod (IntKind.u64.wrap (a1)) 12)))) 5 t105 _ A15.out).mono ?_); rintro e w' ⟨rfl, ⟨nd, rfl⟩⟩) | (go_at_call 41; (with_reducible refine (clock_Days.calls (wrap64 ((wrap64 ((wrap64 (Int.tmod (IntKind.u64.wrap (a0)) 180001)) - 90000)) + 1)) 1 1 t101 _ A17.out).mono ?_); rintro e w' ⟨rfl, ⟨nd, rfl⟩⟩) | (go_at_call 41; (with_reducible refine (clock_Days.calls (wrap64 ((wrap64 (Int.tmod (IntKind.u64.wrap (a0)) 180001)) - 90000)) 1 1 t107 _ A18.out).mono ?_); rintro e w' ⟨rfl, ⟨nd, rfl⟩⟩) | (go_at_call 41; (with_reducible refine (clock_Days.calls (wrap64 ((wrap64 (Int.tmod (IntKind.u64.wrap (a0)) 180001)) - 90000)) (wrap64 (1 + (wrap64 (Int.tmod (IntKind.u64.wrap (a1)) 12)))) 1 t108 _ A20.out).mono ?_); rintro e w' ⟨rfl, ⟨nd, rfl⟩⟩) | (go_at_call 42; (with_reducible refine (stevedoreref4_Month.calls (wrap64 ((wrap64 (Int.tmod (IntKind.u64.wrap (a0)) 180001)) - 90000)) (wrap64 (1 + (wrap64 (Int.tmod (IntKind.u64.wrap (a1)) 12)))) t109 _ A21.out).mono ?_); rintro e w26 ⟨rfl, hb⟩; have n0_ := Aside0.mk (below_step (by repeat (first | (with_reducible first | exact HB.out | apply below_alloc | apply pw_below_drewN | apply below_drew1) | exact HB.out)) hb); clear HB; have HB := n0_; clear n0_; (try clear hb); (try clear hb2); (try clear hk); (try clear hi)) | (go_at_call 41; (with_reducible refine (clock_Days.calls (wrap64 ((wrap64 (Int.tmod (IntKind.u64.wrap (a0)) 180001)) - 90000)) (wrap64 (1 + (wrap64 (Int.tmod (IntKind.u64.wrap (a1)) 12)))) 31 t110 _ A23.out).mono ?_); rintro e w' ⟨rfl, ⟨nd, rfl⟩⟩) | (go_at_call 41; (with_reducible refine (clock_Days.calls (wrap64 ((wrap64 (Int.tmod (IntKind.u64.wrap (a0)) 180001)) - 90000)) (wrap64 (1 + (wrap64 (Int.tmod (IntKind.u64.wrap (a1)) 12)))) 1 t108 _ A24.out).mono ?_); rintro e w' ⟨rfl, ⟨nd, rfl⟩⟩))
                      go_ret
                      exact ⟨by first | rfl | (simp only [show ∀ l : List UInt8, (l != []) = (!l.isEmpty) from fun l => by cases l <;> rfl]; rfl) | (simp [errW_none, errW_some] <;> rfl) | (simp [*, errW_none, errW_some] <;> rfl), by repeat (first | (with_reducible first | exact HB.out | apply below_alloc | apply pw_below_drewN | apply below_drew1) | exact HB.out)⟩
                    · rw [if_neg c22] at H
                      have c22b0 : ((wrap64 (x9_8 - t108)) == t109) = false := beq_eq_false_iff_ne.mpr c22
                      have c22b1 : ((wrap64 (x9_8 - t108)) != t109) = true := bne_iff_ne.mpr c22
                      obtain rfl := Option.some.inj H
                      go_wp2_with (first | ((with_reducible refine gate_callee (f := 31) rfl ?_); refine goesL_ (some 43) rfl rfl Tryd.func31 (by kernel_rfl) rfl #[] rfl (by (try simp only [List.map_toArray, List.map_cons, List.map_nil]); first | done | rfl | (simp only [List.length_drop, List.length_take]; rfl)) ?_; (with_reducible refine (stevedorelaw4_told.calls  true _ A12.out (Go.Proofs.YtfmfikodnpnblaaDoor.ClkLib.Vars.below HVARS.out (by repeat (first | (with_reducible first | exact HB.out | apply below_alloc | apply pw_below_drewN | apply below_drew1 | refine below_set ?_ (Aside0.out (by assumption))) | exact HB.out)))).mono ?_); rintro e w27 ⟨rfl, hb⟩; refine ⟨_, rfl, ?_⟩; have n0_ := Aside0.mk (below_step (by repeat (first | (with_reducible first | exact HB.out | apply below_alloc | apply pw_below_drewN | apply below_drew1) | exact HB.out)) hb); clear HB; have HB := n0_; clear n0_; (try clear hb); (try clear hb2); (try clear hk); (try clear hi)) | (go_at_call 41; (with_reducible refine (clock_Days.calls (wrap64 ((wrap64 ((wrap64 (Int.tmod (IntKind.u64.wrap (a0)) 180001)) - 90000)) + 400)) (wrap64 (1 + (wrap64 (Int.tmod (IntKind.u64.wrap (a1)) 12)))) 5 t104 _ A14.out).mono ?_); rintro e w' ⟨rfl, ⟨nd, rfl⟩⟩) | (go_at_call 41; (with_reducible refine (clock_Days.calls (wrap64 ((wrap64 (Int.tmod (IntKind.u64.wrap (a0)) 180001)) - 90000)) (wrap64 (1 + (wrap64 (Int.tmod (IntKind.u64.wrap (a1)) 12)))) 5 t105 _ A15.out).mono ?_); rintro e w' ⟨rfl, ⟨nd, rfl⟩⟩) | (go_at_call 41; (with_reducible refine (clock_Days.calls (wrap64 ((wrap64 ((wrap64 (Int.tmod (IntKind.u64.wrap (a0)) 180001)) - 90000)) + 1)) 1 1 t101 _ A17.out).mono ?_); rintro e w' ⟨rfl, ⟨nd, rfl⟩⟩) | (go_at_call 41; (with_reducible refine (clock_Days.calls (wrap64 ((wrap64 (Int.tmod (IntKind.u64.wrap (a0)) 180001)) - 90000)) 1 1 t107 _ A18.out).mono ?_); rintro e w' ⟨rfl, ⟨nd, rfl⟩⟩) | (go_at_call 41; (with_reducible refine (clock_Days.calls (wrap64 ((wrap64 (Int.tmod (IntKind.u64.wrap (a0)) 180001)) - 90000)) (wrap64 (1 + (wrap64 (Int.tmod (IntKind.u64.wrap (a1)) 12)))) 1 t108 _ A20.out).mono ?_); rintro e w' ⟨rfl, ⟨nd, rfl⟩⟩) | (go_at_call 42; (with_reducible refine (stevedoreref4_Month.calls (wrap64 ((wrap64 (Int.tmod (IntKind.u64.wrap (a0)) 180001)) - 90000)) (wrap64 (1 + (wrap64 (Int.tmod (IntKind.u64.wrap (a1)) 12)))) t109 _ A21.out).mono ?_); rintro e w28 ⟨rfl, hb⟩; have n0_ := Aside0.mk (below_step (by repeat (first | (with_reducible first | exact HB.out | apply below_alloc | apply pw_below_drewN | apply below_drew1) | exact HB.out)) hb); clear HB; have HB := n0_; clear n0_; (try clear hb); (try clear hb2); (try clear hk); (try clear hi)))
                      go_ret
                      exact ⟨by first | rfl | (simp only [show ∀ l : List UInt8, (l != []) = (!l.isEmpty) from fun l => by cases l <;> rfl]; rfl) | (simp [errW_none, errW_some] <;> rfl) | (simp [*, errW_none, errW_some] <;> rfl), by repeat (first | (with_reducible first | exact HB.out | apply below_alloc | apply pw_below_drewN | apply below_drew1) | exact HB.out)⟩
                  · rw [if_neg c19] at H
                    have c19b0 : ((wrap64 (t101 - t107)) == x8_5) = false := beq_eq_false_iff_ne.mpr c19
                    have c19b1 : ((wrap64 (t101 - t107)) != x8_5) = true := bne_iff_ne.mpr c19
                    obtain rfl := Option.some.inj H
                    go_wp2_with (first | ((with_reducible refine gate_callee (f := 31) rfl ?_); refine goesL_ (some 43) rfl rfl Tryd.func31 (by kernel_rfl) rfl #[] rfl (by (try simp only [List.map_toArray, List.map_cons, List.map_nil]); first | done | rfl | (simp only [List.length_drop, List.length_take]; rfl)) ?_; (with_reducible refine (stevedorelaw4_told.calls  true _ A12.out (Go.Proofs.YtfmfikodnpnblaaDoor.ClkLib.Vars.below HVARS.out (by repeat (first | (with_reducible first | exact HB.out | apply below_alloc | apply pw_below_drewN | apply below_drew1 | refine below_set ?_ (Aside0.out (by assumption))) | exact HB.out)))).mono ?_); rintro e w29 ⟨rfl, hb⟩; refine ⟨_, rfl, ?_⟩; have n0_ := Aside0.mk (below_step (by repeat (first | (with_reducible first | exact HB.out | apply below_alloc | apply pw_below_drewN | apply below_drew1) | exact HB.out)) hb); clear HB; have HB := n0_; clear n0_; (try clear hb); (try clear hb2); (try clear hk); (try clear hi)) | (go_at_call 41; (with_reducible refine (clock_Days.calls (wrap64 ((wrap64 ((wrap64 (Int.tmod (IntKind.u64.wrap (a0)) 180001)) - 90000)) + 400)) (wrap64 (1 + (wrap64 (Int.tmod (IntKind.u64.wrap (a1)) 12)))) 5 t104 _ A14.out).mono ?_); rintro e w' ⟨rfl, ⟨nd, rfl⟩⟩) | (go_at_call 41; (with_reducible refine (clock_Days.calls (wrap64 ((wrap64 (Int.tmod (IntKind.u64.wrap (a0)) 180001)) - 90000)) (wrap64 (1 + (wrap64 (Int.tmod (IntKind.u64.wrap (a1)) 12)))) 5 t105 _ A15.out).mono ?_); rintro e w' ⟨rfl, ⟨nd, rfl⟩⟩) | (go_at_call 41; (with_reducible refine (clock_Days.calls (wrap64 ((wrap64 ((wrap64 (Int.tmod (IntKind.u64.wrap (a0)) 180001)) - 90000)) + 1)) 1 1 t101 _ A17.out).mono ?_); rintro e w' ⟨rfl, ⟨nd, rfl⟩⟩) | (go_at_call 41; (with_reducible refine (clock_Days.calls (wrap64 ((wrap64 (Int.tmod (IntKind.u64.wrap (a0)) 180001)) - 90000)) 1 1 t107 _ A18.out).mono ?_); rintro e w' ⟨rfl, ⟨nd, rfl⟩⟩))
                    go_ret
                    exact ⟨by first | rfl | (simp only [show ∀ l : List UInt8, (l != []) = (!l.isEmpty) from fun l => by cases l <;> rfl]; rfl) | (simp [errW_none, errW_some] <;> rfl) | (simp [*, errW_none, errW_some] <;> rfl), by repeat (first | (with_reducible first | exact HB.out | apply below_alloc | apply pw_below_drewN | apply below_drew1) | exact HB.out)⟩
                · rw [if_neg c16] at H
                  have c16b0 : ((wrap64 (t104 - t105)) == 146097) = false := beq_eq_false_iff_ne.mpr c16
                  have c16b1 : ((wrap64 (t104 - t105)) != 146097) = true := bne_iff_ne.mpr c16
                  obtain rfl := Option.some.inj H
                  go_wp2_with (first | ((with_reducible refine gate_callee (f := 31) rfl ?_); refine goesL_ (some 43) rfl rfl Tryd.func31 (by kernel_rfl) rfl #[] rfl (by (try simp only [List.map_toArray, List.map_cons, List.map_nil]); first | done | rfl | (simp only [List.length_drop, List.length_take]; rfl)) ?_; (with_reducible refine (stevedorelaw4_told.calls  true _ A12.out (Go.Proofs.YtfmfikodnpnblaaDoor.ClkLib.Vars.below HVARS.out (by repeat (first | (with_reducible first | exact HB.out | apply below_alloc | apply pw_below_drewN | apply below_drew1 | refine below_set ?_ (Aside0.out (by assumption))) | exact HB.out)))).mono ?_); rintro e w30 ⟨rfl, hb⟩; refine ⟨_, rfl, ?_⟩; have n0_ := Aside0.mk (below_step (by repeat (first | (with_reducible first | exact HB.out | apply below_alloc | apply pw_below_drewN | apply below_drew1) | exact HB.out)) hb); clear HB; have HB := n0_; clear n0_; (try clear hb); (try clear hb2); (try clear hk); (try clear hi)) | (go_at_call 41; (with_reducible refine (clock_Days.calls (wrap64 ((wrap64 ((wrap64 (Int.tmod (IntKind.u64.wrap (a0)) 180001)) - 90000)) + 400)) (wrap64 (1 + (wrap64 (Int.tmod (IntKind.u64.wrap (a1)) 12)))) 5 t104 _ A14.out).mono ?_); rintro e w' ⟨rfl, ⟨nd, rfl⟩⟩) | (go_at_call 41; (with_reducible refine (clock_Days.calls (wrap64 ((wrap64 (Int.tmod (IntKind.u64.wrap (a0)) 180001)) - 90000)) (wrap64 (1 + (wrap64 (Int.tmod (IntKind.u64.wrap (a1)) 12)))) 5 t105 _ A15.out).mono ?_); rintro e w' ⟨rfl, ⟨nd, rfl⟩⟩))
                  go_ret
                  exact ⟨by first | rfl | (simp only [show ∀ l : List UInt8, (l != []) = (!l.isEmpty) from fun l => by cases l <;> rfl]; rfl) | (simp [errW_none, errW_some] <;> rfl) | (simp [*, errW_none, errW_some] <;> rfl), by repeat (first | (with_reducible first | exact HB.out | apply below_alloc | apply pw_below_drewN | apply below_drew1) | exact HB.out)⟩
              · replace c13 := Bool.eq_false_iff.mpr c13
                subst c13
                have H1 : (some false) = some r := by rw [if_neg (show ¬ (false = true) by decide)] at H; exact H
                clear H
                have H := H1
                clear H1
                obtain rfl := Option.some.inj H
                go_wp2_with (first | ((with_reducible refine gate_callee (f := 31) rfl ?_); refine goesL_ (some 43) rfl rfl Tryd.func31 (by kernel_rfl) rfl #[] rfl (by (try simp only [List.map_toArray, List.map_cons, List.map_nil]); first | done | rfl | (simp only [List.length_drop, List.length_take]; rfl)) ?_; (with_reducible refine (stevedorelaw4_told.calls  false _ A12.out (Go.Proofs.YtfmfikodnpnblaaDoor.ClkLib.Vars.below HVARS.out (by repeat (first | (with_reducible first | exact HB.out | apply below_alloc | apply pw_below_drewN | apply below_drew1 | refine below_set ?_ (Aside0.out (by assumption))) | exact HB.out)))).mono ?_); rintro e w31 ⟨rfl, hb⟩; refine ⟨_, rfl, ?_⟩; have n0_ := Aside0.mk (below_step (by repeat (first | (with_reducible first | exact HB.out | apply below_alloc | apply pw_below_drewN | apply below_drew1) | exact HB.out)) hb); clear HB; have HB := n0_; clear n0_; (try clear hb); (try clear hb2); (try clear hk); (try clear hi)))
                go_ret
                exact ⟨by first | rfl | (simp only [show ∀ l : List UInt8, (l != []) = (!l.isEmpty) from fun l => by cases l <;> rfl]; rfl) | (simp [errW_none, errW_some] <;> rfl) | (simp [*, errW_none, errW_some] <;> rfl), by repeat (first | (with_reducible first | exact HB.out | apply below_alloc | apply pw_below_drewN | apply below_drew1) | exact HB.out)⟩

/-- THE ONE PURE STATEMENT of stevedorelaw4_ClockYears: yours. -/
def stevedorelaw4_ClockYears.Pure : Prop := ∀ (a0 : Int) (a1 : Int), (Lit.int .i64 a0).wf = true → (Lit.int .i64 a1).wf = true → ∃ k, stevedorelaw4_ClockYears.f k a0 a1 = some true

end Go.Proofs.YtfmfikodnpnblaaDoor.PClockYears

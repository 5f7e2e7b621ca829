-- Written by this repo's gprint.py over the kit's printer, out of the translation. Not trusted: Lean checks it.
import Derived.Test.YtfmfikodnpnblaaDoorPClockParsesx0
namespace Go.Proofs.YtfmfikodnpnblaaDoor.PClockParses
open Go.RowKit Go.Proofs.YtfmfikodnpnblaaDoorW.PrintWords Go.Proofs.YtfmfikodnpnblaaDoorW.PrintLast Go.Proofs.YtfmfikodnpnblaaDoorW.PrintMore
attribute [local go_sem] max2_int min2_int max_two min_two max_three min_three max_four min_four   -- for this text's walks alone
open Go.Proofs.YtfmfikodnpnblaaDoor.ClkTold Go.Proofs.YtfmfikodnpnblaaDoor.FltNeg Go.Proofs.YtfmfikodnpnblaaDoor.PClk1 Go.Proofs.YtfmfikodnpnblaaDoor.PClkM
attribute [local go_sem] fop_run fint_run fofint_run Go.Proofs.YtfmfikodnpnblaaDoor.FltNeg.fneg_run
set_option linter.unusedVariables false
set_option linter.unusedSimpArgs false

-- function 31 (stevedorelaw4_told): by hand

-- function 32 (clock_Parse): by hand

-- function 43 (stevedorelaw4_digits): by hand

/-! ### stevedorelaw4_ClockParses: function 12 -/
mutual
def stevedorelaw4_ClockParses.j0 : Nat → List Int → ByteArray → Nat → Bool → Option (Bool)
  | 0, _, _, _, _ => none
  | k + 1, x1, x6, x7, x36 => if x36 = true then (some false) else (if x6.size + 1 ≤ 9223372036854775807 then (stevedorelaw4_ClockParses.l0 k x1 (x6 ++ (⟨#[46]⟩ : ByteArray)) x7 x7 0) else (none))
def stevedorelaw4_ClockParses.l0 : Nat → List Int → ByteArray → Nat → Nat → Int → Option (Bool)
  | 0, _, _, _, _, _ => none
  | k + 1, x1, x6, x7, x9, x10 => if x10 < (x1.length : Int) then (stevedorelaw4_ClockParses.j2 k x1 x6 x7 x9 x10 (decide (x10 < 12))) else (stevedorelaw4_ClockParses.j2 k x1 x6 x7 x9 x10 false)
def stevedorelaw4_ClockParses.j2 : Nat → List Int → ByteArray → Nat → Nat → Int → Bool → Option (Bool)
  | 0, _, _, _, _, _, _ => none
  | k + 1, x1, x6, x7, x9, x10, x47 => if x47 = true then (if 0 ≤ x10 then (if x10 < (x1.length : Int) then ((stevedorelaw4_digits.f k (wrap64 (Int.tmod (IntKind.u64.wrap (rd x1 x10)) 10))).bind fun t106 => (if x6.size + t106.size ≤ 9223372036854775807 then ((clock_Parse.f k (x6 ++ t106)).bind fun bt107 => (if (x6 ++ t106).size + 3 ≤ 9223372036854775807 then ((clock_Parse.f k ((x6 ++ t106) ++ (⟨#[48, 48, 48]⟩ : ByteArray))).bind fun bt109 => (if 1 + (x6 ++ t106).size ≤ 9223372036854775807 then ((clock_Parse.f k ((⟨#[45]⟩ : ByteArray) ++ (x6 ++ t106))).bind fun bt111 => (if bt107.2 = 0 then (if bt109.2 = 0 then (if bt111.2 = 0 then (if (FloatKind.f64.format.order bt107.1 x9 == some .lt) = true then (some false) else (if (fvalid .add x7 4607182418800017408) = true then (if (FloatKind.f64.format.order bt107.1 (fop .add x7 4607182418800017408) == some .gt || FloatKind.f64.format.order bt107.1 (fop .add x7 4607182418800017408) == some .eq) = true then (some false) else (if (FloatKind.f64.format.order bt109.1 bt107.1 != some .eq) = true then (some false) else (if (FloatKind.f64.format.order bt111.1 (fneg bt107.1) == some .gt) = true then (some false) else (if (fvalid .sub (fneg bt107.1) 4566650022153682944) = true then (if (FloatKind.f64.format.order bt111.1 (fop .sub (fneg bt107.1) 4566650022153682944) == some .lt) = true then (some false) else (stevedorelaw4_ClockParses.l0 k x1 (x6 ++ t106) x7 bt107.1 (wrap64 (x10 + 1)))) else (none))))) else (none))) else (some false)) else (some false)) else (some false))) else (none))) else (none))) else (none))) else (none)) else (none)) else ((stevedorelaw4_told.f).bind fun t104 => (some t104))
end
def stevedorelaw4_ClockParses.f (k : Nat) (a0 : Int) (l1 : List Int) : Option (Bool) := (stevedorelaw4_digits.f k (wrap64 (Int.tmod (IntKind.u64.wrap (a0)) 1000000001))).bind fun t101 => ((clock_Parse.f k t101).bind fun bt102 => (if bt102.2 = 0 then (stevedorelaw4_ClockParses.j0 k l1 t101 bt102.1 (FloatKind.f64.format.order bt102.1 (floatOfInt .f64 (wrap64 (Int.tmod (IntKind.u64.wrap (a0)) 1000000001))) != some .eq)) else (stevedorelaw4_ClockParses.j0 k l1 t101 bt102.1 true)))
theorem stevedorelaw4_ClockParses.mono_l : ∀ k, (∀ y0 y1 y2 y3, LeO (stevedorelaw4_ClockParses.j0 k y0 y1 y2 y3) (stevedorelaw4_ClockParses.j0 (k + 1) y0 y1 y2 y3)) ∧ (∀ y0 y1 y2 y3 y4, LeO (stevedorelaw4_ClockParses.l0 k y0 y1 y2 y3 y4) (stevedorelaw4_ClockParses.l0 (k + 1) y0 y1 y2 y3 y4)) ∧ (∀ y0 y1 y2 y3 y4 y5, LeO (stevedorelaw4_ClockParses.j2 k y0 y1 y2 y3 y4 y5) (stevedorelaw4_ClockParses.j2 (k + 1) y0 y1 y2 y3 y4 y5))
  | 0 => ⟨fun _ _ _ _ r h => by simp [stevedorelaw4_ClockParses.j0] at h, fun _ _ _ _ _ r h => by simp [stevedorelaw4_ClockParses.l0] at h, fun _ _ _ _ _ _ r h => by simp [stevedorelaw4_ClockParses.j2] at h⟩
  | k + 1 => by
    obtain ⟨ih0, ih1, ih2⟩ := stevedorelaw4_ClockParses.mono_l k
    refine ⟨?_, ?_, ?_⟩
    · intro y0 y1 y2 y3
      unfold stevedorelaw4_ClockParses.j0
      repeat' first
      | (with_reducible exact ih0 _ _ _ _)
      | (with_reducible exact ih1 _ _ _ _ _)
      | (with_reducible exact ih2 _ _ _ _ _ _)
      | (with_reducible exact clock_Parse.mono _ _)
      | (with_reducible exact stevedorelaw4_digits.mono _ _)
      | (with_reducible exact LeO.refl _)
      | (with_reducible exact LeO.none _)
      | (with_reducible refine LeO.ite ?_ ?_)
      | (with_reducible refine LeO.bind ?_ (fun _ => ?_))
      | exact ih0 _ _ _ _
      | exact ih1 _ _ _ _ _
      | exact ih2 _ _ _ _ _ _
      | exact clock_Parse.mono _ _
      | exact stevedorelaw4_digits.mono _ _
      | exact LeO.none _
      | refine LeO.ite ?_ ?_
      | refine LeO.bind ?_ (fun _ => ?_)
    · intro y0 y1 y2 y3 y4
      unfold stevedorelaw4_ClockParses.l0
      repeat' first
      | (with_reducible exact ih0 _ _ _ _)
      | (with_reducible exact ih1 _ _ _ _ _)
      | (with_reducible exact ih2 _ _ _ _ _ _)
      | (with_reducible exact clock_Parse.mono _ _)
      | (with_reducible exact stevedorelaw4_digits.mono _ _)
      | (with_reducible exact LeO.refl _)
      | (with_reducible exact LeO.none _)
      | (with_reducible refine LeO.ite ?_ ?_)
      | (with_reducible refine LeO.bind ?_ (fun _ => ?_))
      | exact ih0 _ _ _ _
      | exact ih1 _ _ _ _ _
      | exact ih2 _ _ _ _ _ _
      | exact clock_Parse.mono _ _
      | exact stevedorelaw4_digits.mono _ _
      | exact LeO.none _
      | refine LeO.ite ?_ ?_
      | refine LeO.bind ?_ (fun _ => ?_)
    · intro y0 y1 y2 y3 y4 y5
      unfold stevedorelaw4_ClockParses.j2
      repeat' first
      | (with_reducible exact ih0 _ _ _ _)
      | (with_reducible exact ih1 _ _ _ _ _)
      | (with_reducible exact ih2 _ _ _ _ _ _)
      | (with_reducible exact clock_Parse.mono _ _)
      | (with_reducible exact stevedorelaw4_digits.mono _ _)
      | (with_reducible exact LeO.refl _)
      | (with_reducible exact LeO.none _)
      | (with_reducible refine LeO.ite ?_ ?_)
      | (with_reducible refine LeO.bind ?_ (fun _ => ?_))
      | exact ih0 _ _ _ _
      | exact ih1 _ _ _ _ _
      | exact ih2 _ _ _ _ _ _
      | exact clock_Parse.mono _ _
      | exact stevedorelaw4_digits.mono _ _
      | exact LeO.none _
      | refine LeO.ite ?_ ?_
      | refine LeO.bind ?_ (fun _ => ?_)
theorem stevedorelaw4_ClockParses.mono : ∀ a0 a1 k, LeO (stevedorelaw4_ClockParses.f k a0 a1) (stevedorelaw4_ClockParses.f (k + 1) a0 a1) := by
  intro a0 a1 k
  obtain ⟨ih0, ih1, ih2⟩ := stevedorelaw4_ClockParses.mono_l k
  unfold stevedorelaw4_ClockParses.f
  repeat' first
      | (with_reducible exact ih0 _ _ _ _)
      | (with_reducible exact ih1 _ _ _ _ _)
      | (with_reducible exact ih2 _ _ _ _ _ _)
      | (with_reducible exact clock_Parse.mono _ _)
      | (with_reducible exact stevedorelaw4_digits.mono _ _)
      | (with_reducible exact LeO.refl _)
      | (with_reducible exact LeO.none _)
      | (with_reducible refine LeO.ite ?_ ?_)
      | (with_reducible refine LeO.bind ?_ (fun _ => ?_))
      | exact ih0 _ _ _ _
      | exact ih1 _ _ _ _ _
      | exact ih2 _ _ _ _ _ _
      | exact clock_Parse.mono _ _
      | exact stevedorelaw4_digits.mono _ _
      | exact LeO.none _
      | refine LeO.ite ?_ ?_
      | refine LeO.bind ?_ (fun _ => ?_)
set_option maxHeartbeats 8000000 in
set_option maxRecDepth 100000 in
theorem stevedorelaw4_ClockParses.calls (k : Nat) (a0 : Int) (A1 : Option Addr) (c1 : Nat) (l1 : List Int) (r : Bool) (w : World) (hr1 : Kd.C (Kd.int .i64) w A1 l1.length l1) (hc1 : l1.length ≤ c1) (h : stevedorelaw4_ClockParses.f k a0 l1 = some r) (hv : Go.Proofs.YtfmfikodnpnblaaDoor.ClkLib.Vars w) :
    Calls Tryd.prog 12 #[.int .i64 a0, .slice A1 l1.length c1] w fun e w' => e = .returned (.bool r) ∧ Below w.heap.size w w' := by
  have HVARS := Aside0.mk hv
  have HR1 := Aside0.mk hr1
  have HC1 := Aside0.mk hc1
  clear hr1 hc1
  have HB := Aside0.mk (Below.refl w.heap.size w)
  have H : ((stevedorelaw4_digits.f k (wrap64 (Int.tmod (IntKind.u64.wrap (a0)) 1000000001))).bind fun t101 => ((clock_Parse.f k t101).bind fun bt102 => (if bt102.2 = 0 then (stevedorelaw4_ClockParses.j0 k l1 t101 bt102.1 (FloatKind.f64.format.order bt102.1 (floatOfInt .f64 (wrap64 (Int.tmod (IntKind.u64.wrap (a0)) 1000000001))) != some .eq)) else (stevedorelaw4_ClockParses.j0 k l1 t101 bt102.1 true)))) = some r := h
  clear h
  replace H := Option.bind_eq_some_iff.mp H
  obtain ⟨t101, A30, H⟩ := H
  replace H : ((clock_Parse.f k t101).bind fun bt102 => (if bt102.2 = 0 then (stevedorelaw4_ClockParses.j0 k l1 t101 bt102.1 (FloatKind.f64.format.order bt102.1 (floatOfInt .f64 (wrap64 (Int.tmod (IntKind.u64.wrap (a0)) 1000000001))) != some .eq)) else (stevedorelaw4_ClockParses.j0 k l1 t101 bt102.1 true))) = some r := H
  have A3 := Aside0.mk A30
  clear A30
  replace H := Option.bind_eq_some_iff.mp H
  obtain ⟨⟨t102, t103⟩, A40, H⟩ := H
  replace H : (if t103 = 0 then (stevedorelaw4_ClockParses.j0 k l1 t101 t102 (FloatKind.f64.format.order t102 (floatOfInt .f64 (wrap64 (Int.tmod (IntKind.u64.wrap (a0)) 1000000001))) != some .eq)) else (stevedorelaw4_ClockParses.j0 k l1 t101 t102 true)) = some r := H
  have A4 := Aside0.mk A40
  clear A40
  have HC5 := Aside0.mk H
  clear H
  go_enter Tryd.func12, Tryd.ntmps12
  go_upto_region 4 with (first | ((with_reducible refine gate_callee (f := 43) rfl ?_); refine goesL_ (some 23) rfl rfl Tryd.func43 (by kernel_rfl) rfl #[.int .i64 (wrap64 (Int.tmod (IntKind.u64.wrap (a0)) 1000000001))] rfl (by (try simp only [List.map_toArray, List.map_cons, List.map_nil]); first | done | rfl | (simp only [List.length_drop, List.length_take]; rfl)) ?_; (with_reducible refine (stevedorelaw4_digits.calls k (wrap64 (Int.tmod (IntKind.u64.wrap (a0)) 1000000001)) t101 _ A3.out).mono ?_); rintro e w' ⟨rfl, ⟨nd, rfl⟩⟩; refine ⟨_, rfl, ?_⟩) | ((with_reducible refine gate_callee (f := 32) rfl ?_); refine goesL_ (some 26) rfl rfl Tryd.func32 (by kernel_rfl) rfl #[.string t101] rfl (by (try simp only [List.map_toArray, List.map_cons, List.map_nil]); first | done | rfl | (simp only [List.length_drop, List.length_take]; rfl)) ?_; (with_reducible refine (clock_Parse.calls k t101 t102 t103 _ A4.out).mono ?_); rintro e w6 ⟨rfl, hb⟩; refine ⟨_, rfl, ?_⟩; have n0_ := Aside0.mk (below_step (by repeat (first | (with_reducible first | exact HB.out | apply below_alloc | apply pw_below_drewN | apply below_drew1) | exact HB.out)) hb); clear HB; have HB := n0_; clear n0_; (try clear hb); (try clear hb2); (try clear hk); (try clear hi)))
  (try simp only [Act.put, List.setIfInBounds_toArray, List.set_cons_zero, List.set_cons_succ])
  go_cut [36] (fun v36 wc => ∃ (kq : Nat) (x36_4 : Bool), v36 = .bool x36_4 ∧ Aside0 (stevedorelaw4_ClockParses.j0 kq l1 t101 t102 x36_4 = some r) ∧ Aside0 (kq ≤ k) ∧ Aside0 (Below w.heap.size w wc))
  case first =>
    have H := HC5.out
    clear HC5
    by_cases c7 : t103 = 0
    · rw [if_pos c7] at H
      have c7b0 : (t103 == 0) = true := beq_iff_eq.mpr c7
      have c7b1 : (t103 != 0) = false := bne_eq_false_iff_eq.mpr c7
      clear c7
      (first | rw [c7b0] | (simp only [i64_w, i32_w]; rw [c7b0]) | rw [c7b1] | skip)
      have H' := Aside0.mk H
      clear H
      go_wp2
      go_meet
      case rel => exact ⟨_, ((FloatKind.f64.format.order t102 (floatOfInt .f64 (wrap64 (Int.tmod (IntKind.u64.wrap (a0)) 1000000001))) != some .eq)), (by first | rfl | (simp; done) | (simp [*]; done)), H', ⟨by first | omega | exact Nat.le_refl _⟩, ⟨by repeat (first | (with_reducible first | exact HB.out | apply below_alloc | apply pw_below_drewN | apply below_drew1) | exact HB.out)⟩⟩
    · rw [if_neg c7] at H
      have c7b0 : (t103 == 0) = false := beq_eq_false_iff_ne.mpr c7
      have c7b1 : (t103 != 0) = true := bne_iff_ne.mpr c7
      (first | rw [c7b0] | (simp only [i64_w, i32_w]; rw [c7b0]) | rw [c7b1] | skip)
      have H' := Aside0.mk H
      clear H
      go_wp2
      go_meet
      case rel => exact ⟨_, (true), (by first | rfl | (simp; done) | (simp [*]; done)), H', ⟨by first | omega | exact Nat.le_refl _⟩, ⟨by repeat (first | (with_reducible first | exact HB.out | apply below_alloc | apply pw_below_drewN | apply below_drew1) | exact HB.out)⟩⟩
  case rest =>
    clear HC5
    try clear c1
    try clear p2
    try clear c3
    try clear c4
    try clear p6
    try clear c7
    try clear c7b0
    try clear c7b1
    obtain ⟨kq, x36_4, rfl, HA, HJ4, HB⟩ := hcut
    cases kq with
    | zero => exact absurd HA.out (by simp [stevedorelaw4_ClockParses.j0])
    | succ kj4 =>
      have H := HA.out
      clear HA
      simp only [stevedorelaw4_ClockParses.j0] at H
      by_cases c8 : x36_4 = true
      · subst c8
        have H1 : (some false) = some r := by rw [if_pos rfl] at H; exact H
        clear H
        have H := H1
        clear H1
        obtain rfl := Option.some.inj H
        go_wp2
        go_ret
        exact ⟨by first | rfl | (simp only [show ∀ l : List UInt8, (l != []) = (!l.isEmpty) from fun l => by cases l <;> rfl]; rfl) | (simp [errW_none, errW_some] <;> rfl) | (simp [*, errW_none, errW_some] <;> rfl), by repeat (first | (with_reducible first | exact HB.out | apply below_alloc | apply pw_below_drewN | apply below_drew1) | exact HB.out)⟩
      · replace c8 := Bool.eq_false_iff.mpr c8
        subst c8
        have H1 : (if t101.size + 1 ≤ 9223372036854775807 then (stevedorelaw4_ClockParses.l0 kj4 l1 (t101 ++ (⟨#[46]⟩ : ByteArray)) t102 t102 0) else (none)) = some r := by rw [if_neg (show ¬ (false = true) by decide)] at H; exact H
        clear H
        have H := H1
        clear H1
        by_cases c9 : t101.size + 1 ≤ 9223372036854775807
        · rw [if_pos c9] at H
          have c9b0 := eq_true c9
          have c9b1 : decide (t101.size + 1 ≤ 9223372036854775807) = true := decide_eq_true c9
          try have c9b2 : (9223372036854775807 < t101.size + 1) = False := eq_false (Nat.not_lt.2 c9)
          have H' := Aside0.mk H
          clear H
          go_wp2
          go_loopg [6, 9, 10] kj4 (fun kq v6 v9 v10 w' => ∃ (x6_2 : ByteArray) (x9_2 : Nat) (x10_2 : Int), v6 = .string x6_2 ∧ v9 = .float .f64 x9_2 ∧ v10 = .int .i64 x10_2 ∧ Aside0 (stevedorelaw4_ClockParses.l0 kq l1 x6_2 t102 x9_2 x10_2 = some r) ∧ Aside0 (kq ≤ kj4) ∧ Aside0 (Below w.heap.size w w'))
          case atStart => exact ⟨(t101 ++ (⟨#[46]⟩ : ByteArray)), (t102), (0), (by first | rfl | (simp; done) | (simp [*]; done)), (by first | rfl | (simp; done) | (simp [*]; done)), (by first | rfl | (simp; done) | (simp [*]; done)), H', ⟨Nat.le_refl _⟩, ⟨by repeat (first | (with_reducible first | exact HB.out | apply below_alloc | apply pw_below_drewN | apply below_drew1) | exact HB.out)⟩⟩
          case round =>
            clear H'
            try clear c1
            try clear p2
            try clear c3
            try clear c4
            try clear p6
            try clear c7
            try clear c7b0
            try clear c7b1
            try clear c8
            try clear c9
            try clear c9b0
            try clear c9b1
            try clear c9b2
            try clear p2
            try clear p6
            obtain ⟨x6_2, x9_2, x10_2, rfl, rfl, rfl, HA, HK2, HB⟩ := hrel
            cases gk with
            | zero => exact absurd HA.out (by simp [stevedorelaw4_ClockParses.l0])
            | succ k2 =>
              have H := HA.out
              clear HA
              simp only [stevedorelaw4_ClockParses.l0] at H
              have HC10 := Aside0.mk H
              clear H
              go_upto_region 9 with (fail)
              go_cut [47] (fun v47 wc => ∃ (kq : Nat) (x47_9 : Bool), v47 = .bool x47_9 ∧ Aside0 (stevedorelaw4_ClockParses.j2 kq l1 x6_2 t102 x9_2 x10_2 x47_9 = some r) ∧ Aside0 (kq ≤ k2) ∧ Aside0 (Below w.heap.size w wc))
              case first =>
                have H := HC10.out
                clear HC10
                by_cases c11 : x10_2 < (l1.length : Int)
                · rw [if_pos c11] at H
                  have c11b0 : decide (x10_2 < (l1.length : Int)) = true := decide_eq_true c11
                  clear c11
                  (first | rw [c11b0] | (simp only [i64_w, i32_w]; rw [c11b0]) | rw [c11b1] | skip)
                  have H' := Aside0.mk H
                  clear H
                  go_wp2
                  go_meet
                  case rel => exact ⟨_, (decide (x10_2 < 12)), (by first | rfl | (simp; done) | (simp [*]; done)), H', ⟨by have := HJ4.out; have := HK2.out; first | omega | exact Nat.le_refl _⟩, ⟨by repeat (first | (with_reducible first | exact HB.out | apply below_alloc | apply pw_below_drewN | apply below_drew1) | exact HB.out)⟩⟩
                · rw [if_neg c11] at H
                  have c11b0 : decide (x10_2 < (l1.length : Int)) = false := decide_eq_false c11
                  clear c11
                  (first | rw [c11b0] | (simp only [i64_w, i32_w]; rw [c11b0]) | rw [c11b1] | skip)
                  have H' := Aside0.mk H
                  clear H
                  go_wp2
                  go_meet
                  case rel => exact ⟨_, (false), (by first | rfl | (simp; done) | (simp [*]; done)), H', ⟨by have := HJ4.out; have := HK2.out; first | omega | exact Nat.le_refl _⟩, ⟨by repeat (first | (with_reducible first | exact HB.out | apply below_alloc | apply pw_below_drewN | apply below_drew1) | exact HB.out)⟩⟩
              case rest =>
                clear HC10
                try clear c1
                try clear p2
                try clear c3
                try clear c4
                try clear p6
                try clear c7
                try clear c7b0
                try clear c7b1
                try clear c8
                try clear c9
                try clear c9b0
                try clear c9b1
                try clear c9b2
                try clear c11
                try clear c11b0
                try clear p2
                try clear p6
                obtain ⟨kq, x47_9, rfl, HA, HJ9, HB⟩ := hcut
                cases kq with
                | zero => exact absurd HA.out (by simp [stevedorelaw4_ClockParses.j2])
                | succ kj9 =>
                  have H := HA.out
                  clear HA
                  simp only [stevedorelaw4_ClockParses.j2] at H
                  by_cases c12 : x47_9 = true
                  · subst c12
                    have H1 : (if 0 ≤ x10_2 then (if x10_2 < (l1.length : Int) then ((stevedorelaw4_digits.f kj9 (wrap64 (Int.tmod (IntKind.u64.wrap (rd l1 x10_2)) 10))).bind fun t106 => (if x6_2.size + t106.size ≤ 9223372036854775807 then ((clock_Parse.f kj9 (x6_2 ++ t106)).bind fun bt107 => (if (x6_2 ++ t106).size + 3 ≤ 9223372036854775807 then ((clock_Parse.f kj9 ((x6_2 ++ t106) ++ (⟨#[48, 48, 48]⟩ : ByteArray))).bind fun bt109 => (if 1 + (x6_2 ++ t106).size ≤ 9223372036854775807 then ((clock_Parse.f kj9 ((⟨#[45]⟩ : ByteArray) ++ (x6_2 ++ t106))).bind fun bt111 => (if bt107.2 = 0 then (if bt109.2 = 0 then (if bt111.2 = 0 then (if (FloatKind.f64.format.order bt107.1 x9_2 == some .lt) = true then (some false) else (if (fvalid .add t102 4607182418800017408) = true then (if (FloatKind.f64.format.order bt107.1 (fop .add t102 4607182418800017408) == some .gt || FloatKind.f64.format.order bt107.1 (fop .add t102 4607182418800017408) == some .eq) = true then (some false) else (if (FloatKind.f64.format.order bt109.1 bt107.1 != some .eq) = true then (some false) else (if (FloatKind.f64.format.order bt111.1 (fneg bt107.1) == some .gt) = true then (some false) else (if (fvalid .sub (fneg bt107.1) 4566650022153682944) = true then (if (FloatKind.f64.format.order bt111.1 (fop .sub (fneg bt107.1) 4566650022153682944) == some .lt) = true then (some false) else (stevedorelaw4_ClockParses.l0 kj9 l1 (x6_2 ++ t106) t102 bt107.1 (wrap64 (x10_2 + 1)))) else (none))))) else (none))) else (some false)) else (some false)) else (some false))) else (none))) else (none))) else (none))) else (none)) else (none)) = some r := by rw [if_pos rfl] at H; exact H
                    clear H
                    have H := H1
                    clear H1
                    by_cases c13 : 0 ≤ x10_2
                    · rw [if_pos c13] at H
                      have c13b0 : decide (0 ≤ x10_2) = true := decide_eq_true c13
                      clear c13
                      by_cases c14 : x10_2 < (l1.length : Int)
                      · rw [if_pos c14] at H
                        have c14b0 : decide (x10_2 < (l1.length : Int)) = true := decide_eq_true c14
                        clear c14
                        replace H := Option.bind_eq_some_iff.mp H
                        obtain ⟨t106, A150, H⟩ := H
                        replace H : (if x6_2.size + t106.size ≤ 9223372036854775807 then ((clock_Parse.f kj9 (x6_2 ++ t106)).bind fun bt107 => (if (x6_2 ++ t106).size + 3 ≤ 9223372036854775807 then ((clock_Parse.f kj9 ((x6_2 ++ t106) ++ (⟨#[48, 48, 48]⟩ : ByteArray))).bind fun bt109 => (if 1 + (x6_2 ++ t106).size ≤ 9223372036854775807 then ((clock_Parse.f kj9 ((⟨#[45]⟩ : ByteArray) ++ (x6_2 ++ t106))).bind fun bt111 => (if bt107.2 = 0 then (if bt109.2 = 0 then (if bt111.2 = 0 then (if (FloatKind.f64.format.order bt107.1 x9_2 == some .lt) = true then (some false) else (if (fvalid .add t102 4607182418800017408) = true then (if (FloatKind.f64.format.order bt107.1 (fop .add t102 4607182418800017408) == some .gt || FloatKind.f64.format.order bt107.1 (fop .add t102 4607182418800017408) == some .eq) = true then (some false) else (if (FloatKind.f64.format.order bt109.1 bt107.1 != some .eq) = true then (some false) else (if (FloatKind.f64.format.order bt111.1 (fneg bt107.1) == some .gt) = true then (some false) else (if (fvalid .sub (fneg bt107.1) 4566650022153682944) = true then (if (FloatKind.f64.format.order bt111.1 (fop .sub (fneg bt107.1) 4566650022153682944) == some .lt) = true then (some false) else (stevedorelaw4_ClockParses.l0 kj9 l1 (x6_2 ++ t106) t102 bt107.1 (wrap64 (x10_2 + 1)))) else (none))))) else (none))) else (some false)) else (some false)) else (some false))) else (none))) else (none))) else (none)) = some r := H
                        have A15 := Aside0.mk A150
                        clear A150
                        by_cases c16 : x6_2.size + t106.size ≤ 9223372036854775807
                        · rw [if_pos c16] at H
                          have c16b0 := eq_true c16
                          have c16b1 : decide (x6_2.size + t106.size ≤ 9223372036854775807) = true := decide_eq_true c16
                          try have c16b2 : (9223372036854775807 < x6_2.size + t106.size) = False := eq_false (Nat.not_lt.2 c16)
                          replace H := Option.bind_eq_some_iff.mp H
                          obtain ⟨⟨t107, t108⟩, A170, H⟩ := H
                          replace H : (if (x6_2 ++ t106).size + 3 ≤ 9223372036854775807 then ((clock_Parse.f kj9 ((x6_2 ++ t106) ++ (⟨#[48, 48, 48]⟩ : ByteArray))).bind fun bt109 => (if 1 + (x6_2 ++ t106).size ≤ 9223372036854775807 then ((clock_Parse.f kj9 ((⟨#[45]⟩ : ByteArray) ++ (x6_2 ++ t106))).bind fun bt111 => (if t108 = 0 then (if bt109.2 = 0 then (if bt111.2 = 0 then (if (FloatKind.f64.format.order t107 x9_2 == some .lt) = true then (some false) else (if (fvalid .add t102 4607182418800017408) = true then (if (FloatKind.f64.format.order t107 (fop .add t102 4607182418800017408) == some .gt || FloatKind.f64.format.order t107 (fop .add t102 4607182418800017408) == some .eq) = true then (some false) else (if (FloatKind.f64.format.order bt109.1 t107 != some .eq) = true then (some false) else (if (FloatKind.f64.format.order bt111.1 (fneg t107) == some .gt) = true then (some false) else (if (fvalid .sub (fneg t107) 4566650022153682944) = true then (if (FloatKind.f64.format.order bt111.1 (fop .sub (fneg t107) 4566650022153682944) == some .lt) = true then (some false) else (stevedorelaw4_ClockParses.l0 kj9 l1 (x6_2 ++ t106) t102 t107 (wrap64 (x10_2 + 1)))) else (none))))) else (none))) else (some false)) else (some false)) else (some false))) else (none))) else (none)) = some r := H
                          have A17 := Aside0.mk A170
                          clear A170
                          by_cases c18 : (x6_2 ++ t106).size + 3 ≤ 9223372036854775807
                          · rw [if_pos c18] at H
                            have c18b0 := eq_true c18
                            have c18b1 : decide ((x6_2 ++ t106).size + 3 ≤ 9223372036854775807) = true := decide_eq_true c18
                            (try (have c18b1s := c18b1; simp only [ByteArray.size_append] at c18b1s))
                            (try (have c18b1t := c18b1; simp only [ByteArray.size_append, Int.natCast_add, Int.cast_ofNat_Int] at c18b1t))
                            try have c18b2 : (9223372036854775807 < (x6_2 ++ t106).size + 3) = False := eq_false (Nat.not_lt.2 c18)
                            (try (have c18b2s := c18b2; simp only [ByteArray.size_append] at c18b2s))
                            (try (have c18b2t := c18b2; simp only [ByteArray.size_append, Int.natCast_add, Int.cast_ofNat_Int] at c18b2t))
                            replace H := Option.bind_eq_some_iff.mp H
                            obtain ⟨⟨t109, t110⟩, A190, H⟩ := H
                            replace H : (if 1 + (x6_2 ++ t106).size ≤ 9223372036854775807 then ((clock_Parse.f kj9 ((⟨#[45]⟩ : ByteArray) ++ (x6_2 ++ t106))).bind fun bt111 => (if t108 = 0 then (if t110 = 0 then (if bt111.2 = 0 then (if (FloatKind.f64.format.order t107 x9_2 == some .lt) = true then (some false) else (if (fvalid .add t102 4607182418800017408) = true then (if (FloatKind.f64.format.order t107 (fop .add t102 4607182418800017408) == some .gt || FloatKind.f64.format.order t107 (fop .add t102 4607182418800017408) == some .eq) = true then (some false) else (if (FloatKind.f64.format.order t109 t107 != some .eq) = true then (some false) else (if (FloatKind.f64.format.order bt111.1 (fneg t107) == some .gt) = true then (some false) else (if (fvalid .sub (fneg t107) 4566650022153682944) = true then (if (FloatKind.f64.format.order bt111.1 (fop .sub (fneg t107) 4566650022153682944) == some .lt) = true then (some false) else (stevedorelaw4_ClockParses.l0 kj9 l1 (x6_2 ++ t106) t102 t107 (wrap64 (x10_2 + 1)))) else (none))))) else (none))) else (some false)) else (some false)) else (some false))) else (none)) = some r := H
                            have A19 := Aside0.mk A190
                            clear A190
                            by_cases c20 : 1 + (x6_2 ++ t106).size ≤ 9223372036854775807
                            · rw [if_pos c20] at H
                              have c20b0 := eq_true c20
                              have c20b1 : decide (1 + (x6_2 ++ t106).size ≤ 9223372036854775807) = true := decide_eq_true c20
                              (try (have c20b1s := c20b1; simp only [ByteArray.size_append] at c20b1s))
                              (try (have c20b1t := c20b1; simp only [ByteArray.size_append, Int.natCast_add, Int.cast_ofNat_Int] at c20b1t))
                              try have c20b2 : (9223372036854775807 < 1 + (x6_2 ++ t106).size) = False := eq_false (Nat.not_lt.2 c20)
                              (try (have c20b2s := c20b2; simp only [ByteArray.size_append] at c20b2s))
                              (try (have c20b2t := c20b2; simp only [ByteArray.size_append, Int.natCast_add, Int.cast_ofNat_Int] at c20b2t))
                              replace H := Option.bind_eq_some_iff.mp H
                              obtain ⟨⟨t111, t112⟩, A210, H⟩ := H
                              replace H : (if t108 = 0 then (if t110 = 0 then (if t112 = 0 then (if (FloatKind.f64.format.order t107 x9_2 == some .lt) = true then (some false) else (if (fvalid .add t102 4607182418800017408) = true then (if (FloatKind.f64.format.order t107 (fop .add t102 4607182418800017408) == some .gt || FloatKind.f64.format.order t107 (fop .add t102 4607182418800017408) == some .eq) = true then (some false) else (if (FloatKind.f64.format.order t109 t107 != some .eq) = true then (some false) else (if (FloatKind.f64.format.order t111 (fneg t107) == some .gt) = true then (some false) else (if (fvalid .sub (fneg t107) 4566650022153682944) = true then (if (FloatKind.f64.format.order t111 (fop .sub (fneg t107) 4566650022153682944) == some .lt) = true then (some false) else (stevedorelaw4_ClockParses.l0 kj9 l1 (x6_2 ++ t106) t102 t107 (wrap64 (x10_2 + 1)))) else (none))))) else (none))) else (some false)) else (some false)) else (some false)) = some r := H
                              have A21 := Aside0.mk A210
                              clear A210
                              by_cases c22 : t108 = 0
                              · rw [if_pos c22] at H
                                have c22b0 : (t108 == 0) = true := beq_iff_eq.mpr c22
                                have c22b1 : (t108 != 0) = false := bne_eq_false_iff_eq.mpr c22
                                clear c22
                                by_cases c23 : t110 = 0
                                · rw [if_pos c23] at H
                                  have c23b0 : (t110 == 0) = true := beq_iff_eq.mpr c23
                                  have c23b1 : (t110 != 0) = false := bne_eq_false_iff_eq.mpr c23
                                  clear c23
                                  by_cases c24 : t112 = 0
                                  · rw [if_pos c24] at H
                                    have c24b0 : (t112 == 0) = true := beq_iff_eq.mpr c24
                                    have c24b1 : (t112 != 0) = false := bne_eq_false_iff_eq.mpr c24
                                    clear c24
                                    by_cases c25 : (FloatKind.f64.format.order t107 x9_2 == some .lt) = true
                                    · rw [if_pos c25] at H
                                      have c25b0 : (FloatKind.f64.format.order t107 x9_2 == some .lt) = true := c25
                                      (try (have c25b1 : decide (FloatKind.f64.format.order t107 x9_2 = some .lt) = true := by simpa using c25))
                                      (try (have c25b2 : (FloatKind.f64.format.order t107 x9_2 == some .lt) = true := by simpa using c25))
                                      clear c25
                                      obtain rfl := Option.some.inj H
                                      have p105 : 0 ≤ (x10_2 : Int) := of_decide_eq_true (by first | (with_reducible assumption) | assumption)
                                      have q105 : x10_2 < (l1.length : Int) := of_decide_eq_true (by first | (with_reducible assumption) | assumption)
                                      obtain ⟨ad105, e105, hx105_0⟩ := Kd.at_int HR1.out x10_2 p105 q105
                                      cases e105
                                      replace hx105_0 := (HB.out.cell (World.block_lt_of_cell? w _ hx105_0)).trans hx105_0
                                      replace p105 := eq_true p105
                                      replace q105 := eq_true q105
                                      go_wp2_with (first | ((with_reducible refine gate_callee (f := 43) rfl ?_); refine goesL_ (some 59) rfl rfl Tryd.func43 (by kernel_rfl) rfl #[.int .i64 (wrap64 (Int.tmod (IntKind.u64.wrap (rd l1 x10_2)) 10))] rfl (by (try simp only [List.map_toArray, List.map_cons, List.map_nil]); first | done | rfl | (simp only [List.length_drop, List.length_take]; rfl)) ?_; (with_reducible refine (stevedorelaw4_digits.calls kj9 (wrap64 (Int.tmod (IntKind.u64.wrap (rd l1 x10_2)) 10)) t106 _ A15.out).mono ?_); rintro e w' ⟨rfl, ⟨nd, rfl⟩⟩; refine ⟨_, rfl, ?_⟩) | ((with_reducible refine gate_callee (f := 32) rfl ?_); refine goesL_ (some 63) rfl rfl Tryd.func32 (by kernel_rfl) rfl #[.string (x6_2 ++ t106)] rfl (by (try simp only [List.map_toArray, List.map_cons, List.map_nil]); first | done | rfl | (simp only [List.length_drop, List.length_take]; rfl)) ?_; (with_reducible refine (clock_Parse.calls kj9 (x6_2 ++ t106) t107 t108 _ A17.out).mono ?_); rintro e w26 ⟨rfl, hb⟩; refine ⟨_, rfl, ?_⟩; have n0_ := Aside0.mk (below_step (by repeat (first | (with_reducible first | exact HB.out | apply below_alloc | apply pw_below_drewN | apply below_drew1) | exact HB.out)) hb); clear HB; have HB := n0_; clear n0_; (try clear hb); (try clear hb2); (try clear hk); (try clear hi)) | ((with_reducible refine gate_callee (f := 32) rfl ?_); refine goesL_ (some 69) rfl rfl Tryd.func32 (by kernel_rfl) rfl #[.string ((x6_2 ++ t106) ++ (⟨#[48, 48, 48]⟩ : ByteArray))] rfl (by (try simp only [List.map_toArray, List.map_cons, List.map_nil]); first | done | rfl | (simp only [List.length_drop, List.length_take]; rfl)) ?_; (with_reducible refine (clock_Parse.calls kj9 ((x6_2 ++ t106) ++ (⟨#[48, 48, 48]⟩ : ByteArray)) t109 t110 _ A19.out).mono ?_); rintro e w27 ⟨rfl, hb⟩; refine ⟨_, rfl, ?_⟩; have n0_ := Aside0.mk (below_step (by repeat (first | (with_reducible first | exact HB.out | apply below_alloc | apply pw_below_drewN | apply below_drew1) | exact HB.out)) hb); clear HB; have HB := n0_; clear n0_; (try clear hb); (try clear hb2); (try clear hk); (try clear hi)) | ((with_reducible refine gate_callee (f := 32) rfl ?_); refine goesL_ (some 75) rfl rfl Tryd.func32 (by kernel_rfl) rfl #[.string ((⟨#[45]⟩ : ByteArray) ++ (x6_2 ++ t106))] rfl (by (try simp only [List.map_toArray, List.map_cons, List.map_nil]); first | done | rfl | (simp only [List.length_drop, List.length_take]; rfl)) ?_; (with_reducible refine (clock_Parse.calls kj9 ((⟨#[45]⟩ : ByteArray) ++ (x6_2 ++ t106)) t111 t112 _ A21.out).mono ?_); rintro e w28 ⟨rfl, hb⟩; refine ⟨_, rfl, ?_⟩; have n0_ := Aside0.mk (below_step (by repeat (first | (with_reducible first | exact HB.out | apply below_alloc | apply pw_below_drewN | apply below_drew1) | exact HB.out)) hb); clear HB; have HB := n0_; clear n0_; (try clear hb); (try clear hb2); (try clear hk); (try clear hi)))
                                      go_ret
                                      exact ⟨by first | rfl | (simp only [show ∀ l : List UInt8, (l != []) = (!l.isEmpty) from fun l => by cases l <;> rfl]; rfl) | (simp [errW_none, errW_some] <;> rfl) | (simp [*, errW_none, errW_some] <;> rfl), by repeat (first | (with_reducible first | exact HB.out | apply below_alloc | apply pw_below_drewN | apply below_drew1) | exact HB.out)⟩
                                    · rw [if_neg c25] at H
                                      have c25b0 : (FloatKind.f64.format.order t107 x9_2 == some .lt) = false := by simpa using c25
                                      (try (have c25b1 : decide (FloatKind.f64.format.order t107 x9_2 = some .lt) = false := by simpa using c25))
                                      (try (have c25b2 : (FloatKind.f64.format.order t107 x9_2 == some .lt) = false := by simpa using c25))
                                      (try (have c25b3 : ¬ (FloatKind.f64.format.order t107 x9_2 = some .lt) := by simpa using c25))
                                      clear c25
                                      by_cases c29 : (fvalid .add t102 4607182418800017408) = true
                                      · rw [if_pos c29] at H
                                        have c29b0 := eq_true c29
                                        have c29b1 : decide ((fvalid .add t102 4607182418800017408) = true) = true := decide_eq_true c29
                                        clear c29
                                        by_cases c30 : (FloatKind.f64.format.order t107 (fop .add t102 4607182418800017408) == some .gt || FloatKind.f64.format.order t107 (fop .add t102 4607182418800017408) == some .eq) = true
                                        · rw [if_pos c30] at H
                                          have c30b0 : (FloatKind.f64.format.order t107 (fop .add t102 4607182418800017408) == some .gt || FloatKind.f64.format.order t107 (fop .add t102 4607182418800017408) == some .eq) = true := c30
                                          have c30b7 : (!(FloatKind.f64.format.order t107 (fop .add t102 4607182418800017408) == some .gt) && !(FloatKind.f64.format.order t107 (fop .add t102 4607182418800017408) == some .eq)) = false := by rw [← Bool.not_or, c30b0]; rfl
                                          (try (have c30b1 : decide (FloatKind.f64.format.order t107 (fop .add t102 4607182418800017408) = some .gt || FloatKind.f64.format.order t107 (fop .add t102 4607182418800017408) == some .eq) = true := by simpa using c30))
                                          (try (have c30b2 : (FloatKind.f64.format.order t107 (fop .add t102 4607182418800017408) == some .gt || FloatKind.f64.format.order t107 (fop .add t102 4607182418800017408) == some .eq) = true := by simpa using c30))
                                          clear c30
                                          obtain rfl := Option.some.inj H
                                          have p105 : 0 ≤ (x10_2 : Int) := of_decide_eq_true (by first | (with_reducible assumption) | assumption)
                                          have q105 : x10_2 < (l1.length : Int) := of_decide_eq_true (by first | (with_reducible assumption) | assumption)
                                          obtain ⟨ad105, e105, hx105_0⟩ := Kd.at_int HR1.out x10_2 p105 q105
                                          cases e105
                                          replace hx105_0 := (HB.out.cell (World.block_lt_of_cell? w _ hx105_0)).trans hx105_0
                                          replace p105 := eq_true p105
                                          replace q105 := eq_true q105
                                          go_wp2_with (first | ((with_reducible refine gate_callee (f := 43) rfl ?_); refine goesL_ (some 59) rfl rfl Tryd.func43 (by kernel_rfl) rfl #[.int .i64 (wrap64 (Int.tmod (IntKind.u64.wrap (rd l1 x10_2)) 10))] rfl (by (try simp only [List.map_toArray, List.map_cons, List.map_nil]); first | done | rfl | (simp only [List.length_drop, List.length_take]; rfl)) ?_; (with_reducible refine (stevedorelaw4_digits.calls kj9 (wrap64 (Int.tmod (IntKind.u64.wrap (rd l1 x10_2)) 10)) t106 _ A15.out).mono ?_); rintro e w' ⟨rfl, ⟨nd, rfl⟩⟩; refine ⟨_, rfl, ?_⟩) | ((with_reducible refine gate_callee (f := 32) rfl ?_); refine goesL_ (some 63) rfl rfl Tryd.func32 (by kernel_rfl) rfl #[.string (x6_2 ++ t106)] rfl (by (try simp only [List.map_toArray, List.map_cons, List.map_nil]); first | done | rfl | (simp only [List.length_drop, List.length_take]; rfl)) ?_; (with_reducible refine (clock_Parse.calls kj9 (x6_2 ++ t106) t107 t108 _ A17.out).mono ?_); rintro e w31 ⟨rfl, hb⟩; refine ⟨_, rfl, ?_⟩; have n0_ := Aside0.mk (below_step (by repeat (first | (with_reducible first | exact HB.out | apply below_alloc | apply pw_below_drewN | apply below_drew1) | exact HB.out)) hb); clear HB; have HB := n0_; clear n0_; (try clear hb); (try clear hb2); (try clear hk); (try clear hi)) | ((with_reducible refine gate_callee (f := 32) rfl ?_); refine goesL_ (some 69) rfl rfl Tryd.func32 (by kernel_rfl) rfl #[.string ((x6_2 ++ t106) ++ (⟨#[48, 48, 48]⟩ : ByteArray))] rfl (by (try simp only [List.map_toArray, List.map_cons, List.map_nil]); first | done | rfl | (simp only [List.length_drop, List.length_take]; rfl)) ?_; (with_reducible refine (clock_Parse.calls kj9 ((x6_2 ++ t106) ++ (⟨#[48, 48, 48]⟩ : ByteArray)) t109 t110 _ A19.out).mono ?_); rintro e w32 ⟨rfl, hb⟩; refine ⟨_, rfl, ?_⟩; have n0_ := Aside0.mk (below_step (by repeat (first | (with_reducible first | exact HB.out | apply below_alloc | apply pw_below_drewN | apply below_drew1) | exact HB.out)) hb); clear HB; have HB := n0_; clear n0_; (try clear hb); (try clear hb2); (try clear hk); (try clear hi)) | ((with_reducible refine gate_callee (f := 32) rfl ?_); refine goesL_ (some 75) rfl rfl Tryd.func32 (by kernel_rfl) rfl #[.string ((⟨#[45]⟩ : ByteArray) ++ (x6_2 ++ t106))] rfl (by (try simp only [List.map_toArray, List.map_cons, List.map_nil]); first | done | rfl | (simp only [List.length_drop, List.length_take]; rfl)) ?_; (with_reducible refine (clock_Parse.calls kj9 ((⟨#[45]⟩ : ByteArray) ++ (x6_2 ++ t106)) t111 t112 _ A21.out).mono ?_); rintro e w33 ⟨rfl, hb⟩; refine ⟨_, rfl, ?_⟩; have n0_ := Aside0.mk (below_step (by repeat (first | (with_reducible first | exact HB.out | apply below_alloc | apply pw_below_drewN | apply below_drew1) | exact HB.out)) hb); clear HB; have HB := n0_; clear n0_; (try clear hb); (try clear hb2); (try clear hk); (try clear hi)))
                                          go_ret
                                          exact ⟨by first | rfl | (simp only [show ∀ l : List UInt8, (l != []) = (!l.isEmpty) from fun l => by cases l <;> rfl]; rfl) | (simp [errW_none, errW_some] <;> rfl) | (simp [*, errW_none, errW_some] <;> rfl), by repeat (first | (with_reducible first | exact HB.out | apply below_alloc | apply pw_below_drewN | apply below_drew1) | exact HB.out)⟩
                                        · rw [if_neg c30] at H
                                          have c30b0 : (FloatKind.f64.format.order t107 (fop .add t102 4607182418800017408) == some .gt || FloatKind.f64.format.order t107 (fop .add t102 4607182418800017408) == some .eq) = false := by simpa using c30
                                          have c30b7 : (!(FloatKind.f64.format.order t107 (fop .add t102 4607182418800017408) == some .gt) && !(FloatKind.f64.format.order t107 (fop .add t102 4607182418800017408) == some .eq)) = true := by rw [← Bool.not_or, c30b0]; rfl
                                          (try (have c30b1 : decide (FloatKind.f64.format.order t107 (fop .add t102 4607182418800017408) = some .gt || FloatKind.f64.format.order t107 (fop .add t102 4607182418800017408) == some .eq) = false := by simpa using c30))
                                          (try (have c30b2 : (FloatKind.f64.format.order t107 (fop .add t102 4607182418800017408) == some .gt || FloatKind.f64.format.order t107 (fop .add t102 4607182418800017408) == some .eq) = false := by simpa using c30))
                                          (try (have c30b3 : ¬ (FloatKind.f64.format.order t107 (fop .add t102 4607182418800017408) = some .gt || FloatKind.f64.format.order t107 (fop .add t102 4607182418800017408) == some .eq) := by simpa using c30))
                                          clear c30
                                          by_cases c34 : (FloatKind.f64.format.order t109 t107 != some .eq) = true
                                          · rw [if_pos c34] at H
                                            have c34b0 : (FloatKind.f64.format.order t109 t107 != some .eq) = true := c34
                                            (try (have c34b1 : decide (FloatKind.f64.format.order t109 t107 = some .eq) = false := by simpa using c34))
                                            (try (have c34b2 : (FloatKind.f64.format.order t109 t107 == some .eq) = false := by simpa using c34))
                                            (try (have c34b3 : ¬ (FloatKind.f64.format.order t109 t107 = some .eq) := by simpa using c34))
                                            clear c34
                                            obtain rfl := Option.some.inj H
                                            have p105 : 0 ≤ (x10_2 : Int) := of_decide_eq_true (by first | (with_reducible assumption) | assumption)
                                            have q105 : x10_2 < (l1.length : Int) := of_decide_eq_true (by first | (with_reducible assumption) | assumption)
                                            obtain ⟨ad105, e105, hx105_0⟩ := Kd.at_int HR1.out x10_2 p105 q105
                                            cases e105
                                            replace hx105_0 := (HB.out.cell (World.block_lt_of_cell? w _ hx105_0)).trans hx105_0
                                            replace p105 := eq_true p105
                                            replace q105 := eq_true q105
                                            go_wp2_with (first | ((with_reducible refine gate_callee (f := 43) rfl ?_); refine goesL_ (some 59) rfl rfl Tryd.func43 (by kernel_rfl) rfl #[.int .i64 (wrap64 (Int.tmod (IntKind.u64.wrap (rd l1 x10_2)) 10))] rfl (by (try simp only [List.map_toArray, List.map_cons, List.map_nil]); first | done | rfl | (simp only [List.length_drop, List.length_take]; rfl)) ?_; (with_reducible refine (stevedorelaw4_digits.calls kj9 (wrap64 (Int.tmod (IntKind.u64.wrap (rd l1 x10_2)) 10)) t106 _ A15.out).mono ?_); rintro e w' ⟨rfl, ⟨nd, rfl⟩⟩; refine ⟨_, rfl, ?_⟩) | ((with_reducible refine gate_callee (f := 32) rfl ?_); refine goesL_ (some 63) rfl rfl Tryd.func32 (by kernel_rfl) rfl #[.string (x6_2 ++ t106)] rfl (by (try simp only [List.map_toArray, List.map_cons, List.map_nil]); first | done | rfl | (simp only [List.length_drop, List.length_take]; rfl)) ?_; (with_reducible refine (clock_Parse.calls kj9 (x6_2 ++ t106) t107 t108 _ A17.out).mono ?_); rintro e w35 ⟨rfl, hb⟩; refine ⟨_, rfl, ?_⟩; have n0_ := Aside0.mk (below_step (by repeat (first | (with_reducible first | exact HB.out | apply below_alloc | apply pw_below_drewN | apply below_drew1) | exact HB.out)) hb); clear HB; have HB := n0_; clear n0_; (try clear hb); (try clear hb2); (try clear hk); (try clear hi)) | ((with_reducible refine gate_callee (f := 32) rfl ?_); refine goesL_ (some 69) rfl rfl Tryd.func32 (by kernel_rfl) rfl #[.string ((x6_2 ++ t106) ++ (⟨#[48, 48, 48]⟩ : ByteArray))] rfl (by (try simp only [List.map_toArray, List.map_cons, List.map_nil]); first | done | rfl | (simp only [List.length_drop, List.length_take]; rfl)) ?_; (with_reducible refine (clock_Parse.calls kj9 ((x6_2 ++ t106) ++ (⟨#[48, 48, 48]⟩ : ByteArray)) t109 t110 _ A19.out).mono ?_); rintro e w36 ⟨rfl, hb⟩; refine ⟨_, rfl, ?_⟩; have n0_ := Aside0.mk (below_step (by repeat (first | (with_reducible first | exact HB.out | apply below_alloc | apply pw_below_drewN | apply below_drew1) | exact HB.out)) hb); clear HB; have HB := n0_; clear n0_; (try clear hb); (try clear hb2); (try clear hk); (try clear hi)) | ((with_reducible refine gate_callee (f := 32) rfl ?_); refine goesL_ (some 75) rfl rfl Tryd.func32 (by kernel_rfl) rfl #[.string ((⟨#[45]⟩ : ByteArray) ++ (x6_2 ++ t106))] rfl (by (try simp only [List.map_toArray, List.map_cons, List.map_nil]); first | done | rfl | (simp only [List.length_drop, List.length_take]; rfl)) ?_; (with_reducible refine (clock_Parse.calls kj9 ((⟨#[45]⟩ : ByteArray) ++ (x6_2 ++ t106)) t111 t112 _ A21.out).mono ?_); rintro e w37 ⟨rfl, hb⟩; refine ⟨_, rfl, ?_⟩; have n0_ := Aside0.mk (below_step (by repeat (first | (with_reducible first | exact HB.out | apply below_alloc | apply pw_below_drewN | apply below_drew1) | exact HB.out)) hb); clear HB; have HB := n0_; clear n0_; (try clear hb); (try clear hb2); (try clear hk); (try clear hi)))
                                            go_ret
                                            exact ⟨by first | rfl | (simp only [show ∀ l : List UInt8, (l != []) = (!l.isEmpty) from fun l => by cases l <;> rfl]; rfl) | (simp [errW_none, errW_some] <;> rfl) | (simp [*, errW_none, errW_some] <;> rfl), by repeat (first | (with_reducible first | exact HB.out | apply below_alloc | apply pw_below_drewN | apply below_drew1) | exact HB.out)⟩
                                          · rw [if_neg c34] at H
                                            have c34b0 : (FloatKind.f64.format.order t109 t107 != some .eq) = false := by simpa using c34
                                            (try (have c34b1 : decide (FloatKind.f64.format.order t109 t107 = some .eq) = true := by simpa using c34))
                                            (try (have c34b2 : (FloatKind.f64.format.order t109 t107 == some .eq) = true := by simpa using c34))
                                            clear c34
                                            by_cases c38 : (FloatKind.f64.format.order t111 (fneg t107) == some .gt) = true
                                            · rw [if_pos c38] at H
                                              have c38b0 : (FloatKind.f64.format.order t111 (fneg t107) == some .gt) = true := c38
                                              (try (have c38b1 : decide (FloatKind.f64.format.order t111 (fneg t107) = some .gt) = true := by simpa using c38))
                                              (try (have c38b2 : (FloatKind.f64.format.order t111 (fneg t107) == some .gt) = true := by simpa using c38))
                                              clear c38
                                              obtain rfl := Option.some.inj H
                                              have p105 : 0 ≤ (x10_2 : Int) := of_decide_eq_true (by first | (with_reducible assumption) | assumption)
                                              have q105 : x10_2 < (l1.length : Int) := of_decide_eq_true (by first | (with_reducible assumption) | assumption)
                                              obtain ⟨ad105, e105, hx105_0⟩ := Kd.at_int HR1.out x10_2 p105 q105
                                              cases e105
                                              replace hx105_0 := (HB.out.cell (World.block_lt_of_cell? w _ hx105_0)).trans hx105_0
                                              replace p105 := eq_true p105
                                              replace q105 := eq_true q105
                                              go_wp2_with (first | ((with_reducible refine gate_callee (f := 43) rfl ?_); refine goesL_ (some 59) rfl rfl Tryd.func43 (by kernel_rfl) rfl #[.int .i64 (wrap64 (Int.tmod (IntKind.u64.wrap (rd l1 x10_2)) 10))] rfl (by (try simp only [List.map_toArray, List.map_cons, List.map_nil]); first | done | rfl | (simp only [List.length_drop, List.length_take]; rfl)) ?_; (with_reducible refine (stevedorelaw4_digits.calls kj9 (wrap64 (Int.tmod (IntKind.u64.wrap (rd l1 x10_2)) 10)) t106 _ A15.out).mono ?_); rintro e w' ⟨rfl, ⟨nd, rfl⟩⟩; refine ⟨_, rfl, ?_⟩) | ((with_reducible refine gate_callee (f := 32) rfl ?_); refine goesL_ (some 63) rfl rfl Tryd.func32 (by kernel_rfl) rfl #[.string (x6_2 ++ t106)] rfl (by (try simp only [List.map_toArray, List.map_cons, List.map_nil]); first | done | rfl | (simp only [List.length_drop, List.length_take]; rfl)) ?_; (with_reducible refine (clock_Parse.calls kj9 (x6_2 ++ t106) t107 t108 _ A17.out).mono ?_); rintro e w39 ⟨rfl, hb⟩; refine ⟨_, rfl, ?_⟩; have n0_ := Aside0.mk (below_step (by repeat (first | (with_reducible first | exact HB.out | apply below_alloc | apply pw_below_drewN | apply below_drew1) | exact HB.out)) hb); clear HB; have HB := n0_; clear n0_; (try clear hb); (try clear hb2); (try clear hk); (try clear hi)) | ((with_reducible refine gate_callee (f := 32) rfl ?_); refine goesL_ (some 69) rfl rfl Tryd.func32 (by kernel_rfl) rfl #[.string ((x6_2 ++ t106) ++ (⟨#[48, 48, 48]⟩ : ByteArray))] rfl (by (try simp only [List.map_toArray, List.map_cons, List.map_nil]); first | done | rfl | (simp only [List.length_drop, List.length_take]; rfl)) ?_; (with_reducible refine (clock_Parse.calls kj9 ((x6_2 ++ t106) ++ (⟨#[48, 48, 48]⟩ : ByteArray)) t109 t110 _ A19.out).mono ?_); rintro e w40 ⟨rfl, hb⟩; refine ⟨_, rfl, ?_⟩; have n0_ := Aside0.mk (below_step (by repeat (first | (with_reducible first | exact HB.out | apply below_alloc | apply pw_below_drewN | apply below_drew1) | exact HB.out)) hb); clear HB; have HB := n0_; clear n0_; (try clear hb); (try clear hb2); (try clear hk); (try clear hi)) | ((with_reducible refine gate_callee (f := 32) rfl ?_); refine goesL_ (some 75) rfl rfl Tryd.func32 (by kernel_rfl) rfl #[.string ((⟨#[45]⟩ : ByteArray) ++ (x6_2 ++ t106))] rfl (by (try simp only [List.map_toArray, List.map_cons, List.map_nil]); first | done | rfl | (simp only [List.length_drop, List.length_take]; rfl)) ?_; (with_reducible refine (clock_Parse.calls kj9 ((⟨#[45]⟩ : ByteArray) ++ (x6_2 ++ t106)) t111 t112 _ A21.out).mono ?_); rintro e w41 ⟨rfl, hb⟩; refine ⟨_, rfl, ?_⟩; have n0_ := Aside0.mk (below_step (by repeat (first | (with_reducible first | exact HB.out | apply below_alloc | apply pw_below_drewN | apply below_drew1) | exact HB.out)) hb); clear HB; have HB := n0_; clear n0_; (try clear hb); (try clear hb2); (try clear hk); (try clear hi)))
                                              go_ret
                                              exact ⟨by first | rfl | (simp only [show ∀ l : List UInt8, (l != []) = (!l.isEmpty) from fun l => by cases l <;> rfl]; rfl) | (simp [errW_none, errW_some] <;> rfl) | (simp [*, errW_none, errW_some] <;> rfl), by repeat (first | (with_reducible first | exact HB.out | apply below_alloc | apply pw_below_drewN | apply below_drew1) | exact HB.out)⟩
                                            · rw [if_neg c38] at H
                                              have c38b0 : (FloatKind.f64.format.order t111 (fneg t107) == some .gt) = false := by simpa using c38
                                              (try (have c38b1 : decide (FloatKind.f64.format.order t111 (fneg t107) = some .gt) = false := by simpa using c38))
                                              (try (have c38b2 : (FloatKind.f64.format.order t111 (fneg t107) == some .gt) = false := by simpa using c38))
                                              (try (have c38b3 : ¬ (FloatKind.f64.format.order t111 (fneg t107) = some .gt) := by simpa using c38))
                                              clear c38
                                              by_cases c42 : (fvalid .sub (fneg t107) 4566650022153682944) = true
                                              · rw [if_pos c42] at H
                                                have c42b0 := eq_true c42
                                                have c42b1 : decide ((fvalid .sub (fneg t107) 4566650022153682944) = true) = true := decide_eq_true c42
                                                clear c42
                                                by_cases c43 : (FloatKind.f64.format.order t111 (fop .sub (fneg t107) 4566650022153682944) == some .lt) = true
                                                · rw [if_pos c43] at H
                                                  have c43b0 : (FloatKind.f64.format.order t111 (fop .sub (fneg t107) 4566650022153682944) == some .lt) = true := c43
                                                  (try (have c43b1 : decide (FloatKind.f64.format.order t111 (fop .sub (fneg t107) 4566650022153682944) = some .lt) = true := by simpa using c43))
                                                  (try (have c43b2 : (FloatKind.f64.format.order t111 (fop .sub (fneg t107) 4566650022153682944) == some .lt) = true := by simpa using c43))
                                                  clear c43
                                                  obtain rfl := Option.some.inj H
                                                  have p105 : 0 ≤ (x10_2 : Int) := of_decide_eq_true (by first | (with_reducible assumption) | assumption)
                                                  have q105 : x10_2 < (l1.length : Int) := of_decide_eq_true (by first | (with_reducible assumption) | assumption)
                                                  obtain ⟨ad105, e105, hx105_0⟩ := Kd.at_int HR1.out x10_2 p105 q105
                                                  cases e105
                                                  replace hx105_0 := (HB.out.cell (World.block_lt_of_cell? w _ hx105_0)).trans hx105_0
                                                  replace p105 := eq_true p105
                                                  replace q105 := eq_true q105
                                                  go_wp2_with (first | ((with_reducible refine gate_callee (f := 43) rfl ?_); refine goesL_ (some 59) rfl rfl Tryd.func43 (by kernel_rfl) rfl #[.int .i64 (wrap64 (Int.tmod (IntKind.u64.wrap (rd l1 x10_2)) 10))] rfl (by (try simp only [List.map_toArray, List.map_cons, List.map_nil]); first | done | rfl | (simp only [List.length_drop, List.length_take]; rfl)) ?_; (with_reducible refine (stevedorelaw4_digits.calls kj9 (wrap64 (Int.tmod (IntKind.u64.wrap (rd l1 x10_2)) 10)) t106 _ A15.out).mono ?_); rintro e w' ⟨rfl, ⟨nd, rfl⟩⟩; refine ⟨_, rfl, ?_⟩) | ((with_reducible refine gate_callee (f := 32) rfl ?_); refine goesL_ (some 63) rfl rfl Tryd.func32 (by kernel_rfl) rfl #[.string (x6_2 ++ t106)] rfl (by (try simp only [List.map_toArray, List.map_cons, List.map_nil]); first | done | rfl | (simp only [List.length_drop, List.length_take]; rfl)) ?_; (with_reducible refine (clock_Parse.calls kj9 (x6_2 ++ t106) t107 t108 _ A17.out).mono ?_); rintro e w44 ⟨rfl, hb⟩; refine ⟨_, rfl, ?_⟩; have n0_ := Aside0.mk (below_step (by repeat (first | (with_reducible first | exact HB.out | apply below_alloc | apply pw_below_drewN | apply below_drew1) | exact HB.out)) hb); clear HB; have HB := n0_; clear n0_; (try clear hb); (try clear hb2); (try clear hk); (try clear hi)) | ((with_reducible refine gate_callee (f := 32) rfl ?_); refine goesL_ (some 69) rfl rfl Tryd.func32 (by kernel_rfl) rfl #[.string ((x6_2 ++ t106) ++ (⟨#[48, 48, 48]⟩ : ByteArray))] rfl (by (try simp only [List.map_toArray, List.map_cons, List.map_nil]); first | done | rfl | (simp only [List.length_drop, List.length_take]; rfl)) ?_; (with_reducible refine (clock_Parse.calls kj9 ((x6_2 ++ t106) ++ (⟨#[48, 48, 48]⟩ : ByteArray)) t109 t110 _ A19.out).mono ?_); rintro e w45 ⟨rfl, hb⟩; refine ⟨_, rfl, ?_⟩; have n0_ := Aside0.mk (below_step (by repeat (first | (with_reducible first | exact HB.out | apply below_alloc | apply pw_below_drewN | apply below_drew1) | exact HB.out)) hb); clear HB; have HB := n0_; clear n0_; (try clear hb); (try clear hb2); (try clear hk); (try clear hi)) | ((with_reducible refine gate_callee (f := 32) rfl ?_); refine goesL_ (some 75) rfl rfl Tryd.func32 (by kernel_rfl) rfl #[.string ((⟨#[45]⟩ : ByteArray) ++ (x6_2 ++ t106))] rfl (by (try simp only [List.map_toArray, List.map_cons, List.map_nil]); first | done | rfl | (simp only [List.length_drop, List.length_take]; rfl)) ?_; (with_reducible refine (clock_Parse.calls kj9 ((⟨#[45]⟩ : ByteArray) ++ (x6_2 ++ t106)) t111 t112 _ A21.out).mono ?_); rintro e w46 ⟨rfl, hb⟩; refine ⟨_, rfl, ?_⟩; have n0_ := Aside0.mk (below_step (by repeat (first | (with_reducible first | exact HB.out | apply below_alloc | apply pw_below_drewN | apply below_drew1) | exact HB.out)) hb); clear HB; have HB := n0_; clear n0_; (try clear hb); (try clear hb2); (try clear hk); (try clear hi)))
                                                  go_ret
                                                  exact ⟨by first | rfl | (simp only [show ∀ l : List UInt8, (l != []) = (!l.isEmpty) from fun l => by cases l <;> rfl]; rfl) | (simp [errW_none, errW_some] <;> rfl) | (simp [*, errW_none, errW_some] <;> rfl), by repeat (first | (with_reducible first | exact HB.out | apply below_alloc | apply pw_below_drewN | apply below_drew1) | exact HB.out)⟩
                                                · rw [if_neg c43] at H
                                                  have c43b0 : (FloatKind.f64.format.order t111 (fop .sub (fneg t107) 4566650022153682944) == some .lt) = false := by simpa using c43
                                                  (try (have c43b1 : decide (FloatKind.f64.format.order t111 (fop .sub (fneg t107) 4566650022153682944) = some .lt) = false := by simpa using c43))
                                                  (try (have c43b2 : (FloatKind.f64.format.order t111 (fop .sub (fneg t107) 4566650022153682944) == some .lt) = false := by simpa using c43))
                                                  (try (have c43b3 : ¬ (FloatKind.f64.format.order t111 (fop .sub (fneg t107) 4566650022153682944) = some .lt) := by simpa using c43))
                                                  clear c43
                                                  have H' := Aside0.mk H
                                                  clear H
                                                  have p105 : 0 ≤ (x10_2 : Int) := of_decide_eq_true (by first | (with_reducible assumption) | assumption)
                                                  have q105 : x10_2 < (l1.length : Int) := of_decide_eq_true (by first | (with_reducible assumption) | assumption)
                                                  obtain ⟨ad105, e105, hx105_0⟩ := Kd.at_int HR1.out x10_2 p105 q105
                                                  cases e105
                                                  replace hx105_0 := (HB.out.cell (World.block_lt_of_cell? w _ hx105_0)).trans hx105_0
                                                  replace p105 := eq_true p105
                                                  replace q105 := eq_true q105
                                                  go_wp2_with (first | ((with_reducible refine gate_callee (f := 43) rfl ?_); refine goesL_ (some 59) rfl rfl Tryd.func43 (by kernel_rfl) rfl #[.int .i64 (wrap64 (Int.tmod (IntKind.u64.wrap (rd l1 x10_2)) 10))] rfl (by (try simp only [List.map_toArray, List.map_cons, List.map_nil]); first | done | rfl | (simp only [List.length_drop, List.length_take]; rfl)) ?_; (with_reducible refine (stevedorelaw4_digits.calls kj9 (wrap64 (Int.tmod (IntKind.u64.wrap (rd l1 x10_2)) 10)) t106 _ A15.out).mono ?_); rintro e w' ⟨rfl, ⟨nd, rfl⟩⟩; refine ⟨_, rfl, ?_⟩) | ((with_reducible refine gate_callee (f := 32) rfl ?_); refine goesL_ (some 63) rfl rfl Tryd.func32 (by kernel_rfl) rfl #[.string (x6_2 ++ t106)] rfl (by (try simp only [List.map_toArray, List.map_cons, List.map_nil]); first | done | rfl | (simp only [List.length_drop, List.length_take]; rfl)) ?_; (with_reducible refine (clock_Parse.calls kj9 (x6_2 ++ t106) t107 t108 _ A17.out).mono ?_); rintro e w47 ⟨rfl, hb⟩; refine ⟨_, rfl, ?_⟩; have n0_ := Aside0.mk (below_step (by repeat (first | (with_reducible first | exact HB.out | apply below_alloc | apply pw_below_drewN | apply below_drew1) | exact HB.out)) hb); clear HB; have HB := n0_; clear n0_; (try clear hb); (try clear hb2); (try clear hk); (try clear hi)) | ((with_reducible refine gate_callee (f := 32) rfl ?_); refine goesL_ (some 69) rfl rfl Tryd.func32 (by kernel_rfl) rfl #[.string ((x6_2 ++ t106) ++ (⟨#[48, 48, 48]⟩ : ByteArray))] rfl (by (try simp only [List.map_toArray, List.map_cons, List.map_nil]); first | done | rfl | (simp only [List.length_drop, List.length_take]; rfl)) ?_; (with_reducible refine (clock_Parse.calls kj9 ((x6_2 ++ t106) ++ (⟨#[48, 48, 48]⟩ : ByteArray)) t109 t110 _ A19.out).mono ?_); rintro e w48 ⟨rfl, hb⟩; refine ⟨_, rfl, ?_⟩; have n0_ := Aside0.mk (below_step (by repeat (first | (with_reducible first | exact HB.out | apply below_alloc | apply pw_below_drewN | apply below_drew1) | exact HB.out)) hb); clear HB; have HB := n0_; clear n0_; (try clear hb); (try clear hb2); (try clear hk); (try clear hi)) | ((with_reducible refine gate_callee (f := 32) rfl ?_); refine goesL_ (some 75) rfl rfl Tryd.func32 (by kernel_rfl) rfl #[.string ((⟨#[45]⟩ : ByteArray) ++ (x6_2 ++ t106))] rfl (by (try simp only [List.map_toArray, List.map_cons, List.map_nil]); first | done | rfl | (simp only [List.length_drop, List.length_take]; rfl)) ?_; (with_reducible refine (clock_Parse.calls kj9 ((⟨#[45]⟩ : ByteArray) ++ (x6_2 ++ t106)) t111 t112 _ A21.out).mono ?_); rintro e w49 ⟨rfl, hb⟩; refine ⟨_, rfl, ?_⟩; have n0_ := Aside0.mk (below_step (by repeat (first | (with_reducible first | exact HB.out | apply below_alloc | apply pw_below_drewN | apply below_drew1) | exact HB.out)) hb); clear HB; have HB := n0_; clear n0_; (try clear hb); (try clear hb2); (try clear hk); (try clear hi)))
                                                  go_roundg kj9
                                                  case measure => have := HJ4.out; have := HK2.out; have := HJ9.out; omega
                                                  case rel => exact ⟨(x6_2 ++ t106), (t107), (wrap64 (x10_2 + 1)), (by first | rfl | (simp; done) | (simp [*]; done)), (by first | rfl | (simp; done) | (simp [*]; done)), (by first | rfl | (simp; done) | (simp [*]; done)), H', ⟨by have := HJ4.out; have := HK2.out; have := HJ9.out; omega⟩, ⟨by repeat (first | (with_reducible first | exact HB.out | apply below_alloc | apply pw_below_drewN | apply below_drew1) | exact HB.out)⟩⟩
                                              · rw [if_neg c42] at H
                                                exact absurd H (by simp)
                                      · rw [if_neg c29] at H
                                        exact absurd H (by simp)
                                  · rw [if_neg c24] at H
                                    have c24b0 : (t112 == 0) = false := beq_eq_false_iff_ne.mpr c24
                                    have c24b1 : (t112 != 0) = true := bne_iff_ne.mpr c24
                                    obtain rfl := Option.some.inj H
                                    have p105 : 0 ≤ (x10_2 : Int) := of_decide_eq_true (by first | (with_reducible assumption) | assumption)
                                    have q105 : x10_2 < (l1.length : Int) := of_decide_eq_true (by first | (with_reducible assumption) | assumption)
                                    obtain ⟨ad105, e105, hx105_0⟩ := Kd.at_int HR1.out x10_2 p105 q105
                                    cases e105
                                    replace hx105_0 := (HB.out.cell (World.block_lt_of_cell? w _ hx105_0)).trans hx105_0
                                    replace p105 := eq_true p105
                                    replace q105 := eq_true q105
                                    go_wp2_with (first | ((with_reducible refine gate_callee (f := 43) rfl ?_); refine goesL_ (some 59) rfl rfl Tryd.func43 (by kernel_rfl) rfl #[.int .i64 (wrap64 (Int.tmod (IntKind.u64.wrap (rd l1 x10_2)) 10))] rfl (by (try simp only [List.map_toArray, List.map_cons, List.map_nil]); first | done | rfl | (simp only [List.length_drop, List.length_take]; rfl)) ?_; (with_reducible refine (stevedorelaw4_digits.calls kj9 (wrap64 (Int.tmod (IntKind.u64.wrap (rd l1 x10_2)) 10)) t106 _ A15.out).mono ?_); rintro e w' ⟨rfl, ⟨nd, rfl⟩⟩; refine ⟨_, rfl, ?_⟩) | ((with_reducible refine gate_callee (f := 32) rfl ?_); refine goesL_ (some 63) rfl rfl Tryd.func32 (by kernel_rfl) rfl #[.string (x6_2 ++ t106)] rfl (by (try simp only [List.map_toArray, List.map_cons, List.map_nil]); first | done | rfl | (simp only [List.length_drop, List.length_take]; rfl)) ?_; (with_reducible refine (clock_Parse.calls kj9 (x6_2 ++ t106) t107 t108 _ A17.out).mono ?_); rintro e w50 ⟨rfl, hb⟩; refine ⟨_, rfl, ?_⟩; have n0_ := Aside0.mk (below_step (by repeat (first | (with_reducible first | exact HB.out | apply below_alloc | apply pw_below_drewN | apply below_drew1) | exact HB.out)) hb); clear HB; have HB := n0_; clear n0_; (try clear hb); (try clear hb2); (try clear hk); (try clear hi)) | ((with_reducible refine gate_callee (f := 32) rfl ?_); refine goesL_ (some 69) rfl rfl Tryd.func32 (by kernel_rfl) rfl #[.string ((x6_2 ++ t106) ++ (⟨#[48, 48, 48]⟩ : ByteArray))] rfl (by (try simp only [List.map_toArray, List.map_cons, List.map_nil]); first | done | rfl | (simp only [List.length_drop, List.length_take]; rfl)) ?_; (with_reducible refine (clock_Parse.calls kj9 ((x6_2 ++ t106) ++ (⟨#[48, 48, 48]⟩ : ByteArray)) t109 t110 _ A19.out).mono ?_); rintro e w51 ⟨rfl, hb⟩; refine ⟨_, rfl, ?_⟩; have n0_ := Aside0.mk (below_step (by repeat (first | (with_reducible first | exact HB.out | apply below_alloc | apply pw_below_drewN | apply below_drew1) | exact HB.out)) hb); clear HB; have HB := n0_; clear n0_; (try clear hb); (try clear hb2); (try clear hk); (try clear hi)) | ((with_reducible refine gate_callee (f := 32) rfl ?_); refine goesL_ (some 75) rfl rfl Tryd.func32 (by kernel_rfl) rfl #[.string ((⟨#[45]⟩ : ByteArray) ++ (x6_2 ++ t106))] rfl (by (try simp only [List.map_toArray, List.map_cons, List.map_nil]); first | done | rfl | (simp only [List.length_drop, List.length_take]; rfl)) ?_; (with_reducible refine (clock_Parse.calls kj9 ((⟨#[45]⟩ : ByteArray) ++ (x6_2 ++ t106)) t111 t112 _ A21.out).mono ?_); rintro e w52 ⟨rfl, hb⟩; refine ⟨_, rfl, ?_⟩; have n0_ := Aside0.mk (below_step (by repeat (first | (with_reducible first | exact HB.out | apply below_alloc | apply pw_below_drewN | apply below_drew1) | exact HB.out)) hb); clear HB; have HB := n0_; clear n0_; (try clear hb); (try clear hb2); (try clear hk); (try clear hi)))
                                    go_ret
                                    exact ⟨by first | rfl | (simp only [show ∀ l : List UInt8, (l != []) = (!l.isEmpty) from fun l => by cases l <;> rfl]; rfl) | (simp [errW_none, errW_some] <;> rfl) | (simp [*, errW_none, errW_some] <;> rfl), by repeat (first | (with_reducible first | exact HB.out | apply below_alloc | apply pw_below_drewN | apply below_drew1) | exact HB.out)⟩
                                · rw [if_neg c23] at H
                                  have c23b0 : (t110 == 0) = false := beq_eq_false_iff_ne.mpr c23
                                  have c23b1 : (t110 != 0) = true := bne_iff_ne.mpr c23
                                  obtain rfl := Option.some.inj H
                                  have p105 : 0 ≤ (x10_2 : Int) := of_decide_eq_true (by first | (with_reducible assumption) | assumption)
                                  have q105 : x10_2 < (l1.length : Int) := of_decide_eq_true (by first | (with_reducible assumption) | assumption)
                                  obtain ⟨ad105, e105, hx105_0⟩ := Kd.at_int HR1.out x10_2 p105 q105
                                  cases e105
                                  replace hx105_0 := (HB.out.cell (World.block_lt_of_cell? w _ hx105_0)).trans hx105_0
                                  replace p105 := eq_true p105
                                  replace q105 := eq_true q105
                                  go_wp2_with (first | ((with_reducible refine gate_callee (f := 43) rfl ?_); refine goesL_ (some 59) rfl rfl Tryd.func43 (by kernel_rfl) rfl #[.int .i64 (wrap64 (Int.tmod (IntKind.u64.wrap (rd l1 x10_2)) 10))] rfl (by (try simp only [List.map_toArray, List.map_cons, List.map_nil]); first | done | rfl | (simp only [List.length_drop, List.length_take]; rfl)) ?_; (with_reducible refine (stevedorelaw4_digits.calls kj9 (wrap64 (Int.tmod (IntKind.u64.wrap (rd l1 x10_2)) 10)) t106 _ A15.out).mono ?_); rintro e w' ⟨rfl, ⟨nd, rfl⟩⟩; refine ⟨_, rfl, ?_⟩) | ((with_reducible refine gate_callee (f := 32) rfl ?_); refine goesL_ (some 63) rfl rfl Tryd.func32 (by kernel_rfl) rfl #[.string (x6_2 ++ t106)] rfl (by (try simp only [List.map_toArray, List.map_cons, List.map_nil]); first | done | rfl | (simp only [List.length_drop, List.length_take]; rfl)) ?_; (with_reducible refine (clock_Parse.calls kj9 (x6_2 ++ t106) t107 t108 _ A17.out).mono ?_); rintro e w53 ⟨rfl, hb⟩; refine ⟨_, rfl, ?_⟩; have n0_ := Aside0.mk (below_step (by repeat (first | (with_reducible first | exact HB.out | apply below_alloc | apply pw_below_drewN | apply below_drew1) | exact HB.out)) hb); clear HB; have HB := n0_; clear n0_; (try clear hb); (try clear hb2); (try clear hk); (try clear hi)) | ((with_reducible refine gate_callee (f := 32) rfl ?_); refine goesL_ (some 69) rfl rfl Tryd.func32 (by kernel_rfl) rfl #[.string ((x6_2 ++ t106) ++ (⟨#[48, 48, 48]⟩ : ByteArray))] rfl (by (try simp only [List.map_toArray, List.map_cons, List.map_nil]); first | done | rfl | (simp only [List.length_drop, List.length_take]; rfl)) ?_; (with_reducible refine (clock_Parse.calls kj9 ((x6_2 ++ t106) ++ (⟨#[48, 48, 48]⟩ : ByteArray)) t109 t110 _ A19.out).mono ?_); rintro e w54 ⟨rfl, hb⟩; refine ⟨_, rfl, ?_⟩; have n0_ := Aside0.mk (below_step (by repeat (first | (with_reducible first | exact HB.out | apply below_alloc | apply pw_below_drewN | apply below_drew1) | exact HB.out)) hb); clear HB; have HB := n0_; clear n0_; (try clear hb); (try clear hb2); (try clear hk); (try clear hi)) | ((with_reducible refine gate_callee (f := 32) rfl ?_); refine goesL_ (some 75) rfl rfl Tryd.func32 (by kernel_rfl) rfl #[.string ((⟨#[45]⟩ : ByteArray) ++ (x6_2 ++ t106))] rfl (by (try simp only [List.map_toArray, List.map_cons, List.map_nil]); first | done | rfl | (simp only [List.length_drop, List.length_take]; rfl)) ?_; (with_reducible refine (clock_Parse.calls kj9 ((⟨#[45]⟩ : ByteArray) ++ (x6_2 ++ t106)) t111 t112 _ A21.out).mono ?_); rintro e w55 ⟨rfl, hb⟩; refine ⟨_, rfl, ?_⟩; have n0_ := Aside0.mk (below_step (by repeat (first | (with_reducible first | exact HB.out | apply below_alloc | apply pw_below_drewN | apply below_drew1) | exact HB.out)) hb); clear HB; have HB := n0_; clear n0_; (try clear hb); (try clear hb2); (try clear hk); (try clear hi)))
                                  go_ret
                                  exact ⟨by first | rfl | (simp only [show ∀ l : List UInt8, (l != []) = (!l.isEmpty) from fun l => by cases l <;> rfl]; rfl) | (simp [errW_none, errW_some] <;> rfl) | (simp [*, errW_none, errW_some] <;> rfl), by repeat (first | (with_reducible first | exact HB.out | apply below_alloc | apply pw_below_drewN | apply below_drew1) | exact HB.out)⟩
                              · rw [if_neg c22] at H
                                have c22b0 : (t108 == 0) = false := beq_eq_false_iff_ne.mpr c22
                                have c22b1 : (t108 != 0) = true := bne_iff_ne.mpr c22
                                obtain rfl := Option.some.inj H
                                have p105 : 0 ≤ (x10_2 : Int) := of_decide_eq_true (by first | (with_reducible assumption) | assumption)
                                have q105 : x10_2 < (l1.length : Int) := of_decide_eq_true (by first | (with_reducible assumption) | assumption)
                                obtain ⟨ad105, e105, hx105_0⟩ := Kd.at_int HR1.out x10_2 p105 q105
                                cases e105
                                replace hx105_0 := (HB.out.cell (World.block_lt_of_cell? w _ hx105_0)).trans hx105_0
                                replace p105 := eq_true p105
                                replace q105 := eq_true q105
                                go_wp2_with (first | ((with_reducible refine gate_callee (f := 43) rfl ?_); refine goesL_ (some 59) rfl rfl Tryd.func43 (by kernel_rfl) rfl #[.int .i64 (wrap64 (Int.tmod (IntKind.u64.wrap (rd l1 x10_2)) 10))] rfl (by (try simp only [List.map_toArray, List.map_cons, List.map_nil]); first | done | rfl | (simp only [List.length_drop, List.length_take]; rfl)) ?_; (with_reducible refine (stevedorelaw4_digits.calls kj9 (wrap64 (Int.tmod (IntKind.u64.wrap (rd l1 x10_2)) 10)) t106 _ A15.out).mono ?_); rintro e w' ⟨rfl, ⟨nd, rfl⟩⟩; refine ⟨_, rfl, ?_⟩) | ((with_reducible refine gate_callee (f := 32) rfl ?_); refine goesL_ (some 63) rfl rfl Tryd.func32 (by kernel_rfl) rfl #[.string (x6_2 ++ t106)] rfl (by (try simp only [List.map_toArray, List.map_cons, List.map_nil]); first | done | rfl | (simp only [List.length_drop, List.length_take]; rfl)) ?_; (with_reducible refine (clock_Parse.calls kj9 (x6_2 ++ t106) t107 t108 _ A17.out).mono ?_); rintro e w56 ⟨rfl, hb⟩; refine ⟨_, rfl, ?_⟩; have n0_ := Aside0.mk (below_step (by repeat (first | (with_reducible first | exact HB.out | apply below_alloc | apply pw_below_drewN | apply below_drew1) | exact HB.out)) hb); clear HB; have HB := n0_; clear n0_; (try clear hb); (try clear hb2); (try clear hk); (try clear hi)) | ((with_reducible refine gate_callee (f := 32) rfl ?_); refine goesL_ (some 69) rfl rfl Tryd.func32 (by kernel_rfl) rfl #[.string ((x6_2 ++ t106) ++ (⟨#[48, 48, 48]⟩ : ByteArray))] rfl (by (try simp only [List.map_toArray, List.map_cons, List.map_nil]); first | done | rfl | (simp only [List.length_drop, List.length_take]; rfl)) ?_; (with_reducible refine (clock_Parse.calls kj9 ((x6_2 ++ t106) ++ (⟨#[48, 48, 48]⟩ : ByteArray)) t109 t110 _ A19.out).mono ?_); rintro e w57 ⟨rfl, hb⟩; refine ⟨_, rfl, ?_⟩; have n0_ := Aside0.mk (below_step (by repeat (first | (with_reducible first | exact HB.out | apply below_alloc | apply pw_below_drewN | apply below_drew1) | exact HB.out)) hb); clear HB; have HB := n0_; clear n0_; (try clear hb); (try clear hb2); (try clear hk); (try clear hi)) | ((with_reducible refine gate_callee (f := 32) rfl ?_); refine goesL_ (some 75) rfl rfl Tryd.func32 (by kernel_rfl) rfl #[.string ((⟨#[45]⟩ : ByteArray) ++ (x6_2 ++ t106))] rfl (by (try simp only [List.map_toArray, List.map_cons, List.map_nil]); first | done | rfl | (simp only [List.length_drop, List.length_take]; rfl)) ?_; (with_reducible refine (clock_Parse.calls kj9 ((⟨#[45]⟩ : ByteArray) ++ (x6_2 ++ t106)) t111 t112 _ A21.out).mono ?_); rintro e w58 ⟨rfl, hb⟩; refine ⟨_, rfl, ?_⟩; have n0_ := Aside0.mk (below_step (by repeat (first | (with_reducible first | exact HB.out | apply below_alloc | apply pw_below_drewN | apply below_drew1) | exact HB.out)) hb); clear HB; have HB := n0_; clear n0_; (try clear hb); (try clear hb2); (try clear hk); (try clear hi)))
                                go_ret
                                exact ⟨by first | rfl | (simp only [show ∀ l : List UInt8, (l != []) = (!l.isEmpty) from fun l => by cases l <;> rfl]; rfl) | (simp [errW_none, errW_some] <;> rfl) | (simp [*, errW_none, errW_some] <;> rfl), by repeat (first | (with_reducible first | exact HB.out | apply below_alloc | apply pw_below_drewN | apply below_drew1) | exact HB.out)⟩
                            · rw [if_neg c20] at H
                              exact absurd H (by simp)
                          · rw [if_neg c18] at H
                            exact absurd H (by simp)
                        · rw [if_neg c16] at H
                          exact absurd H (by simp)
                      · rw [if_neg c14] at H
                        exact absurd H (by simp)
                    · rw [if_neg c13] at H
                      exact absurd H (by simp)
                  · replace c12 := Bool.eq_false_iff.mpr c12
                    subst c12
                    have H1 : ((stevedorelaw4_told.f).bind fun t104 => (some t104)) = some r := by rw [if_neg (show ¬ (false = true) by decide)] at H; exact H
                    clear H
                    have H := H1
                    clear H1
                    replace H := Option.bind_eq_some_iff.mp H
                    obtain ⟨t104, A590, H⟩ := H
                    replace H : (some t104) = some r := H
                    have A59 := Aside0.mk A590
                    clear A590
                    obtain rfl := Option.some.inj H
                    go_wp2_with (first | ((with_reducible refine gate_callee (f := 31) rfl ?_); refine goesL_ (some 118) rfl rfl Tryd.func31 (by kernel_rfl) rfl #[] rfl (by (try simp only [List.map_toArray, List.map_cons, List.map_nil]); first | done | rfl | (simp only [List.length_drop, List.length_take]; rfl)) ?_; (with_reducible refine (stevedorelaw4_told.calls  t104 _ A59.out (Go.Proofs.YtfmfikodnpnblaaDoor.ClkLib.Vars.below HVARS.out (by repeat (first | (with_reducible first | exact HB.out | apply below_alloc | apply pw_below_drewN | apply below_drew1 | refine below_set ?_ (Aside0.out (by assumption))) | exact HB.out)))).mono ?_); rintro e w60 ⟨rfl, hb⟩; refine ⟨_, rfl, ?_⟩; have n0_ := Aside0.mk (below_step (by repeat (first | (with_reducible first | exact HB.out | apply below_alloc | apply pw_below_drewN | apply below_drew1) | exact HB.out)) hb); clear HB; have HB := n0_; clear n0_; (try clear hb); (try clear hb2); (try clear hk); (try clear hi)))
                    go_ret
                    exact ⟨by first | rfl | (simp only [show ∀ l : List UInt8, (l != []) = (!l.isEmpty) from fun l => by cases l <;> rfl]; rfl) | (simp [errW_none, errW_some] <;> rfl) | (simp [*, errW_none, errW_some] <;> rfl), by repeat (first | (with_reducible first | exact HB.out | apply below_alloc | apply pw_below_drewN | apply below_drew1) | exact HB.out)⟩
        · rw [if_neg c9] at H
          exact absurd H (by simp)

/-- THE ONE PURE STATEMENT of stevedorelaw4_ClockParses: yours. -/
def stevedorelaw4_ClockParses.Pure : Prop := ∀ (a0 : Int) (l1 : List Int), (Lit.int .i64 a0).wf = true → l1.length ≤ maxLen → l1.length * 8 ≤ 140737488351232 → (∀ x ∈ l1, (Lit.int .i64 x).wf = true) → ∃ k, stevedorelaw4_ClockParses.f k a0 l1 = some true

end Go.Proofs.YtfmfikodnpnblaaDoor.PClockParses

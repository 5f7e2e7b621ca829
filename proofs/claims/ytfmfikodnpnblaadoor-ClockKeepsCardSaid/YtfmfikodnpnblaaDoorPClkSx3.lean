-- Written by this repo's gprint.py over the kit's printer, out of the translation. Not trusted: Lean checks it.
import Derived.Test.YtfmfikodnpnblaaDoorPClkSx0
import Derived.Test.YtfmfikodnpnblaaDoorPClkSx2
namespace Go.Proofs.YtfmfikodnpnblaaDoor.PClkS
open Go.RowKit Go.Proofs.YtfmfikodnpnblaaDoorW.PrintWords Go.Proofs.YtfmfikodnpnblaaDoorW.PrintLast Go.Proofs.YtfmfikodnpnblaaDoorW.PrintMore
attribute [local go_sem] max2_int min2_int max_two min_two max_three min_three max_four min_four   -- for this text's walks alone
open Go.Proofs.YtfmfikodnpnblaaDoor.ClkLib Go.Proofs.YtfmfikodnpnblaaDoor.PClk1
attribute [local go_sem] fop_run fint_run fofint_run
set_option linter.unusedVariables false
set_option linter.unusedSimpArgs false

-- function 54 (math_NaN): by hand

/-! ### clock_FromDos: function 48 -/
def clock_FromDos.j0 : Nat → Int → Bool → Option (Nat)
  | 0, _, _ => none
  | k + 1, x0, x10 => if x10 = true then ((math_NaN.f).bind fun t106 => (some t106)) else ((clock_Seconds.f k (wrap64 (1980 + (x0 / 33554432))) (Go.bits .and .i64 (x0 / 2097152) 15) (Go.bits .and .i64 (x0 / 65536) 31) (Go.bits .and .i64 (x0 / 2048) 31) (Go.bits .and .i64 (x0 / 32) 63) (wrap64 ((Go.bits .and .i64 x0 31) * 2))).bind fun bt107 => (if bt107.2 = true then (some (floatOfInt .f64 bt107.1)) else ((math_NaN.f).bind fun t109 => (some t109))))
def clock_FromDos.f (k : Nat) (a0 : Int) : Option (Nat) := if a0 < 0 then (clock_FromDos.j0 k a0 true) else (clock_FromDos.j0 k a0 (decide (a0 > 4294967295)))
theorem clock_FromDos.mono_l : ∀ k, (∀ y0 y1, LeO (clock_FromDos.j0 k y0 y1) (clock_FromDos.j0 (k + 1) y0 y1))
  | 0 => fun _ _ r h => by simp [clock_FromDos.j0] at h
  | k + 1 => by
    have ih0 := clock_FromDos.mono_l k
    · intro y0 y1
      unfold clock_FromDos.j0
      repeat' first
      | (with_reducible exact ih0 _ _)
      | (with_reducible exact clock_Seconds.mono _ _ _ _ _ _ _)
      | (with_reducible exact LeO.refl _)
      | (with_reducible exact LeO.none _)
      | (with_reducible refine LeO.ite ?_ ?_)
      | (with_reducible refine LeO.bind ?_ (fun _ => ?_))
      | exact ih0 _ _
      | exact clock_Seconds.mono _ _ _ _ _ _ _
      | exact LeO.none _
      | refine LeO.ite ?_ ?_
      | refine LeO.bind ?_ (fun _ => ?_)
theorem clock_FromDos.mono : ∀ a0 k, LeO (clock_FromDos.f k a0) (clock_FromDos.f (k + 1) a0) := by
  intro a0 k
  have ih0 := clock_FromDos.mono_l k
  unfold clock_FromDos.f
  repeat' first
      | (with_reducible exact ih0 _ _)
      | (with_reducible exact clock_Seconds.mono _ _ _ _ _ _ _)
      | (with_reducible exact LeO.refl _)
      | (with_reducible exact LeO.none _)
      | (with_reducible refine LeO.ite ?_ ?_)
      | (with_reducible refine LeO.bind ?_ (fun _ => ?_))
      | exact ih0 _ _
      | exact clock_Seconds.mono _ _ _ _ _ _ _
      | exact LeO.none _
      | refine LeO.ite ?_ ?_
      | refine LeO.bind ?_ (fun _ => ?_)
set_option maxHeartbeats 8000000 in
set_option maxRecDepth 100000 in
theorem clock_FromDos.calls (k : Nat) (a0 : Int) (r : Nat) (w : World) (h : clock_FromDos.f k a0 = some r) :
    Calls Tryd.prog 48 #[.int .i64 a0] w fun e w' => e = .returned (.float .f64 r) ∧ Below w.heap.size w w' := by
  have hu59 := Tryd.underlying59
  have HB := Aside0.mk (Below.refl w.heap.size w)
  have H : (if a0 < 0 then (clock_FromDos.j0 k a0 true) else (clock_FromDos.j0 k a0 (decide (a0 > 4294967295)))) = some r := h
  clear h
  have HC2 := Aside0.mk H
  clear H
  go_enter Tryd.func48, Tryd.ntmps48
  go_upto_region 1 with (fail)
  go_cut [10] (fun v10 wc => ∃ (kq : Nat) (x10_1 : Bool), v10 = .bool x10_1 ∧ Aside0 (clock_FromDos.j0 kq a0 x10_1 = some r) ∧ Aside0 (kq ≤ k) ∧ Aside0 (Below w.heap.size w wc))
  case first =>
    have H := HC2.out
    clear HC2
    by_cases c3 : a0 < 0
    · rw [if_pos c3] at H
      have c3b0 : decide (a0 < 0) = true := decide_eq_true c3
      clear c3
      (first | rw [c3b0] | (simp only [i64_w, i32_w]; rw [c3b0]) | rw [c3b1] | skip)
      have H' := Aside0.mk H
      clear H
      go_wp2
      go_meet
      case rel => exact ⟨_, (true), (by first | rfl | (simp; done) | (simp [*]; done)), H', ⟨by first | omega | exact Nat.le_refl _⟩, ⟨by repeat (first | (with_reducible first | exact HB.out | apply below_alloc | apply pw_below_drewN | apply below_drew1) | exact HB.out)⟩⟩
    · rw [if_neg c3] at H
      have c3b0 : decide (a0 < 0) = false := decide_eq_false c3
      clear c3
      (first | rw [c3b0] | (simp only [i64_w, i32_w]; rw [c3b0]) | rw [c3b1] | skip)
      have H' := Aside0.mk H
      clear H
      go_wp2
      go_meet
      case rel => exact ⟨_, (decide (a0 > 4294967295)), (by first | rfl | (simp; done) | (simp [*]; done)), H', ⟨by first | omega | exact Nat.le_refl _⟩, ⟨by repeat (first | (with_reducible first | exact HB.out | apply below_alloc | apply pw_below_drewN | apply below_drew1) | exact HB.out)⟩⟩
  case rest =>
    clear HC2
    try clear p2
    try clear c3
    try clear c3b0
    obtain ⟨kq, x10_1, rfl, HA, HJ1, HB⟩ := hcut
    cases kq with
    | zero => exact absurd HA.out (by simp [clock_FromDos.j0])
    | succ kj1 =>
      have H := HA.out
      clear HA
      simp only [clock_FromDos.j0] at H
      by_cases c4 : x10_1 = true
      · subst c4
        have H1 : ((math_NaN.f).bind fun t106 => (some t106)) = some r := by rw [if_pos rfl] at H; exact H
        clear H
        have H := H1
        clear H1
        replace H := Option.bind_eq_some_iff.mp H
        obtain ⟨t106, A50, H⟩ := H
        replace H : (some t106) = some r := H
        have A5 := Aside0.mk A50
        clear A50
        obtain rfl := Option.some.inj H
        go_wp2_with (first | ((with_reducible refine gate_callee (f := 54) rfl ?_); refine goesL_ (some 11) rfl rfl Tryd.func54 (by kernel_rfl) rfl #[] rfl (by (try simp only [List.map_toArray, List.map_cons, List.map_nil]); first | done | rfl | (simp only [List.length_drop, List.length_take]; rfl)) ?_; (with_reducible refine (math_NaN.calls  t106 _ A5.out).mono ?_); rintro e w6 ⟨rfl, hb⟩; refine ⟨_, rfl, ?_⟩; have n0_ := Aside0.mk (below_step (by repeat (first | (with_reducible first | exact HB.out | apply below_alloc | apply pw_below_drewN | apply below_drew1) | exact HB.out)) hb); clear HB; have HB := n0_; clear n0_; (try clear hb); (try clear hb2); (try clear hk); (try clear hi)))
        go_ret
        exact ⟨by first | rfl | (simp only [show ∀ l : List UInt8, (l != []) = (!l.isEmpty) from fun l => by cases l <;> rfl]; rfl) | (simp [errW_none, errW_some] <;> rfl) | (simp [*, errW_none, errW_some] <;> rfl), by repeat (first | (with_reducible first | exact HB.out | apply below_alloc | apply pw_below_drewN | apply below_drew1) | exact HB.out)⟩
      · replace c4 := Bool.eq_false_iff.mpr c4
        subst c4
        have H1 : ((clock_Seconds.f kj1 (wrap64 (1980 + (a0 / 33554432))) (Go.bits .and .i64 (a0 / 2097152) 15) (Go.bits .and .i64 (a0 / 65536) 31) (Go.bits .and .i64 (a0 / 2048) 31) (Go.bits .and .i64 (a0 / 32) 63) (wrap64 ((Go.bits .and .i64 a0 31) * 2))).bind fun bt107 => (if bt107.2 = true then (some (floatOfInt .f64 bt107.1)) else ((math_NaN.f).bind fun t109 => (some t109)))) = some r := by rw [if_neg (show ¬ (false = true) by decide)] at H; exact H
        clear H
        have H := H1
        clear H1
        replace H := Option.bind_eq_some_iff.mp H
        obtain ⟨⟨t107, t108⟩, A70, H⟩ := H
        replace H : (if t108 = true then (some (floatOfInt .f64 t107)) else ((math_NaN.f).bind fun t109 => (some t109))) = some r := H
        have A7 := Aside0.mk A70
        clear A70
        by_cases c8 : t108 = true
        · subst c8
          have H1 : (some (floatOfInt .f64 t107)) = some r := by rw [if_pos rfl] at H; exact H
          clear H
          have H := H1
          clear H1
          obtain rfl := Option.some.inj H
          go_wp2_with (first | ((with_reducible refine gate_callee (f := 44) rfl ?_); refine goesL_ (some 32) rfl rfl Tryd.func44 (by kernel_rfl) rfl #[.agg #[.int .i64 (wrap64 (1980 + (a0 / 33554432))), .int .i64 (Go.bits .and .i64 (a0 / 2097152) 15), .int .i64 (Go.bits .and .i64 (a0 / 65536) 31), .int .i64 (Go.bits .and .i64 (a0 / 2048) 31), .int .i64 (Go.bits .and .i64 (a0 / 32) 63), .int .i64 (wrap64 ((Go.bits .and .i64 a0 31) * 2))]] rfl (by (try simp only [List.map_toArray, List.map_cons, List.map_nil]); first | done | rfl | (simp only [List.length_drop, List.length_take]; rfl)) ?_; (with_reducible refine (clock_Seconds.calls kj1 (wrap64 (1980 + (a0 / 33554432))) (Go.bits .and .i64 (a0 / 2097152) 15) (Go.bits .and .i64 (a0 / 65536) 31) (Go.bits .and .i64 (a0 / 2048) 31) (Go.bits .and .i64 (a0 / 32) 63) (wrap64 ((Go.bits .and .i64 a0 31) * 2)) t107 true _ A7.out).mono ?_); rintro e w9 ⟨rfl, hb⟩; refine ⟨_, rfl, ?_⟩; have n0_ := Aside0.mk (below_step (by repeat (first | (with_reducible first | exact HB.out | apply below_alloc | apply pw_below_drewN | apply below_drew1) | exact HB.out)) hb); clear HB; have HB := n0_; clear n0_; (try clear hb); (try clear hb2); (try clear hk); (try clear hi)))
          go_ret
          exact ⟨by first | rfl | (simp only [show ∀ l : List UInt8, (l != []) = (!l.isEmpty) from fun l => by cases l <;> rfl]; rfl) | (simp [errW_none, errW_some] <;> rfl) | (simp [*, errW_none, errW_some] <;> rfl), by repeat (first | (with_reducible first | exact HB.out | apply below_alloc | apply pw_below_drewN | apply below_drew1) | exact HB.out)⟩
        · replace c8 := Bool.eq_false_iff.mpr c8
          subst c8
          have H1 : ((math_NaN.f).bind fun t109 => (some t109)) = some r := by rw [if_neg (show ¬ (false = true) by decide)] at H; exact H
          clear H
          have H := H1
          clear H1
          replace H := Option.bind_eq_some_iff.mp H
          obtain ⟨t109, A100, H⟩ := H
          replace H : (some t109) = some r := H
          have A10 := Aside0.mk A100
          clear A100
          obtain rfl := Option.some.inj H
          go_wp2_with (first | ((with_reducible refine gate_callee (f := 44) rfl ?_); refine goesL_ (some 32) rfl rfl Tryd.func44 (by kernel_rfl) rfl #[.agg #[.int .i64 (wrap64 (1980 + (a0 / 33554432))), .int .i64 (Go.bits .and .i64 (a0 / 2097152) 15), .int .i64 (Go.bits .and .i64 (a0 / 65536) 31), .int .i64 (Go.bits .and .i64 (a0 / 2048) 31), .int .i64 (Go.bits .and .i64 (a0 / 32) 63), .int .i64 (wrap64 ((Go.bits .and .i64 a0 31) * 2))]] rfl (by (try simp only [List.map_toArray, List.map_cons, List.map_nil]); first | done | rfl | (simp only [List.length_drop, List.length_take]; rfl)) ?_; (with_reducible refine (clock_Seconds.calls kj1 (wrap64 (1980 + (a0 / 33554432))) (Go.bits .and .i64 (a0 / 2097152) 15) (Go.bits .and .i64 (a0 / 65536) 31) (Go.bits .and .i64 (a0 / 2048) 31) (Go.bits .and .i64 (a0 / 32) 63) (wrap64 ((Go.bits .and .i64 a0 31) * 2)) t107 false _ A7.out).mono ?_); rintro e w11 ⟨rfl, hb⟩; refine ⟨_, rfl, ?_⟩; have n0_ := Aside0.mk (below_step (by repeat (first | (with_reducible first | exact HB.out | apply below_alloc | apply pw_below_drewN | apply below_drew1) | exact HB.out)) hb); clear HB; have HB := n0_; clear n0_; (try clear hb); (try clear hb2); (try clear hk); (try clear hi)) | ((with_reducible refine gate_callee (f := 54) rfl ?_); refine goesL_ (some 37) rfl rfl Tryd.func54 (by kernel_rfl) rfl #[] rfl (by (try simp only [List.map_toArray, List.map_cons, List.map_nil]); first | done | rfl | (simp only [List.length_drop, List.length_take]; rfl)) ?_; (with_reducible refine (math_NaN.calls  t109 _ A10.out).mono ?_); rintro e w12 ⟨rfl, hb⟩; refine ⟨_, rfl, ?_⟩; have n0_ := Aside0.mk (below_step (by repeat (first | (with_reducible first | exact HB.out | apply below_alloc | apply pw_below_drewN | apply below_drew1) | exact HB.out)) hb); clear HB; have HB := n0_; clear n0_; (try clear hb); (try clear hb2); (try clear hk); (try clear hi)))
          go_ret
          exact ⟨by first | rfl | (simp only [show ∀ l : List UInt8, (l != []) = (!l.isEmpty) from fun l => by cases l <;> rfl]; rfl) | (simp [errW_none, errW_some] <;> rfl) | (simp [*, errW_none, errW_some] <;> rfl), by repeat (first | (with_reducible first | exact HB.out | apply below_alloc | apply pw_below_drewN | apply below_drew1) | exact HB.out)⟩

end Go.Proofs.YtfmfikodnpnblaaDoor.PClkS

-- Written by this repo's gprint.py over the kit's printer, out of the translation. Not trusted: Lean checks it.
import Derived.Test.YtfmfikodnpnblaaGreatDoorPClkEx0
namespace Go.Proofs.YtfmfikodnpnblaaGreatDoor.PClkE
open Go.RowKit Go.Proofs.YtfmfikodnpnblaaGreatDoorW.PrintWords Go.Proofs.YtfmfikodnpnblaaGreatDoorW.PrintLast Go.Proofs.YtfmfikodnpnblaaGreatDoorW.PrintMore
attribute [local go_sem] max2_int min2_int max_two min_two max_three min_three max_four min_four   -- for this text's walks alone
open Go.Proofs.YtfmfikodnpnblaaGreatDoor.ClkLib Go.Proofs.YtfmfikodnpnblaaGreatDoor.PClkB Go.Proofs.YtfmfikodnpnblaaGreatDoor.PClkR
attribute [local go_sem] fop_run fint_run fofint_run
set_option linter.unusedVariables false
set_option linter.unusedSimpArgs false

-- function 5 (clock_Seconds): by hand

-- function 35 (math_NaN): by hand

/-! ### clock_FromDos: function 21 -/
def clock_FromDos.j0 : Nat → Int → Bool → Option (Nat)
  | 0, _, _ => none
  | k + 1, x0, x10 => if x10 = true then ((math_NaN.f).bind fun t101 => (some t101)) else ((clock_Seconds.f k (wrap64 (1980 + (x0 / 33554432))) (Go.bits .and .i64 (x0 / 2097152) 15) (Go.bits .and .i64 (x0 / 65536) 31) (Go.bits .and .i64 (x0 / 2048) 31) (Go.bits .and .i64 (x0 / 32) 63) (wrap64 ((Go.bits .and .i64 x0 31) * 2))).bind fun bt102 => (if bt102.2 = true then (some (floatOfInt .f64 bt102.1)) else ((math_NaN.f).bind fun t104 => (some t104))))
def clock_FromDos.f (k : Nat) (a0 : Int) : Option (Nat) := if a0 < 0 then (clock_FromDos.j0 k a0 true) else (clock_FromDos.j0 k a0 (decide (a0 > 4294967295)))
theorem clock_FromDos.mono_l : ∀ k, (∀ y0 y1, LeO (clock_FromDos.j0 k y0 y1) (clock_FromDos.j0 (k + 1) y0 y1))
  | 0 => fun _ _ r h => by simp [clock_FromDos.j0] at h
  | k + 1 => by
    have ih0 := clock_FromDos.mono_l k
    · intro y0 y1
      unfold clock_FromDos.j0
      repeat' first
      | (with_reducible exact ih0 _ _)
      | (with_reducible exact clock_Seconds.mono _ _ _ _ _ _ _)
      | (with_reducible exact LeO.refl _)
      | (with_reducible exact LeO.none _)
      | (with_reducible refine LeO.ite ?_ ?_)
      | (with_reducible refine LeO.bind ?_ (fun _ => ?_))
      | exact ih0 _ _
      | exact clock_Seconds.mono _ _ _ _ _ _ _
      | exact LeO.none _
      | refine LeO.ite ?_ ?_
      | refine LeO.bind ?_ (fun _ => ?_)
theorem clock_FromDos.mono : ∀ a0 k, LeO (clock_FromDos.f k a0) (clock_FromDos.f (k + 1) a0) := by
  intro a0 k
  have ih0 := clock_FromDos.mono_l k
  unfold clock_FromDos.f
  repeat' first
      | (with_reducible exact ih0 _ _)
      | (with_reducible exact clock_Seconds.mono _ _ _ _ _ _ _)
      | (with_reducible exact LeO.refl _)
      | (with_reducible exact LeO.none _)
      | (with_reducible refine LeO.ite ?_ ?_)
      | (with_reducible refine LeO.bind ?_ (fun _ => ?_))
      | exact ih0 _ _
      | exact clock_Seconds.mono _ _ _ _ _ _ _
      | exact LeO.none _
      | refine LeO.ite ?_ ?_
      | refine LeO.bind ?_ (fun _ => ?_)
set_option maxHeartbeats 8000000 in
set_option maxRecDepth 100000 in
theorem clock_FromDos.calls (k : Nat) (a0 : Int) (r : Nat) (w : World) (h : clock_FromDos.f k a0 = some r) :
    Calls Tryz.prog 21 #[.int .i64 a0] w fun e w' => e = .returned (.float .f64 r) ∧ Below w.heap.size w w' := by
  have hu23 := Tryz.underlying23
  have HB := Aside0.mk (Below.refl w.heap.size w)
  have H : (if a0 < 0 then (clock_FromDos.j0 k a0 true) else (clock_FromDos.j0 k a0 (decide (a0 > 4294967295)))) = some r := h
  clear h
  have HC2 := Aside0.mk H
  clear H
  go_enter Tryz.func21, Tryz.ntmps21
  go_upto_region 1 with (fail)
  go_cut [10] (fun v10 wc => ∃ (kq : Nat) (x10_1 : Bool), v10 = .bool x10_1 ∧ Aside0 (clock_FromDos.j0 kq a0 x10_1 = some r) ∧ Aside0 (kq ≤ k) ∧ Aside0 (Below w.heap.size w wc))
  case first =>
    have H := HC2.out
    clear HC2
    by_cases c3 : a0 < 0
    · rw [if_pos c3] at H
      have c3b0 : decide (a0 < 0) = true := decide_eq_true c3
      clear c3
      (first | rw [c3b0] | (simp only [i64_w, i32_w]; rw [c3b0]) | rw [c3b1] | skip)
      (try rw [c3b7])
      have H' := Aside0.mk H
      clear H
      go_wp2
      go_meet
      case rel => exact ⟨_, (true), (by first | rfl | (simp; done) | (simp [*]; done)), H', ⟨by first | omega | exact Nat.le_refl _⟩, ⟨by repeat (first | (with_reducible first | exact HB.out | apply below_alloc | apply pw_below_drewN | apply below_drew1) | exact HB.out)⟩⟩
    · rw [if_neg c3] at H
      have c3b0 : decide (a0 < 0) = false := decide_eq_false c3
      clear c3
      (first | rw [c3b0] | (simp only [i64_w, i32_w]; rw [c3b0]) | rw [c3b1] | skip)
      (try rw [c3b7])
      have H' := Aside0.mk H
      clear H
      go_wp2
      go_meet
      case rel => exact ⟨_, (decide (a0 > 4294967295)), (by first | rfl | (simp; done) | (simp [*]; done)), H', ⟨by first | omega | exact Nat.le_refl _⟩, ⟨by repeat (first | (with_reducible first | exact HB.out | apply below_alloc | apply pw_below_drewN | apply below_drew1) | exact HB.out)⟩⟩
  case rest =>
    clear HC2
    try clear c2
    try clear p2
    try clear c3
    try clear c3b0
    obtain ⟨kq, x10_1, rfl, HA, HJ1, HB⟩ := hcut
    cases kq with
    | zero => exact absurd HA.out (by simp [clock_FromDos.j0])
    | succ kj1 =>
      have H := HA.out
      clear HA
      simp only [clock_FromDos.j0] at H
      by_cases c4 : x10_1 = true
      · subst c4
        have H1 : ((math_NaN.f).bind fun t101 => (some t101)) = some r := by rw [if_pos rfl] at H; exact H
        clear H
        have H := H1
        clear H1
        replace H := Option.bind_eq_some_iff.mp H
        obtain ⟨t101, A50, H⟩ := H
        replace H : (some t101) = some r := H
        have A5 := Aside0.mk A50
        clear A50
        obtain rfl := Option.some.inj H
        go_wp2_with (first | ((with_reducible refine gate_callee (f := 35) rfl ?_); refine goesL_ (some 11) rfl rfl Tryz.func35 (by kernel_rfl) rfl #[] rfl (by (try simp only [List.map_toArray, List.map_cons, List.map_nil]); first | done | rfl | (simp only [List.length_drop, List.length_take]; rfl)) ?_; (with_reducible refine (math_NaN.calls  t101 _ A5.out).mono ?_); rintro e w6 ⟨rfl, hb⟩; refine ⟨_, rfl, ?_⟩; have n0_ := Aside0.mk (below_step (by repeat (first | (with_reducible first | exact HB.out | apply below_alloc | apply pw_below_drewN | apply below_drew1) | exact HB.out)) hb); clear HB; have HB := n0_; clear n0_; (try clear hb); (try clear hb2); (try clear hk); (try clear hi)))
        go_ret
        exact ⟨by first | rfl | (simp only [show ∀ l : List UInt8, (l != []) = (!l.isEmpty) from fun l => by cases l <;> rfl]; rfl) | (simp [errW_none, errW_some] <;> rfl) | (simp [*, errW_none, errW_some] <;> rfl), by repeat (first | (with_reducible first | exact HB.out | apply below_alloc | apply pw_below_drewN | apply below_drew1) | exact HB.out)⟩
      · replace c4 := Bool.eq_false_iff.mpr c4
        subst c4
        have H1 : ((clock_Seconds.f kj1 (wrap64 (1980 + (a0 / 33554432))) (Go.bits .and .i64 (a0 / 2097152) 15) (Go.bits .and .i64 (a0 / 65536) 31) (Go.bits .and .i64 (a0 / 2048) 31) (Go.bits .and .i64 (a0 / 32) 63) (wrap64 ((Go.bits .and .i64 a0 31) * 2))).bind fun bt102 => (if bt102.2 = true then (some (floatOfInt .f64 bt102.1)) else ((math_NaN.f).bind fun t104 => (some t104)))) = some r := by rw [if_neg (show ¬ (false = true) by decide)] at H; exact H
        clear H
        have H := H1
        clear H1
        replace H := Option.bind_eq_some_iff.mp H
        obtain ⟨⟨t102, t103⟩, A70, H⟩ := H
        replace H : (if t103 = true then (some (floatOfInt .f64 t102)) else ((math_NaN.f).bind fun t104 => (some t104))) = some r := H
        have A7 := Aside0.mk A70
        clear A70
        by_cases c8 : t103 = true
        · subst c8
          have H1 : (some (floatOfInt .f64 t102)) = some r := by rw [if_pos rfl] at H; exact H
          clear H
          have H := H1
          clear H1
          obtain rfl := Option.some.inj H
          go_wp2_with (first | ((with_reducible refine gate_callee (f := 5) rfl ?_); refine goesL_ (some 32) rfl rfl Tryz.func5 (by kernel_rfl) rfl #[.agg #[.int .i64 (wrap64 (1980 + (a0 / 33554432))), .int .i64 (Go.bits .and .i64 (a0 / 2097152) 15), .int .i64 (Go.bits .and .i64 (a0 / 65536) 31), .int .i64 (Go.bits .and .i64 (a0 / 2048) 31), .int .i64 (Go.bits .and .i64 (a0 / 32) 63), .int .i64 (wrap64 ((Go.bits .and .i64 a0 31) * 2))]] rfl (by (try simp only [List.map_toArray, List.map_cons, List.map_nil]); first | done | rfl | (simp only [List.length_drop, List.length_take]; rfl)) ?_; (with_reducible refine (clock_Seconds.calls kj1 (wrap64 (1980 + (a0 / 33554432))) (Go.bits .and .i64 (a0 / 2097152) 15) (Go.bits .and .i64 (a0 / 65536) 31) (Go.bits .and .i64 (a0 / 2048) 31) (Go.bits .and .i64 (a0 / 32) 63) (wrap64 ((Go.bits .and .i64 a0 31) * 2)) t102 true _ A7.out).mono ?_); rintro e w9 ⟨rfl, hb⟩; refine ⟨_, rfl, ?_⟩; have n0_ := Aside0.mk (below_step (by repeat (first | (with_reducible first | exact HB.out | apply below_alloc | apply pw_below_drewN | apply below_drew1) | exact HB.out)) hb); clear HB; have HB := n0_; clear n0_; (try clear hb); (try clear hb2); (try clear hk); (try clear hi)))
          go_ret
          exact ⟨by first | rfl | (simp only [show ∀ l : List UInt8, (l != []) = (!l.isEmpty) from fun l => by cases l <;> rfl]; rfl) | (simp [errW_none, errW_some] <;> rfl) | (simp [*, errW_none, errW_some] <;> rfl), by repeat (first | (with_reducible first | exact HB.out | apply below_alloc | apply pw_below_drewN | apply below_drew1) | exact HB.out)⟩
        · replace c8 := Bool.eq_false_iff.mpr c8
          subst c8
          have H1 : ((math_NaN.f).bind fun t104 => (some t104)) = some r := by rw [if_neg (show ¬ (false = true) by decide)] at H; exact H
          clear H
          have H := H1
          clear H1
          replace H := Option.bind_eq_some_iff.mp H
          obtain ⟨t104, A100, H⟩ := H
          replace H : (some t104) = some r := H
          have A10 := Aside0.mk A100
          clear A100
          obtain rfl := Option.some.inj H
          go_wp2_with (first | ((with_reducible refine gate_callee (f := 5) rfl ?_); refine goesL_ (some 32) rfl rfl Tryz.func5 (by kernel_rfl) rfl #[.agg #[.int .i64 (wrap64 (1980 + (a0 / 33554432))), .int .i64 (Go.bits .and .i64 (a0 / 2097152) 15), .int .i64 (Go.bits .and .i64 (a0 / 65536) 31), .int .i64 (Go.bits .and .i64 (a0 / 2048) 31), .int .i64 (Go.bits .and .i64 (a0 / 32) 63), .int .i64 (wrap64 ((Go.bits .and .i64 a0 31) * 2))]] rfl (by (try simp only [List.map_toArray, List.map_cons, List.map_nil]); first | done | rfl | (simp only [List.length_drop, List.length_take]; rfl)) ?_; (with_reducible refine (clock_Seconds.calls kj1 (wrap64 (1980 + (a0 / 33554432))) (Go.bits .and .i64 (a0 / 2097152) 15) (Go.bits .and .i64 (a0 / 65536) 31) (Go.bits .and .i64 (a0 / 2048) 31) (Go.bits .and .i64 (a0 / 32) 63) (wrap64 ((Go.bits .and .i64 a0 31) * 2)) t102 false _ A7.out).mono ?_); rintro e w11 ⟨rfl, hb⟩; refine ⟨_, rfl, ?_⟩; have n0_ := Aside0.mk (below_step (by repeat (first | (with_reducible first | exact HB.out | apply below_alloc | apply pw_below_drewN | apply below_drew1) | exact HB.out)) hb); clear HB; have HB := n0_; clear n0_; (try clear hb); (try clear hb2); (try clear hk); (try clear hi)) | ((with_reducible refine gate_callee (f := 35) rfl ?_); refine goesL_ (some 37) rfl rfl Tryz.func35 (by kernel_rfl) rfl #[] rfl (by (try simp only [List.map_toArray, List.map_cons, List.map_nil]); first | done | rfl | (simp only [List.length_drop, List.length_take]; rfl)) ?_; (with_reducible refine (math_NaN.calls  t104 _ A10.out).mono ?_); rintro e w12 ⟨rfl, hb⟩; refine ⟨_, rfl, ?_⟩; have n0_ := Aside0.mk (below_step (by repeat (first | (with_reducible first | exact HB.out | apply below_alloc | apply pw_below_drewN | apply below_drew1) | exact HB.out)) hb); clear HB; have HB := n0_; clear n0_; (try clear hb); (try clear hb2); (try clear hk); (try clear hi)))
          go_ret
          exact ⟨by first | rfl | (simp only [show ∀ l : List UInt8, (l != []) = (!l.isEmpty) from fun l => by cases l <;> rfl]; rfl) | (simp [errW_none, errW_some] <;> rfl) | (simp [*, errW_none, errW_some] <;> rfl), by repeat (first | (with_reducible first | exact HB.out | apply below_alloc | apply pw_below_drewN | apply below_drew1) | exact HB.out)⟩

-- function 11 (stevedoreref4_Date): by hand

-- function 34 (stevedoreref4_whole): by hand

/-! ### stevedoreref4_Dos: function 20 -/
def stevedoreref4_Dos.f (k : Nat) (a0 : Nat) : Option (Int) := if (FloatKind.f64.format.order a0 a0 != some .eq) = true then (some 0) else (if (FloatKind.f64.format.order a0 4751360366145961984 == some .gt || FloatKind.f64.format.order a0 4751360366145961984 == some .eq) = true then ((stevedoreref4_Date.f k 4354819198).bind fun bt105 => (some (Go.bits .or .i64 (Go.bits .or .i64 (Go.bits .or .i64 (wrap64 ((Go.bits .or .i64 (Go.bits .or .i64 (wrap64 ((wrap64 (bt105.1 - 1980)) * 512)) (wrap64 (bt105.2.1 * 32))) bt105.2.2.1) * 65536)) (wrap64 (bt105.2.2.2.1 * 2048))) (wrap64 (bt105.2.2.2.2.1 * 32))) (wrap64 (Int.tdiv bt105.2.2.2.2.2 2))))) else (if (FloatKind.f64.format.order a0 4734073370679705600 == some .gt || FloatKind.f64.format.order a0 4734073370679705600 == some .eq) = true then ((stevedoreref4_whole.f a0).bind fun t112 => ((stevedoreref4_Date.f k t112).bind fun bt113 => (some (Go.bits .or .i64 (Go.bits .or .i64 (Go.bits .or .i64 (wrap64 ((Go.bits .or .i64 (Go.bits .or .i64 (wrap64 ((wrap64 (bt113.1 - 1980)) * 512)) (wrap64 (bt113.2.1 * 32))) bt113.2.2.1) * 65536)) (wrap64 (bt113.2.2.2.1 * 2048))) (wrap64 (bt113.2.2.2.2.1 * 32))) (wrap64 (Int.tdiv bt113.2.2.2.2.2 2)))))) else ((stevedoreref4_Date.f k 315532800).bind fun bt120 => (some (Go.bits .or .i64 (Go.bits .or .i64 (Go.bits .or .i64 (wrap64 ((Go.bits .or .i64 (Go.bits .or .i64 (wrap64 ((wrap64 (bt120.1 - 1980)) * 512)) (wrap64 (bt120.2.1 * 32))) bt120.2.2.1) * 65536)) (wrap64 (bt120.2.2.2.1 * 2048))) (wrap64 (bt120.2.2.2.2.1 * 32))) (wrap64 (Int.tdiv bt120.2.2.2.2.2 2)))))))
theorem stevedoreref4_Dos.mono : ∀ a0 k, LeO (stevedoreref4_Dos.f k a0) (stevedoreref4_Dos.f (k + 1) a0) := by
  intro a0 k
  unfold stevedoreref4_Dos.f
  repeat' first
      | (with_reducible exact stevedoreref4_Date.mono _ _)
      | (with_reducible exact LeO.refl _)
      | (with_reducible exact LeO.none _)
      | (with_reducible refine LeO.ite ?_ ?_)
      | (with_reducible refine LeO.bind ?_ (fun _ => ?_))
      | exact stevedoreref4_Date.mono _ _
      | exact LeO.none _
      | refine LeO.ite ?_ ?_
      | refine LeO.bind ?_ (fun _ => ?_)
set_option maxHeartbeats 8000000 in
set_option maxRecDepth 100000 in
theorem stevedoreref4_Dos.calls (k : Nat) (a0 : Nat) (r : Int) (w : World) (h : stevedoreref4_Dos.f k a0 = some r) :
    Calls Tryz.prog 20 #[.float .f64 a0] w fun e w' => e = .returned (.int .i64 r) ∧ Below w.heap.size w w' := by
  have hu23 := Tryz.underlying23
  have HB := Aside0.mk (Below.refl w.heap.size w)
  have H : (if (FloatKind.f64.format.order a0 a0 != some .eq) = true then (some 0) else (if (FloatKind.f64.format.order a0 4751360366145961984 == some .gt || FloatKind.f64.format.order a0 4751360366145961984 == some .eq) = true then ((stevedoreref4_Date.f k 4354819198).bind fun bt105 => (some (Go.bits .or .i64 (Go.bits .or .i64 (Go.bits .or .i64 (wrap64 ((Go.bits .or .i64 (Go.bits .or .i64 (wrap64 ((wrap64 (bt105.1 - 1980)) * 512)) (wrap64 (bt105.2.1 * 32))) bt105.2.2.1) * 65536)) (wrap64 (bt105.2.2.2.1 * 2048))) (wrap64 (bt105.2.2.2.2.1 * 32))) (wrap64 (Int.tdiv bt105.2.2.2.2.2 2))))) else (if (FloatKind.f64.format.order a0 4734073370679705600 == some .gt || FloatKind.f64.format.order a0 4734073370679705600 == some .eq) = true then ((stevedoreref4_whole.f a0).bind fun t112 => ((stevedoreref4_Date.f k t112).bind fun bt113 => (some (Go.bits .or .i64 (Go.bits .or .i64 (Go.bits .or .i64 (wrap64 ((Go.bits .or .i64 (Go.bits .or .i64 (wrap64 ((wrap64 (bt113.1 - 1980)) * 512)) (wrap64 (bt113.2.1 * 32))) bt113.2.2.1) * 65536)) (wrap64 (bt113.2.2.2.1 * 2048))) (wrap64 (bt113.2.2.2.2.1 * 32))) (wrap64 (Int.tdiv bt113.2.2.2.2.2 2)))))) else ((stevedoreref4_Date.f k 315532800).bind fun bt120 => (some (Go.bits .or .i64 (Go.bits .or .i64 (Go.bits .or .i64 (wrap64 ((Go.bits .or .i64 (Go.bits .or .i64 (wrap64 ((wrap64 (bt120.1 - 1980)) * 512)) (wrap64 (bt120.2.1 * 32))) bt120.2.2.1) * 65536)) (wrap64 (bt120.2.2.2.1 * 2048))) (wrap64 (bt120.2.2.2.2.1 * 32))) (wrap64 (Int.tdiv bt120.2.2.2.2.2 2)))))))) = some r := h
  clear h
  by_cases c2 : (FloatKind.f64.format.order a0 a0 != some .eq) = true
  · rw [if_pos c2] at H
    have c2b0 : (FloatKind.f64.format.order a0 a0 != some .eq) = true := c2
    (try (have c2b1 : decide (FloatKind.f64.format.order a0 a0 = some .eq) = false := by simpa using c2))
    (try (have c2b2 : (FloatKind.f64.format.order a0 a0 == some .eq) = false := by simpa using c2))
    (try (have c2b3 : ¬ (FloatKind.f64.format.order a0 a0 = some .eq) := by simpa using c2))
    clear c2
    obtain rfl := Option.some.inj H
    go_enter Tryz.func20, Tryz.ntmps20
    go_wp2
    go_ret
    exact ⟨by first | rfl | (simp only [show ∀ l : List UInt8, (l != []) = (!l.isEmpty) from fun l => by cases l <;> rfl]; rfl) | (simp [errW_none, errW_some] <;> rfl) | (simp [*, errW_none, errW_some] <;> rfl), by repeat (first | (with_reducible first | exact HB.out | apply below_alloc | apply pw_below_drewN | apply below_drew1) | exact HB.out)⟩
  · rw [if_neg c2] at H
    have c2b0 : (FloatKind.f64.format.order a0 a0 != some .eq) = false := by simpa using c2
    (try (have c2b1 : decide (FloatKind.f64.format.order a0 a0 = some .eq) = true := by simpa using c2))
    (try (have c2b2 : (FloatKind.f64.format.order a0 a0 == some .eq) = true := by simpa using c2))
    clear c2
    by_cases c3 : (FloatKind.f64.format.order a0 4751360366145961984 == some .gt || FloatKind.f64.format.order a0 4751360366145961984 == some .eq) = true
    · rw [if_pos c3] at H
      have c3b0 : (FloatKind.f64.format.order a0 4751360366145961984 == some .gt || FloatKind.f64.format.order a0 4751360366145961984 == some .eq) = true := c3
      have c3b7 : (!(FloatKind.f64.format.order a0 4751360366145961984 == some .gt) && !(FloatKind.f64.format.order a0 4751360366145961984 == some .eq)) = false := by rw [← Bool.not_or, c3b0]; rfl
      (try (have c3b1 : decide (FloatKind.f64.format.order a0 4751360366145961984 = some .gt || FloatKind.f64.format.order a0 4751360366145961984 == some .eq) = true := by simpa using c3))
      (try (have c3b2 : (FloatKind.f64.format.order a0 4751360366145961984 == some .gt || FloatKind.f64.format.order a0 4751360366145961984 == some .eq) = true := by simpa using c3))
      clear c3
      replace H := Option.bind_eq_some_iff.mp H
      obtain ⟨⟨t105, t106, t107, t108, t109, t110⟩, A40, H⟩ := H
      replace H : (some (Go.bits .or .i64 (Go.bits .or .i64 (Go.bits .or .i64 (wrap64 ((Go.bits .or .i64 (Go.bits .or .i64 (wrap64 ((wrap64 (t105 - 1980)) * 512)) (wrap64 (t106 * 32))) t107) * 65536)) (wrap64 (t108 * 2048))) (wrap64 (t109 * 32))) (wrap64 (Int.tdiv t110 2)))) = some r := H
      have A4 := Aside0.mk A40
      clear A40
      obtain rfl := Option.some.inj H
      go_enter Tryz.func20, Tryz.ntmps20
      go_wp2_with (first | ((with_reducible refine gate_callee (f := 11) rfl ?_); refine goesL_ (some 17) rfl rfl Tryz.func11 (by kernel_rfl) rfl #[.int .i64 4354819198] rfl (by (try simp only [List.map_toArray, List.map_cons, List.map_nil]); first | done | rfl | (simp only [List.length_drop, List.length_take]; rfl)) ?_; (with_reducible refine (stevedoreref4_Date.calls k 4354819198 t105 t106 t107 t108 t109 t110 _ A4.out).mono ?_); rintro e w5 ⟨rfl, hb⟩; refine ⟨_, rfl, ?_⟩; have n0_ := Aside0.mk (below_step (by repeat (first | (with_reducible first | exact HB.out | apply below_alloc | apply pw_below_drewN | apply below_drew1) | exact HB.out)) hb); clear HB; have HB := n0_; clear n0_; (try clear hb); (try clear hb2); (try clear hk); (try clear hi)) | ((with_reducible refine gate_dst (N := 4) rfl ?_); refine box_event ?hg (N := 4) ?hd (cs := #[.int .i64 0, .int .i64 0, .int .i64 0, .int .i64 0, .int .i64 0, .int .i64 0]) (t := 23) ?hr ?_; (case hd => rfl); (case hg => rfl); (case hr => first | (go_simp; done) | (go_simp; rfl)); intro gb111 hg w6 hbox hb; have n0_ := Aside0.mk (below_step (by repeat (first | (with_reducible first | exact HB.out | apply below_alloc | apply pw_below_drewN | apply below_drew1) | exact HB.out)) hb); have n1_ := Aside0.mk (hbox); have n2_ := Aside0.mk ((by rw [hg]; exact (below_size (by repeat (first | (with_reducible first | exact HB.out | apply below_alloc | apply pw_below_drewN | apply below_drew1) | exact HB.out))) : w.heap.size ≤ gb111)); have n3_ := Aside0.mk ((by rw [hg]; exact (below_size (by repeat (first | (with_reducible first | exact HB.out | apply below_alloc | apply pw_below_drewN | apply below_drew1) | exact HB.out))) : w.heap.size ≤ gb111)); clear HB; have HB := n0_; have BK111 := n1_; have GW111 := n2_; have GE111 := n3_; clear n0_ n1_ n2_ n3_; clear hb hbox hg; have hcz7_0 : w6.cell? ⟨gb111, 0, none⟩ = some (.int .i64 0) := (blk_cell BK111.out 0).trans rfl; have hcz7_1 : w6.cell? ⟨gb111, 1, none⟩ = some (.int .i64 0) := (blk_cell BK111.out 1).trans rfl; have hcz7_2 : w6.cell? ⟨gb111, 2, none⟩ = some (.int .i64 0) := (blk_cell BK111.out 2).trans rfl; have hcz7_3 : w6.cell? ⟨gb111, 3, none⟩ = some (.int .i64 0) := (blk_cell BK111.out 3).trans rfl; have hcz7_4 : w6.cell? ⟨gb111, 4, none⟩ = some (.int .i64 0) := (blk_cell BK111.out 4).trans rfl; have hcz7_5 : w6.cell? ⟨gb111, 5, none⟩ = some (.int .i64 0) := (blk_cell BK111.out 5).trans rfl; have hfz7_0 := blk_frozen BK111.out 0; have hfz7_1 := blk_frozen BK111.out 1; have hfz7_2 := blk_frozen BK111.out 2; have hfz7_3 := blk_frozen BK111.out 3; have hfz7_4 := blk_frozen BK111.out 4; have hfz7_5 := blk_frozen BK111.out 5))
      go_ret
      exact ⟨by first | rfl | (simp only [show ∀ l : List UInt8, (l != []) = (!l.isEmpty) from fun l => by cases l <;> rfl]; rfl) | (simp [errW_none, errW_some] <;> rfl) | (simp [*, errW_none, errW_some] <;> rfl), by repeat (first | (with_reducible first | exact HB.out | apply below_alloc | apply pw_below_drewN | apply below_drew1 | refine below_set ?_ GE111.out) | exact HB.out)⟩
    · rw [if_neg c3] at H
      have c3b0 : (FloatKind.f64.format.order a0 4751360366145961984 == some .gt || FloatKind.f64.format.order a0 4751360366145961984 == some .eq) = false := by simpa using c3
      have c3b7 : (!(FloatKind.f64.format.order a0 4751360366145961984 == some .gt) && !(FloatKind.f64.format.order a0 4751360366145961984 == some .eq)) = true := by rw [← Bool.not_or, c3b0]; rfl
      (try (have c3b1 : decide (FloatKind.f64.format.order a0 4751360366145961984 = some .gt || FloatKind.f64.format.order a0 4751360366145961984 == some .eq) = false := by simpa using c3))
      (try (have c3b2 : (FloatKind.f64.format.order a0 4751360366145961984 == some .gt || FloatKind.f64.format.order a0 4751360366145961984 == some .eq) = false := by simpa using c3))
      (try (have c3b3 : ¬ (FloatKind.f64.format.order a0 4751360366145961984 = some .gt || FloatKind.f64.format.order a0 4751360366145961984 == some .eq) := by simpa using c3))
      clear c3
      by_cases c8 : (FloatKind.f64.format.order a0 4734073370679705600 == some .gt || FloatKind.f64.format.order a0 4734073370679705600 == some .eq) = true
      · rw [if_pos c8] at H
        have c8b0 : (FloatKind.f64.format.order a0 4734073370679705600 == some .gt || FloatKind.f64.format.order a0 4734073370679705600 == some .eq) = true := c8
        have c8b7 : (!(FloatKind.f64.format.order a0 4734073370679705600 == some .gt) && !(FloatKind.f64.format.order a0 4734073370679705600 == some .eq)) = false := by rw [← Bool.not_or, c8b0]; rfl
        (try (have c8b1 : decide (FloatKind.f64.format.order a0 4734073370679705600 = some .gt || FloatKind.f64.format.order a0 4734073370679705600 == some .eq) = true := by simpa using c8))
        (try (have c8b2 : (FloatKind.f64.format.order a0 4734073370679705600 == some .gt || FloatKind.f64.format.order a0 4734073370679705600 == some .eq) = true := by simpa using c8))
        clear c8
        replace H := Option.bind_eq_some_iff.mp H
        obtain ⟨t112, A90, H⟩ := H
        replace H : ((stevedoreref4_Date.f k t112).bind fun bt113 => (some (Go.bits .or .i64 (Go.bits .or .i64 (Go.bits .or .i64 (wrap64 ((Go.bits .or .i64 (Go.bits .or .i64 (wrap64 ((wrap64 (bt113.1 - 1980)) * 512)) (wrap64 (bt113.2.1 * 32))) bt113.2.2.1) * 65536)) (wrap64 (bt113.2.2.2.1 * 2048))) (wrap64 (bt113.2.2.2.2.1 * 32))) (wrap64 (Int.tdiv bt113.2.2.2.2.2 2))))) = some r := H
        have A9 := Aside0.mk A90
        clear A90
        replace H := Option.bind_eq_some_iff.mp H
        obtain ⟨⟨t113, t114, t115, t116, t117, t118⟩, A100, H⟩ := H
        replace H : (some (Go.bits .or .i64 (Go.bits .or .i64 (Go.bits .or .i64 (wrap64 ((Go.bits .or .i64 (Go.bits .or .i64 (wrap64 ((wrap64 (t113 - 1980)) * 512)) (wrap64 (t114 * 32))) t115) * 65536)) (wrap64 (t116 * 2048))) (wrap64 (t117 * 32))) (wrap64 (Int.tdiv t118 2)))) = some r := H
        have A10 := Aside0.mk A100
        clear A100
        obtain rfl := Option.some.inj H
        go_enter Tryz.func20, Tryz.ntmps20
        go_wp2_with (first | ((with_reducible refine gate_callee (f := 34) rfl ?_); refine goesL_ (some 15) rfl rfl Tryz.func34 (by kernel_rfl) rfl #[.float .f64 a0] rfl (by (try simp only [List.map_toArray, List.map_cons, List.map_nil]); first | done | rfl | (simp only [List.length_drop, List.length_take]; rfl)) ?_; (with_reducible refine (stevedoreref4_whole.calls a0 t112 _ A9.out).mono ?_); rintro e w' ⟨rfl, ⟨nd, rfl⟩⟩; refine ⟨_, rfl, ?_⟩) | ((with_reducible refine gate_callee (f := 11) rfl ?_); refine goesL_ (some 17) rfl rfl Tryz.func11 (by kernel_rfl) rfl #[.int .i64 t112] rfl (by (try simp only [List.map_toArray, List.map_cons, List.map_nil]); first | done | rfl | (simp only [List.length_drop, List.length_take]; rfl)) ?_; (with_reducible refine (stevedoreref4_Date.calls k t112 t113 t114 t115 t116 t117 t118 _ A10.out).mono ?_); rintro e w11 ⟨rfl, hb⟩; refine ⟨_, rfl, ?_⟩; have n0_ := Aside0.mk (below_step (by repeat (first | (with_reducible first | exact HB.out | apply below_alloc | apply pw_below_drewN | apply below_drew1) | exact HB.out)) hb); clear HB; have HB := n0_; clear n0_; (try clear hb); (try clear hb2); (try clear hk); (try clear hi)) | ((with_reducible refine gate_dst (N := 4) rfl ?_); refine box_event ?hg (N := 4) ?hd (cs := #[.int .i64 0, .int .i64 0, .int .i64 0, .int .i64 0, .int .i64 0, .int .i64 0]) (t := 23) ?hr ?_; (case hd => rfl); (case hg => rfl); (case hr => first | (go_simp; done) | (go_simp; rfl)); intro gb119 hg w12 hbox hb; have n0_ := Aside0.mk (below_step (by repeat (first | (with_reducible first | exact HB.out | apply below_alloc | apply pw_below_drewN | apply below_drew1) | exact HB.out)) hb); have n1_ := Aside0.mk (hbox); have n2_ := Aside0.mk ((by rw [hg]; exact (below_size (by repeat (first | (with_reducible first | exact HB.out | apply below_alloc | apply pw_below_drewN | apply below_drew1) | exact HB.out))) : w.heap.size ≤ gb119)); have n3_ := Aside0.mk ((by rw [hg]; exact (below_size (by repeat (first | (with_reducible first | exact HB.out | apply below_alloc | apply pw_below_drewN | apply below_drew1) | exact HB.out))) : w.heap.size ≤ gb119)); clear HB; have HB := n0_; have BK119 := n1_; have GW119 := n2_; have GE119 := n3_; clear n0_ n1_ n2_ n3_; clear hb hbox hg; have hcz13_0 : w12.cell? ⟨gb119, 0, none⟩ = some (.int .i64 0) := (blk_cell BK119.out 0).trans rfl; have hcz13_1 : w12.cell? ⟨gb119, 1, none⟩ = some (.int .i64 0) := (blk_cell BK119.out 1).trans rfl; have hcz13_2 : w12.cell? ⟨gb119, 2, none⟩ = some (.int .i64 0) := (blk_cell BK119.out 2).trans rfl; have hcz13_3 : w12.cell? ⟨gb119, 3, none⟩ = some (.int .i64 0) := (blk_cell BK119.out 3).trans rfl; have hcz13_4 : w12.cell? ⟨gb119, 4, none⟩ = some (.int .i64 0) := (blk_cell BK119.out 4).trans rfl; have hcz13_5 : w12.cell? ⟨gb119, 5, none⟩ = some (.int .i64 0) := (blk_cell BK119.out 5).trans rfl; have hfz13_0 := blk_frozen BK119.out 0; have hfz13_1 := blk_frozen BK119.out 1; have hfz13_2 := blk_frozen BK119.out 2; have hfz13_3 := blk_frozen BK119.out 3; have hfz13_4 := blk_frozen BK119.out 4; have hfz13_5 := blk_frozen BK119.out 5))
        go_ret
        exact ⟨by first | rfl | (simp only [show ∀ l : List UInt8, (l != []) = (!l.isEmpty) from fun l => by cases l <;> rfl]; rfl) | (simp [errW_none, errW_some] <;> rfl) | (simp [*, errW_none, errW_some] <;> rfl), by repeat (first | (with_reducible first | exact HB.out | apply below_alloc | apply pw_below_drewN | apply below_drew1 | refine below_set ?_ GE119.out) | exact HB.out)⟩
      · rw [if_neg c8] at H
        have c8b0 : (FloatKind.f64.format.order a0 4734073370679705600 == some .gt || FloatKind.f64.format.order a0 4734073370679705600 == some .eq) = false := by simpa using c8
        have c8b7 : (!(FloatKind.f64.format.order a0 4734073370679705600 == some .gt) && !(FloatKind.f64.format.order a0 4734073370679705600 == some .eq)) = true := by rw [← Bool.not_or, c8b0]; rfl
        (try (have c8b1 : decide (FloatKind.f64.format.order a0 4734073370679705600 = some .gt || FloatKind.f64.format.order a0 4734073370679705600 == some .eq) = false := by simpa using c8))
        (try (have c8b2 : (FloatKind.f64.format.order a0 4734073370679705600 == some .gt || FloatKind.f64.format.order a0 4734073370679705600 == some .eq) = false := by simpa using c8))
        (try (have c8b3 : ¬ (FloatKind.f64.format.order a0 4734073370679705600 = some .gt || FloatKind.f64.format.order a0 4734073370679705600 == some .eq) := by simpa using c8))
        clear c8
        replace H := Option.bind_eq_some_iff.mp H
        obtain ⟨⟨t120, t121, t122, t123, t124, t125⟩, A140, H⟩ := H
        replace H : (some (Go.bits .or .i64 (Go.bits .or .i64 (Go.bits .or .i64 (wrap64 ((Go.bits .or .i64 (Go.bits .or .i64 (wrap64 ((wrap64 (t120 - 1980)) * 512)) (wrap64 (t121 * 32))) t122) * 65536)) (wrap64 (t123 * 2048))) (wrap64 (t124 * 32))) (wrap64 (Int.tdiv t125 2)))) = some r := H
        have A14 := Aside0.mk A140
        clear A140
        obtain rfl := Option.some.inj H
        go_enter Tryz.func20, Tryz.ntmps20
        go_wp2_with (first | ((with_reducible refine gate_callee (f := 11) rfl ?_); refine goesL_ (some 17) rfl rfl Tryz.func11 (by kernel_rfl) rfl #[.int .i64 315532800] rfl (by (try simp only [List.map_toArray, List.map_cons, List.map_nil]); first | done | rfl | (simp only [List.length_drop, List.length_take]; rfl)) ?_; (with_reducible refine (stevedoreref4_Date.calls k 315532800 t120 t121 t122 t123 t124 t125 _ A14.out).mono ?_); rintro e w15 ⟨rfl, hb⟩; refine ⟨_, rfl, ?_⟩; have n0_ := Aside0.mk (below_step (by repeat (first | (with_reducible first | exact HB.out | apply below_alloc | apply pw_below_drewN | apply below_drew1) | exact HB.out)) hb); clear HB; have HB := n0_; clear n0_; (try clear hb); (try clear hb2); (try clear hk); (try clear hi)) | ((with_reducible refine gate_dst (N := 4) rfl ?_); refine box_event ?hg (N := 4) ?hd (cs := #[.int .i64 0, .int .i64 0, .int .i64 0, .int .i64 0, .int .i64 0, .int .i64 0]) (t := 23) ?hr ?_; (case hd => rfl); (case hg => rfl); (case hr => first | (go_simp; done) | (go_simp; rfl)); intro gb126 hg w16 hbox hb; have n0_ := Aside0.mk (below_step (by repeat (first | (with_reducible first | exact HB.out | apply below_alloc | apply pw_below_drewN | apply below_drew1) | exact HB.out)) hb); have n1_ := Aside0.mk (hbox); have n2_ := Aside0.mk ((by rw [hg]; exact (below_size (by repeat (first | (with_reducible first | exact HB.out | apply below_alloc | apply pw_below_drewN | apply below_drew1) | exact HB.out))) : w.heap.size ≤ gb126)); have n3_ := Aside0.mk ((by rw [hg]; exact (below_size (by repeat (first | (with_reducible first | exact HB.out | apply below_alloc | apply pw_below_drewN | apply below_drew1) | exact HB.out))) : w.heap.size ≤ gb126)); clear HB; have HB := n0_; have BK126 := n1_; have GW126 := n2_; have GE126 := n3_; clear n0_ n1_ n2_ n3_; clear hb hbox hg; have hcz17_0 : w16.cell? ⟨gb126, 0, none⟩ = some (.int .i64 0) := (blk_cell BK126.out 0).trans rfl; have hcz17_1 : w16.cell? ⟨gb126, 1, none⟩ = some (.int .i64 0) := (blk_cell BK126.out 1).trans rfl; have hcz17_2 : w16.cell? ⟨gb126, 2, none⟩ = some (.int .i64 0) := (blk_cell BK126.out 2).trans rfl; have hcz17_3 : w16.cell? ⟨gb126, 3, none⟩ = some (.int .i64 0) := (blk_cell BK126.out 3).trans rfl; have hcz17_4 : w16.cell? ⟨gb126, 4, none⟩ = some (.int .i64 0) := (blk_cell BK126.out 4).trans rfl; have hcz17_5 : w16.cell? ⟨gb126, 5, none⟩ = some (.int .i64 0) := (blk_cell BK126.out 5).trans rfl; have hfz17_0 := blk_frozen BK126.out 0; have hfz17_1 := blk_frozen BK126.out 1; have hfz17_2 := blk_frozen BK126.out 2; have hfz17_3 := blk_frozen BK126.out 3; have hfz17_4 := blk_frozen BK126.out 4; have hfz17_5 := blk_frozen BK126.out 5))
        go_ret
        exact ⟨by first | rfl | (simp only [show ∀ l : List UInt8, (l != []) = (!l.isEmpty) from fun l => by cases l <;> rfl]; rfl) | (simp [errW_none, errW_some] <;> rfl) | (simp [*, errW_none, errW_some] <;> rfl), by repeat (first | (with_reducible first | exact HB.out | apply below_alloc | apply pw_below_drewN | apply below_drew1 | refine below_set ?_ GE126.out) | exact HB.out)⟩

end Go.Proofs.YtfmfikodnpnblaaGreatDoor.PClkE

-- Written by this repo's gprint.py over the kit's printer, out of the translation. Not trusted: Lean checks it.
import Derived.Test.YtfmfikodnpnblaaDoorWGuard
import Derived.Test.YtfmfikodnpnblaaDoorPRateEdgesx0
import Derived.Test.YtfmfikodnpnblaaDoorRateNanS
import Derived.Test.YtfmfikodnpnblaaDoorAppendKeep
namespace Go.Proofs.YtfmfikodnpnblaaDoor.PRateEdges
open Go.RowKit Go.Proofs.YtfmfikodnpnblaaDoorW.PrintWords Go.Proofs.YtfmfikodnpnblaaDoorW.PrintLast Go.Proofs.YtfmfikodnpnblaaDoorW.PrintMore Go.Proofs.YtfmfikodnpnblaaDoor
attribute [local go_sem] max2_int min2_int max_two min_two max_three min_three max_four min_four   -- for this text's walks alone
open Go.Proofs.YtfmfikodnpnblaaDoor.PRate1 Go.Proofs.YtfmfikodnpnblaaDoor.RateNan Go.Proofs.YtfmfikodnpnblaaDoor.RateTold
attribute [local go_sem] fop_run fint_run fofint_run
set_option linter.unusedVariables false
set_option linter.unusedSimpArgs false

-- function 15 (stevedorelaw36_told): by hand

-- function 19 (rate_Bits): by hand

-- function 20 (stevedoreref4_None): by hand

-- function 21 (rate_Ratio): by hand

-- function 22 (rate_Mean): by hand

-- function 23 (rate_Spread): by hand

/-! ### stevedorelaw36_RateEdges: function 6 -/
mutual
def stevedorelaw36_RateEdges.l0 : Nat → Int → Int → Nat → Int → List Nat → List Nat → Int → Option (Bool)
  | 0, _, _, _, _, _, _, _ => none
  | k + 1, x2, x3, x9, x10, x11, x12, x13 => if x13 < x10 then (if x11.length < 17592186044416 then ((stevedoreref4_None.f).bind fun t104 => ((RateNan.rate_Ratio.f 1 0).bind fun t105 => ((RateNan.rate_Ratio.f (-1) 0).bind fun t106 => ((some (([t104, t105, t106] : List Nat) : List Nat)).bind fun y107 => (if x12.length + y107.length < 17592186044416 then (stevedorelaw36_RateEdges.l0 k x2 x3 x9 x10 (x11 ++ [x9]) (x12 ++ y107) (wrap64 (x13 + 1))) else (none)))))) else (none)) else ((rate_Mean.f k x12).bind fun t113 => ((rate_Spread.f k x12).bind fun t114 => (if (FloatKind.f64.format.order t113 t113 == some .eq) = true then (stevedorelaw36_RateEdges.j1 k x2 x3 true) else (if (FloatKind.f64.format.order t114 t114 == some .eq) = true then (stevedorelaw36_RateEdges.j1 k x2 x3 true) else (if x12.length + x11.length < 17592186044416 then ((rate_Mean.f k (x12 ++ x11)).bind fun t118 => (if (FloatKind.f64.format.order t118 x9 != some .eq) = true then (stevedorelaw36_RateEdges.j1 k x2 x3 true) else (if x11.length + x12.length < 17592186044416 then ((rate_Spread.f k (x11 ++ x12)).bind fun t122 => (stevedorelaw36_RateEdges.j1 k x2 x3 (FloatKind.f64.format.order t122 0 != some .eq))) else (none)))) else (none))))))
def stevedorelaw36_RateEdges.j1 : Nat → Int → Int → Bool → Option (Bool)
  | 0, _, _, _ => none
  | k + 1, x2, x3, x65 => if x65 = true then (some false) else ((RateNan.rate_Ratio.f 0 0).bind fun t123 => ((stevedorelaw36_told.f).bind fun t124 => (if t124 = true then (if (FloatKind.f64.format.order t123 t123 != some .eq) = true then ((RateNan.rate_Ratio.f (wrap64 (1 + (Go.bits .and .i64 x2 1099511627775))) 0).bind fun t125 => (if (FloatKind.f64.format.order t125 9094988921128908188 == some .gt) = true then ((RateNan.rate_Ratio.f (wrap64 (-(wrap64 (1 + (Go.bits .and .i64 x2 1099511627775))))) 0).bind fun t126 => (if (FloatKind.f64.format.order t126 18318360957983683996 == some .lt) = true then ((RateNan.rate_Ratio.f 0 (wrap64 (1 + (Go.bits .and .i64 x2 1099511627775)))).bind fun t127 => (if (FloatKind.f64.format.order t127 0 == some .eq) = true then ((RateNan.rate_Ratio.f (wrap64 (1 + (Go.bits .and .i64 x2 1099511627775))) (wrap64 (1 + (Go.bits .and .i64 x2 1099511627775)))).bind fun t128 => (if (FloatKind.f64.format.order t128 4607182418800017408 == some .eq) = true then ((rate_Bits.f k (([0, wrap64 (1 + (Go.bits .and .i64 x3 1023)), 0] : List Int))).bind fun t132 => (if (FloatKind.f64.format.order t132 0 == some .eq) = true then ((rate_Bits.f k (([Go.bits .and .i64 x3 1023, Go.bits .and .i64 x3 1023, Go.bits .and .i64 x3 1023, Go.bits .and .i64 x3 1023, 1, 1, 1, 1] : List Int))).bind fun t136 => (some (FloatKind.f64.format.order t136 0 == some .gt || FloatKind.f64.format.order t136 0 == some .eq))) else (some false))) else (some false))) else (some false))) else (some false))) else (some false))) else (some false)) else (some false))))
end
def stevedorelaw36_RateEdges.f (k : Nat) (a0 : Int) (a1 : Int) (a2 : Int) (a3 : Int) : Option (Bool) := stevedorelaw36_RateEdges.l0 k a2 a3 (floatOfInt .f64 (Go.bits .and .i64 a0 1099511627775)) (wrap64 (1 + (Go.bits .and .i64 a1 31))) ([] : List Nat) ([] : List Nat) 0
theorem stevedorelaw36_RateEdges.mono_l : ∀ k, (∀ y0 y1 y2 y3 y4 y5 y6, LeO (stevedorelaw36_RateEdges.l0 k y0 y1 y2 y3 y4 y5 y6) (stevedorelaw36_RateEdges.l0 (k + 1) y0 y1 y2 y3 y4 y5 y6)) ∧ (∀ y0 y1 y2, LeO (stevedorelaw36_RateEdges.j1 k y0 y1 y2) (stevedorelaw36_RateEdges.j1 (k + 1) y0 y1 y2))
  | 0 => ⟨fun _ _ _ _ _ _ _ r h => by simp [stevedorelaw36_RateEdges.l0] at h, fun _ _ _ r h => by simp [stevedorelaw36_RateEdges.j1] at h⟩
  | k + 1 => by
    obtain ⟨ih0, ih1⟩ := stevedorelaw36_RateEdges.mono_l k
    refine ⟨?_, ?_⟩
    · intro y0 y1 y2 y3 y4 y5 y6
      unfold stevedorelaw36_RateEdges.l0
      repeat' first
      | (with_reducible exact ih0 _ _ _ _ _ _ _)
      | (with_reducible exact ih1 _ _ _)
      | (with_reducible exact rate_Bits.mono _ _)
      | (with_reducible exact rate_Mean.mono _ _)
      | (with_reducible exact rate_Spread.mono _ _)
      | (with_reducible exact LeO.refl _)
      | (with_reducible exact LeO.none _)
      | (with_reducible refine LeO.ite ?_ ?_)
      | (with_reducible refine LeO.bind ?_ (fun _ => ?_))
      | exact ih0 _ _ _ _ _ _ _
      | exact ih1 _ _ _
      | exact rate_Bits.mono _ _
      | exact rate_Mean.mono _ _
      | exact rate_Spread.mono _ _
      | exact LeO.none _
      | refine LeO.ite ?_ ?_
      | refine LeO.bind ?_ (fun _ => ?_)
    · intro y0 y1 y2
      unfold stevedorelaw36_RateEdges.j1
      repeat' first
      | (with_reducible exact ih0 _ _ _ _ _ _ _)
      | (with_reducible exact ih1 _ _ _)
      | (with_reducible exact rate_Bits.mono _ _)
      | (with_reducible exact rate_Mean.mono _ _)
      | (with_reducible exact rate_Spread.mono _ _)
      | (with_reducible exact LeO.refl _)
      | (with_reducible exact LeO.none _)
      | (with_reducible refine LeO.ite ?_ ?_)
      | (with_reducible refine LeO.bind ?_ (fun _ => ?_))
      | exact ih0 _ _ _ _ _ _ _
      | exact ih1 _ _ _
      | exact rate_Bits.mono _ _
      | exact rate_Mean.mono _ _
      | exact rate_Spread.mono _ _
      | exact LeO.none _
      | refine LeO.ite ?_ ?_
      | refine LeO.bind ?_ (fun _ => ?_)
theorem stevedorelaw36_RateEdges.mono : ∀ a0 a1 a2 a3 k, LeO (stevedorelaw36_RateEdges.f k a0 a1 a2 a3) (stevedorelaw36_RateEdges.f (k + 1) a0 a1 a2 a3) := by
  intro a0 a1 a2 a3 k
  obtain ⟨ih0, ih1⟩ := stevedorelaw36_RateEdges.mono_l k
  unfold stevedorelaw36_RateEdges.f
  repeat' first
      | (with_reducible exact ih0 _ _ _ _ _ _ _)
      | (with_reducible exact ih1 _ _ _)
      | (with_reducible exact rate_Bits.mono _ _)
      | (with_reducible exact rate_Mean.mono _ _)
      | (with_reducible exact rate_Spread.mono _ _)
      | (with_reducible exact LeO.refl _)
      | (with_reducible exact LeO.none _)
      | (with_reducible refine LeO.ite ?_ ?_)
      | (with_reducible refine LeO.bind ?_ (fun _ => ?_))
      | exact ih0 _ _ _ _ _ _ _
      | exact ih1 _ _ _
      | exact rate_Bits.mono _ _
      | exact rate_Mean.mono _ _
      | exact rate_Spread.mono _ _
      | exact LeO.none _
      | refine LeO.ite ?_ ?_
      | refine LeO.bind ?_ (fun _ => ?_)
set_option maxHeartbeats 8000000 in
set_option maxRecDepth 100000 in
theorem stevedorelaw36_RateEdges.calls (k : Nat) (a0 : Int) (a1 : Int) (a2 : Int) (a3 : Int) (r : Bool) (w : World) (h : stevedorelaw36_RateEdges.f k a0 a1 a2 a3 = some r) (hv : Go.Proofs.YtfmfikodnpnblaaDoor.ClkLib.Vars w) (htrue : r = true) :
    Calls Tryd.prog 6 #[.int .i64 a0, .int .i64 a1, .int .i64 a2, .int .i64 a3] w fun e w' => e = .returned (.bool r) ∧ Below w.heap.size w w' := by
  have HVARS := Aside0.mk hv
  have HB := Aside0.mk (Below.refl w.heap.size w)
  have H : (stevedorelaw36_RateEdges.l0 k a2 a3 (floatOfInt .f64 (Go.bits .and .i64 a0 1099511627775)) (wrap64 (1 + (Go.bits .and .i64 a1 31))) ([] : List Nat) ([] : List Nat) 0) = some r := h
  clear h
  have H' := Aside0.mk H
  clear H
  go_enter Tryd.func6, Tryd.ntmps6
  go_wp2
  go_loopg [11, 12, 13] k (fun kq v11 v12 v13 w' => ∃ (x11_1 : List Nat) (x12_1 : List Nat) (x13_1 : Int), v13 = .int .i64 x13_1 ∧ Aside0 (stevedorelaw36_RateEdges.l0 kq a2 a3 (floatOfInt .f64 (Go.bits .and .i64 a0 1099511627775)) (wrap64 (1 + (Go.bits .and .i64 a1 31))) x11_1 x12_1 x13_1 = some r) ∧ Aside0 (kq ≤ k) ∧ Aside0 (Kd.R RateNanS.floatS 27 w' w.heap.size (fun k_ => some k_ ≠ (v12 : Value).ownBlock) v11 x11_1) ∧ Aside0 (Kd.R RateNanS.floatS 27 w' w.heap.size (fun k_ => some k_ ≠ (v11 : Value).ownBlock) v12 x12_1) ∧ Aside0 (Below w.heap.size w w'))
  case atStart => exact ⟨(([] : List Nat)), (([] : List Nat)), (0), (by first | rfl | (simp; done) | (simp [*]; done)), H', ⟨Nat.le_refl _⟩, ⟨by first | exact Kd.R_nil _ _ _ _ _ | exact Kd.N_nil _ _ _ _ _ | exact Kd.V_nil _ _ _ _ _ | exact Kd.Q_nil _ _ _ _ _ | exact Kd.S_nil _ _ _ _ _⟩, ⟨by first | exact Kd.R_nil _ _ _ _ _ | exact Kd.N_nil _ _ _ _ _ | exact Kd.V_nil _ _ _ _ _ | exact Kd.Q_nil _ _ _ _ _ | exact Kd.S_nil _ _ _ _ _⟩, ⟨by repeat (first | (with_reducible first | exact HB.out | apply below_alloc | apply pw_below_drewN | apply below_drew1) | exact HB.out)⟩⟩
  case round =>
    clear H'
    try clear p2
    obtain ⟨x11_1, x12_1, x13_1, rfl, HA, HK1, HO_11, HO_12, HB⟩ := hrel
    cases gk with
    | zero => exact absurd HA.out (by simp [stevedorelaw36_RateEdges.l0])
    | succ k1 =>
      have H := HA.out
      clear HA
      simp only [stevedorelaw36_RateEdges.l0] at H
      by_cases c5 : x13_1 < (wrap64 (1 + (Go.bits .and .i64 a1 31)))
      · rw [if_pos c5] at H
        have c5b0 : decide (x13_1 < (wrap64 (1 + (Go.bits .and .i64 a1 31)))) = true := decide_eq_true c5
        clear c5
        by_cases c6 : x11_1.length < 17592186044416
        · rw [if_pos c6] at H
          have LMc6 := Aside0.mk c6
          clear c6
          obtain ⟨y101, hy101⟩ : ∃ y_ : List Nat, y_ = (x11_1 ++ [(floatOfInt .f64 (Go.bits .and .i64 a0 1099511627775))]) := ⟨_, rfl⟩
          replace H : ((stevedoreref4_None.f).bind fun t104 => ((RateNan.rate_Ratio.f 1 0).bind fun t105 => ((RateNan.rate_Ratio.f (-1) 0).bind fun t106 => ((some (([t104, t105, t106] : List Nat) : List Nat)).bind fun y107 => (if x12_1.length + y107.length < 17592186044416 then (stevedorelaw36_RateEdges.l0 k1 a2 a3 (floatOfInt .f64 (Go.bits .and .i64 a0 1099511627775)) (wrap64 (1 + (Go.bits .and .i64 a1 31))) y101 (x12_1 ++ y107) (wrap64 (x13_1 + 1))) else (none)))))) = some r := by first | (rw [hy101]; with_reducible exact H) | (have H2_ := (Option.bind_some _ _).symm.trans H; rw [hy101]; with_reducible exact H2_) | (have H2_ := (Option.bind_some _ _).symm.trans H; with_reducible exact H2_) | with_reducible exact H | (rw [hy101]; exact H) | exact H
          have Ny101 := Aside0.mk hy101
          clear hy101
          replace H := Option.bind_eq_some_iff.mp H
          obtain ⟨t104, A70, H⟩ := H
          replace H : ((RateNan.rate_Ratio.f 1 0).bind fun t105 => ((RateNan.rate_Ratio.f (-1) 0).bind fun t106 => ((some (([t104, t105, t106] : List Nat) : List Nat)).bind fun y107 => (if x12_1.length + y107.length < 17592186044416 then (stevedorelaw36_RateEdges.l0 k1 a2 a3 (floatOfInt .f64 (Go.bits .and .i64 a0 1099511627775)) (wrap64 (1 + (Go.bits .and .i64 a1 31))) y101 (x12_1 ++ y107) (wrap64 (x13_1 + 1))) else (none))))) = some r := H
          have A7 := Aside0.mk A70
          clear A70
          replace H := Option.bind_eq_some_iff.mp H
          obtain ⟨t105, A80, H⟩ := H
          replace H : ((RateNan.rate_Ratio.f (-1) 0).bind fun t106 => ((some (([t104, t105, t106] : List Nat) : List Nat)).bind fun y107 => (if x12_1.length + y107.length < 17592186044416 then (stevedorelaw36_RateEdges.l0 k1 a2 a3 (floatOfInt .f64 (Go.bits .and .i64 a0 1099511627775)) (wrap64 (1 + (Go.bits .and .i64 a1 31))) y101 (x12_1 ++ y107) (wrap64 (x13_1 + 1))) else (none)))) = some r := H
          have A8 := Aside0.mk A80
          clear A80
          replace H := Option.bind_eq_some_iff.mp H
          obtain ⟨t106, A90, H⟩ := H
          replace H : ((some (([t104, t105, t106] : List Nat) : List Nat)).bind fun y107 => (if x12_1.length + y107.length < 17592186044416 then (stevedorelaw36_RateEdges.l0 k1 a2 a3 (floatOfInt .f64 (Go.bits .and .i64 a0 1099511627775)) (wrap64 (1 + (Go.bits .and .i64 a1 31))) y101 (x12_1 ++ y107) (wrap64 (x13_1 + 1))) else (none))) = some r := H
          have A9 := Aside0.mk A90
          clear A90
          obtain ⟨y107, hy107⟩ : ∃ y_ : List Nat, y_ = (([t104, t105, t106] : List Nat)) := ⟨_, rfl⟩
          replace H : (if x12_1.length + y107.length < 17592186044416 then (stevedorelaw36_RateEdges.l0 k1 a2 a3 (floatOfInt .f64 (Go.bits .and .i64 a0 1099511627775)) (wrap64 (1 + (Go.bits .and .i64 a1 31))) y101 (x12_1 ++ y107) (wrap64 (x13_1 + 1))) else (none)) = some r := by first | (rw [hy107]; with_reducible exact H) | (have H2_ := (Option.bind_some _ _).symm.trans H; rw [hy107]; with_reducible exact H2_) | (have H2_ := (Option.bind_some _ _).symm.trans H; with_reducible exact H2_) | with_reducible exact H | (rw [hy107]; exact H) | exact H
          have Ny107 := Aside0.mk hy107
          clear hy107
          by_cases c10 : x12_1.length + y107.length < 17592186044416
          · rw [if_pos c10] at H
            have LMc10 := Aside0.mk c10
            clear c10
            obtain ⟨y110, hy110⟩ : ∃ y_ : List Nat, y_ = (x12_1 ++ y107) := ⟨_, rfl⟩
            replace H : (stevedorelaw36_RateEdges.l0 k1 a2 a3 (floatOfInt .f64 (Go.bits .and .i64 a0 1099511627775)) (wrap64 (1 + (Go.bits .and .i64 a1 31))) y101 y110 (wrap64 (x13_1 + 1))) = some r := by first | (rw [hy110]; with_reducible exact H) | (have H2_ := (Option.bind_some _ _).symm.trans H; rw [hy110]; with_reducible exact H2_) | (have H2_ := (Option.bind_some _ _).symm.trans H; with_reducible exact H2_) | with_reducible exact H | (rw [hy110]; exact H) | exact H
            have Ny110 := Aside0.mk hy110
            clear hy110
            have H' := Aside0.mk H
            clear H
            go_wp2_with (first | ((with_reducible refine gate_builtin (b := .append) (xs := #[.tmp 29, .tmp 31]) rfl ?_); (try (refine gate_guard (by rfl) ?_; dsimp only)); at_builtin; refine Kd.R_append RateNanS.floatS (w0 := w) w.heap.size rfl (.tmp 29) (.tmp 31) 22 27 (.float .f64 0) 8 rfl Tryd.underlying22 info27 rfl (by decide) (by omega) u11 x11_1 (floatOfInt .f64 (Go.bits .and .i64 a0 1099511627775)) [.float .f64 (floatOfInt .f64 (Go.bits .and .i64 a0 1099511627775))] (fun k_ => some k_ ≠ (u12 : Value).ownBlock) (fun _ => False) rfl rfl ?aP (fun _ hk => hk.elim) ?aF ?aO ?aB ?aS ?aL ?_; (case aP => exact ⟨_, rfl, RateNan.Sm.refl _⟩); (case aB => exact (by repeat (first | (with_reducible first | exact HB.out | apply below_alloc | apply pw_below_drewN | apply below_drew1) | exact HB.out))); (case aF => exact (fun k_ hk => Kd.fresh' (Kd.R_lt (by (with_reducible repeat (first | apply Kd.R_alloc | apply Kd.R_drewN | apply Kd.R_drew)); exact HO_12.out)) k_ hk)); (case aO => exact (by (with_reducible repeat (first | apply Kd.R_alloc | apply Kd.R_drewN | apply Kd.R_drew)); exact HO_11.out)); (case aS => exact (below_size (by repeat (first | (with_reducible first | exact HB.out | apply below_alloc | apply pw_below_drewN | apply below_drew1) | exact HB.out)))); (case aL => have := LMc6.out; omega); intro v102 w11 ho hb hg hat; rw [← Ny101.out] at ho; have n0_ := Aside0.mk (Kd.R_after (ok := (fun _ => True)) (by (with_reducible repeat (first | apply Kd.R_alloc | apply Kd.R_drewN | apply Kd.R_drew)); exact Kd.R_mono HO_12.out (fun _ hk => ⟨trivial, hk⟩)) hg hat); have n1_ := Aside0.mk (hb); have n2_ := Aside0.mk (ho); clear HO_12; clear HB; clear HO_11; have HO_12 := n0_; have HB := n1_; have HO103 := n2_; clear n0_ n1_ n2_; clear ho hb hg hat) | ((with_reducible refine gate_callee (f := 20) rfl ?_); refine goesL_ (some 34) rfl rfl Tryd.func20 (by kernel_rfl) rfl #[] rfl (by (try simp only [List.map_toArray, List.map_cons, List.map_nil]); first | done | rfl | (simp only [List.length_drop, List.length_take]; rfl)) ?_; (with_reducible refine (stevedoreref4_None.calls  t104 _ A7.out).mono ?_); rintro e w12 ⟨qt104, rfl, hst104, hb⟩; have St104 := Aside0.mk hst104; clear hst104; refine ⟨_, rfl, ?_⟩; have n0_ := Aside0.mk (Kd.R_below (by (with_reducible repeat (first | apply Kd.R_alloc | apply Kd.R_drewN | apply Kd.R_drew)); exact HO_12.out) hb); have n1_ := Aside0.mk (Kd.R_below (by (with_reducible repeat (first | apply Kd.R_alloc | apply Kd.R_drewN | apply Kd.R_drew)); exact HO103.out) hb); have n2_ := Aside0.mk (below_step (by repeat (first | (with_reducible first | exact HB.out | apply below_alloc | apply pw_below_drewN | apply below_drew1) | exact HB.out)) hb); clear HO_12; clear HO103; clear HB; have HO_12 := n0_; have HO103 := n1_; have HB := n2_; clear n0_ n1_ n2_; (try clear hb); (try clear hb2); (try clear hk); (try clear hi)) | ((with_reducible refine gate_callee (f := 21) rfl ?_); refine goesL_ (some 35) rfl rfl Tryd.func21 (by kernel_rfl) rfl #[.int .i64 1, .int .i64 0] rfl (by (try simp only [List.map_toArray, List.map_cons, List.map_nil]); first | done | rfl | (simp only [List.length_drop, List.length_take]; rfl)) ?_; (with_reducible refine (RateNan.rate_Ratio.calls 1 0 t105 _ A8.out).mono ?_); rintro e w13 ⟨qt105, rfl, hst105, hb⟩; have St105 := Aside0.mk hst105; clear hst105; refine ⟨_, rfl, ?_⟩; have n0_ := Aside0.mk (Kd.R_below (by (with_reducible repeat (first | apply Kd.R_alloc | apply Kd.R_drewN | apply Kd.R_drew)); exact HO_12.out) hb); have n1_ := Aside0.mk (Kd.R_below (by (with_reducible repeat (first | apply Kd.R_alloc | apply Kd.R_drewN | apply Kd.R_drew)); exact HO103.out) hb); have n2_ := Aside0.mk (below_step (by repeat (first | (with_reducible first | exact HB.out | apply below_alloc | apply pw_below_drewN | apply below_drew1) | exact HB.out)) hb); clear HO_12; clear HO103; clear HB; have HO_12 := n0_; have HO103 := n1_; have HB := n2_; clear n0_ n1_ n2_; (try clear hb); (try clear hb2); (try clear hk); (try clear hi)) | ((with_reducible refine gate_callee (f := 21) rfl ?_); refine goesL_ (some 36) rfl rfl Tryd.func21 (by kernel_rfl) rfl #[.int .i64 (-1), .int .i64 0] rfl (by (try simp only [List.map_toArray, List.map_cons, List.map_nil]); first | done | rfl | (simp only [List.length_drop, List.length_take]; rfl)) ?_; (with_reducible refine (RateNan.rate_Ratio.calls (-1) 0 t106 _ A9.out).mono ?_); rintro e w14 ⟨qt106, rfl, hst106, hb⟩; have St106 := Aside0.mk hst106; clear hst106; refine ⟨_, rfl, ?_⟩; have n0_ := Aside0.mk (Kd.R_below (by (with_reducible repeat (first | apply Kd.R_alloc | apply Kd.R_drewN | apply Kd.R_drew)); exact HO_12.out) hb); have n1_ := Aside0.mk (Kd.R_below (by (with_reducible repeat (first | apply Kd.R_alloc | apply Kd.R_drewN | apply Kd.R_drew)); exact HO103.out) hb); have n2_ := Aside0.mk (below_step (by repeat (first | (with_reducible first | exact HB.out | apply below_alloc | apply pw_below_drewN | apply below_drew1) | exact HB.out)) hb); clear HO_12; clear HO103; clear HB; have HO_12 := n0_; have HO103 := n1_; have HB := n2_; clear n0_ n1_ n2_; (try clear hb); (try clear hb2); (try clear hk); (try clear hi)) | ((with_reducible refine gate_dst (N := 37) rfl ?_); (try (refine gate_guard (by rfl) ?_; dsimp only)); refine Kd.R_lit RateNanS.floatS _ 27 ?hg (N := 37) ?hd (xs := ([t104, t105, t106] : List Nat)) (inner := [.float .f64 qt104, .float .f64 qt105, .float .f64 qt106]) (ok := fun _ => True) (okp := fun _ => True) ?hr ?hp (fun _ hk => hk) trivial (Below.refl _ _) (Nat.le_refl _) (by simp) ?_; (case hd => rfl); (case hg => rfl); (case hr => first | (go_simp; done) | (go_simp; rfl)); (case hp => exact (Reps.one (show Kd.M RateNanS.floatS _ _ _ t104 [.float .f64 qt104] from ⟨_, rfl, St104.out⟩) (Reps.one (show Kd.M RateNanS.floatS _ _ _ t105 [.float .f64 qt105] from ⟨_, rfl, St105.out⟩) (Reps.one (show Kd.M RateNanS.floatS _ _ _ t106 [.float .f64 qt106] from ⟨_, rfl, St106.out⟩) (Reps.none _ _))))); intro v108 w15 ho16 hb hg_ hnew_; clear hg_ hnew_; (first | rw [← Ny107.out] at ho16 | (simp only [Int.reduceToNat] at ho16; rw [← Ny107.out] at ho16)); have n0_ := Aside0.mk (Kd.R_elder' (by (with_reducible repeat (first | apply Kd.R_alloc | apply Kd.R_drewN | apply Kd.R_drew)); exact HO_12.out) (Kd.R_base ho16) hb); have n1_ := Aside0.mk (Kd.R_elder' (by (with_reducible repeat (first | apply Kd.R_alloc | apply Kd.R_drewN | apply Kd.R_drew)); exact HO103.out) (Kd.R_base ho16) hb); have n2_ := Aside0.mk (Kd.R_lower (Kd.R_new' (Kd.R_new' ho16 (Kd.R_lt (by (with_reducible repeat (first | apply Kd.R_alloc | apply Kd.R_drewN | apply Kd.R_drew)); exact HO_12.out))) (Kd.R_lt (by (with_reducible repeat (first | apply Kd.R_alloc | apply Kd.R_drewN | apply Kd.R_drew)); exact HO103.out))) (below_size (by repeat (first | (with_reducible first | exact HB.out | apply below_alloc | apply pw_below_drewN | apply below_drew1) | exact HB.out)))); have n3_ := Aside0.mk (below_step (by repeat (first | (with_reducible first | exact HB.out | apply below_alloc | apply pw_below_drewN | apply below_drew1) | exact HB.out)) hb); clear HO_12; clear HO103; clear HB; have HO_12 := n0_; have HO103 := n1_; have HO109 := n2_; have HB := n3_; clear n0_ n1_ n2_ n3_; clear hb ho16; obtain ⟨Ao18, co18, eo18⟩ := Kd.R_slice HO109.out; subst eo18) | ((with_reducible refine gate_builtin (b := .append) (xs := #[.tmp 33, .tmp 37]) rfl ?_); (try (refine gate_guard (by rfl) ?_; dsimp only)); at_builtin; refine Kd.R_append_rows RateNanS.floatS (w0 := w) w.heap.size rfl (.tmp 33) (.tmp 37) 22 27 (.float .f64 0) 8 rfl Tryd.underlying22 info27 rfl (by decide) (by omega) u12 x12_1 y107 _ _ _ (fun k_ => some k_ ≠ (v102 : Value).ownBlock ∧ some k_ ≠ (.slice Ao18 y107.length co18 : Value).ownBlock) (fun _ => False) rfl rfl ?aO ?aR (fun _ _ h => h) (fun _ h => h.elim) ?aF ?aB ?aS ?aL ?_; (case aR => repeat (first | exact (Kd.R_reads' HO109.out).2.2 | (with_reducible refine Kd.C_alloc ?_ _) | (with_reducible refine Kd.C_drewN ?_ _) | (with_reducible refine Kd.C_drew ?_))); (case aB => exact (by repeat (first | (with_reducible first | exact HB.out | apply below_alloc | apply pw_below_drewN | apply below_drew1) | exact HB.out))); (case aF => exact (fun k_ hk => ⟨Kd.fresh' (Kd.R_lt (by (with_reducible repeat (first | apply Kd.R_alloc | apply Kd.R_drewN | apply Kd.R_drew)); exact HO103.out)) k_ hk, Kd.fresh' (Kd.R_lt (by (with_reducible repeat (first | apply Kd.R_alloc | apply Kd.R_drewN | apply Kd.R_drew)); exact HO109.out)) k_ hk⟩)); (case aO => exact (by (with_reducible repeat (first | apply Kd.R_alloc | apply Kd.R_drewN | apply Kd.R_drew)); exact Kd.R_mono HO_12.out (fun _ hk => ⟨hk.1.2, hk.2⟩))); (case aS => exact (below_size (by repeat (first | (with_reducible first | exact HB.out | apply below_alloc | apply pw_below_drewN | apply below_drew1) | exact HB.out)))); (case aL => have := LMc10.out; omega); intro v111 w17 ho hb hg hat; rw [← Ny110.out] at ho; have n0_ := Aside0.mk (Kd.R_after (ok := (fun k_ => some k_ ≠ (.slice Ao18 y107.length co18 : Value).ownBlock)) (by (with_reducible repeat (first | apply Kd.R_alloc | apply Kd.R_drewN | apply Kd.R_drew)); exact Kd.R_mono HO103.out (fun _ hk => ⟨hk.2, hk.1⟩)) hg hat); have n1_ := Aside0.mk (Kd.R_after (ok := (fun k_ => some k_ ≠ (v102 : Value).ownBlock)) (by (with_reducible repeat (first | apply Kd.R_alloc | apply Kd.R_drewN | apply Kd.R_drew)); exact Kd.R_mono HO109.out (fun _ hk => ⟨hk.2, hk.1.2⟩)) hg hat); have n2_ := Aside0.mk (hb); have n3_ := Aside0.mk (ho); clear HO103; clear HO109; clear HB; clear HO_12; have HO103 := n0_; have HO109 := n1_; have HB := n2_; have HO112 := n3_; clear n0_ n1_ n2_ n3_; clear ho hb hg hat))
            go_roundg k1
            case measure => have := HK1.out; omega
            case rel => exact ⟨(y101), (y110), (wrap64 (x13_1 + 1)), (by first | rfl | (simp; done) | (simp [*]; done)), H', ⟨by have := HK1.out; omega⟩, ⟨by (with_reducible repeat (first | apply Kd.R_alloc | apply Kd.R_drewN | apply Kd.R_drew)); exact Kd.R_mono HO103.out (fun _ hk => hk.2)⟩, ⟨by (with_reducible repeat (first | apply Kd.R_alloc | apply Kd.R_drewN | apply Kd.R_drew)); exact Kd.R_mono HO112.out (fun _ hk => hk.1)⟩, ⟨by repeat (first | (with_reducible first | exact HB.out | apply below_alloc | apply pw_below_drewN | apply below_drew1) | exact HB.out)⟩⟩
          · rw [if_neg c10] at H
            exact absurd H (by simp)
        · rw [if_neg c6] at H
          exact absurd H (by simp)
      · rw [if_neg c5] at H
        have c5b0 : decide (x13_1 < (wrap64 (1 + (Go.bits .and .i64 a1 31)))) = false := decide_eq_false c5
        clear c5
        replace H := Option.bind_eq_some_iff.mp H
        obtain ⟨t113, A190, H⟩ := H
        replace H : ((rate_Spread.f k1 x12_1).bind fun t114 => (if (FloatKind.f64.format.order t113 t113 == some .eq) = true then (stevedorelaw36_RateEdges.j1 k1 a2 a3 true) else (if (FloatKind.f64.format.order t114 t114 == some .eq) = true then (stevedorelaw36_RateEdges.j1 k1 a2 a3 true) else (if x12_1.length + x11_1.length < 17592186044416 then ((rate_Mean.f k1 (x12_1 ++ x11_1)).bind fun t118 => (if (FloatKind.f64.format.order t118 (floatOfInt .f64 (Go.bits .and .i64 a0 1099511627775)) != some .eq) = true then (stevedorelaw36_RateEdges.j1 k1 a2 a3 true) else (if x11_1.length + x12_1.length < 17592186044416 then ((rate_Spread.f k1 (x11_1 ++ x12_1)).bind fun t122 => (stevedorelaw36_RateEdges.j1 k1 a2 a3 (FloatKind.f64.format.order t122 0 != some .eq))) else (none)))) else (none))))) = some r := H
        have A19 := Aside0.mk A190
        clear A190
        replace H := Option.bind_eq_some_iff.mp H
        obtain ⟨t114, A200, H⟩ := H
        replace H : (if (FloatKind.f64.format.order t113 t113 == some .eq) = true then (stevedorelaw36_RateEdges.j1 k1 a2 a3 true) else (if (FloatKind.f64.format.order t114 t114 == some .eq) = true then (stevedorelaw36_RateEdges.j1 k1 a2 a3 true) else (if x12_1.length + x11_1.length < 17592186044416 then ((rate_Mean.f k1 (x12_1 ++ x11_1)).bind fun t118 => (if (FloatKind.f64.format.order t118 (floatOfInt .f64 (Go.bits .and .i64 a0 1099511627775)) != some .eq) = true then (stevedorelaw36_RateEdges.j1 k1 a2 a3 true) else (if x11_1.length + x12_1.length < 17592186044416 then ((rate_Spread.f k1 (x11_1 ++ x12_1)).bind fun t122 => (stevedorelaw36_RateEdges.j1 k1 a2 a3 (FloatKind.f64.format.order t122 0 != some .eq))) else (none)))) else (none)))) = some r := H
        have A20 := Aside0.mk A200
        clear A200
        have HC21 := Aside0.mk H
        clear H
        obtain ⟨Ao22, co22, eo22⟩ := Kd.R_slice HO_12.out
        subst eo22
        go_upto_region 10 with (first | ((with_reducible refine gate_callee (f := 22) rfl ?_); refine goesL_ (some 40) rfl rfl Tryd.func22 (by kernel_rfl) rfl #[.slice Ao22 x12_1.length co22] rfl (by (try simp only [List.map_toArray, List.map_cons, List.map_nil]); first | done | rfl | (simp only [List.length_drop, List.length_take]; rfl)) ?_; (with_reducible refine (RateNanS.rate_Mean.callsS k1 _ _ x12_1 t113 _ ?side1 ?side2 A19.out).mono ?_); (case side1 => repeat (first | exact (Kd.R_reads' HO_12.out).2.2 | (with_reducible refine Kd.C_alloc ?_ _) | (with_reducible refine Kd.C_drewN ?_ _) | (with_reducible refine Kd.C_drew ?_))); (case side2 => exact (Kd.R_reads' HO_12.out).2.1); rintro e w23 ⟨rfl, hb⟩; refine ⟨_, rfl, ?_⟩; have n0_ := Aside0.mk (Kd.R_below (by (with_reducible repeat (first | apply Kd.R_alloc | apply Kd.R_drewN | apply Kd.R_drew)); exact HO_11.out) hb); have n1_ := Aside0.mk (Kd.R_below (by (with_reducible repeat (first | apply Kd.R_alloc | apply Kd.R_drewN | apply Kd.R_drew)); exact HO_12.out) hb); have n2_ := Aside0.mk (below_step (by repeat (first | (with_reducible first | exact HB.out | apply below_alloc | apply pw_below_drewN | apply below_drew1) | exact HB.out)) hb); clear HO_11; clear HO_12; clear HB; have HO_11 := n0_; have HO_12 := n1_; have HB := n2_; clear n0_ n1_ n2_; (try clear hb); (try clear hb2); (try clear hk); (try clear hi)) | ((with_reducible refine gate_callee (f := 23) rfl ?_); refine goesL_ (some 42) rfl rfl Tryd.func23 (by kernel_rfl) rfl #[.slice Ao22 x12_1.length co22] rfl (by (try simp only [List.map_toArray, List.map_cons, List.map_nil]); first | done | rfl | (simp only [List.length_drop, List.length_take]; rfl)) ?_; (with_reducible refine (RateNanS.rate_Spread.callsS k1 _ _ x12_1 t114 _ ?side1 ?side2 A20.out).mono ?_); (case side1 => repeat (first | exact (Kd.R_reads' HO_12.out).2.2 | (with_reducible refine Kd.C_alloc ?_ _) | (with_reducible refine Kd.C_drewN ?_ _) | (with_reducible refine Kd.C_drew ?_))); (case side2 => exact (Kd.R_reads' HO_12.out).2.1); rintro e w24 ⟨rfl, hb⟩; refine ⟨_, rfl, ?_⟩; have n0_ := Aside0.mk (Kd.R_below (by (with_reducible repeat (first | apply Kd.R_alloc | apply Kd.R_drewN | apply Kd.R_drew)); exact HO_11.out) hb); have n1_ := Aside0.mk (Kd.R_below (by (with_reducible repeat (first | apply Kd.R_alloc | apply Kd.R_drewN | apply Kd.R_drew)); exact HO_12.out) hb); have n2_ := Aside0.mk (below_step (by repeat (first | (with_reducible first | exact HB.out | apply below_alloc | apply pw_below_drewN | apply below_drew1) | exact HB.out)) hb); clear HO_11; clear HO_12; clear HB; have HO_11 := n0_; have HO_12 := n1_; have HB := n2_; clear n0_ n1_ n2_; (try clear hb); (try clear hb2); (try clear hk); (try clear hi)))
        (try simp only [Act.put, List.setIfInBounds_toArray, List.set_cons_zero, List.set_cons_succ])
        go_cut [65] (fun v65 wc => ∃ (kq : Nat) (x65_20 : Bool), v65 = .bool x65_20 ∧ Aside0 (stevedorelaw36_RateEdges.j1 kq a2 a3 x65_20 = some r) ∧ Aside0 (kq ≤ k1) ∧ Aside0 (Below w.heap.size w wc))
        case first =>
          have H := HC21.out
          clear HC21
          by_cases c25 : (FloatKind.f64.format.order t113 t113 == some .eq) = true
          · rw [if_pos c25] at H
            have c25b0 : (FloatKind.f64.format.order t113 t113 == some .eq) = true := c25
            (try (have c25b1 : decide (FloatKind.f64.format.order t113 t113 = some .eq) = true := by simpa using c25))
            (try (have c25b2 : (FloatKind.f64.format.order t113 t113 == some .eq) = true := by simpa using c25))
            clear c25
            (first | rw [c25b0] | (simp only [i64_w, i32_w]; rw [c25b0]) | rw [c25b1] | skip)
            have H' := Aside0.mk H
            clear H
            go_wp2
            go_meet
            case rel => exact ⟨_, (true), (by first | rfl | (simp; done) | (simp [*]; done)), H', ⟨by have := HK1.out; first | omega | exact Nat.le_refl _⟩, ⟨by repeat (first | (with_reducible first | exact HB.out | apply below_alloc | apply pw_below_drewN | apply below_drew1) | exact HB.out)⟩⟩
          · rw [if_neg c25] at H
            have c25b0 : (FloatKind.f64.format.order t113 t113 == some .eq) = false := by simpa using c25
            (try (have c25b1 : decide (FloatKind.f64.format.order t113 t113 = some .eq) = false := by simpa using c25))
            (try (have c25b2 : (FloatKind.f64.format.order t113 t113 == some .eq) = false := by simpa using c25))
            (try (have c25b3 : ¬ (FloatKind.f64.format.order t113 t113 = some .eq) := by simpa using c25))
            clear c25
            (first | rw [c25b0] | (simp only [i64_w, i32_w]; rw [c25b0]) | rw [c25b1] | skip)
            by_cases c26 : (FloatKind.f64.format.order t114 t114 == some .eq) = true
            · rw [if_pos c26] at H
              have c26b0 : (FloatKind.f64.format.order t114 t114 == some .eq) = true := c26
              (try (have c26b1 : decide (FloatKind.f64.format.order t114 t114 = some .eq) = true := by simpa using c26))
              (try (have c26b2 : (FloatKind.f64.format.order t114 t114 == some .eq) = true := by simpa using c26))
              clear c26
              have H' := Aside0.mk H
              clear H
              go_wp2
              go_meet
              case rel => exact ⟨_, (true), (by first | rfl | (simp; done) | (simp [*]; done)), H', ⟨by have := HK1.out; first | omega | exact Nat.le_refl _⟩, ⟨by repeat (first | (with_reducible first | exact HB.out | apply below_alloc | apply pw_below_drewN | apply below_drew1) | exact HB.out)⟩⟩
            · rw [if_neg c26] at H
              have c26b0 : (FloatKind.f64.format.order t114 t114 == some .eq) = false := by simpa using c26
              (try (have c26b1 : decide (FloatKind.f64.format.order t114 t114 = some .eq) = false := by simpa using c26))
              (try (have c26b2 : (FloatKind.f64.format.order t114 t114 == some .eq) = false := by simpa using c26))
              (try (have c26b3 : ¬ (FloatKind.f64.format.order t114 t114 = some .eq) := by simpa using c26))
              clear c26
              by_cases c27 : x12_1.length + x11_1.length < 17592186044416
              · rw [if_pos c27] at H
                have LMc27 := Aside0.mk c27
                clear c27
                obtain ⟨y115, hy115⟩ : ∃ y_ : List Nat, y_ = (x12_1 ++ x11_1) := ⟨_, rfl⟩
                replace H : ((rate_Mean.f k1 y115).bind fun t118 => (if (FloatKind.f64.format.order t118 (floatOfInt .f64 (Go.bits .and .i64 a0 1099511627775)) != some .eq) = true then (stevedorelaw36_RateEdges.j1 k1 a2 a3 true) else (if x11_1.length + x12_1.length < 17592186044416 then ((rate_Spread.f k1 (x11_1 ++ x12_1)).bind fun t122 => (stevedorelaw36_RateEdges.j1 k1 a2 a3 (FloatKind.f64.format.order t122 0 != some .eq))) else (none)))) = some r := by first | (rw [hy115]; with_reducible exact H) | (have H2_ := (Option.bind_some _ _).symm.trans H; rw [hy115]; with_reducible exact H2_) | (have H2_ := (Option.bind_some _ _).symm.trans H; with_reducible exact H2_) | with_reducible exact H | (rw [hy115]; exact H) | exact H
                have Ny115 := Aside0.mk hy115
                clear hy115
                replace H := Option.bind_eq_some_iff.mp H
                obtain ⟨t118, A280, H⟩ := H
                replace H : (if (FloatKind.f64.format.order t118 (floatOfInt .f64 (Go.bits .and .i64 a0 1099511627775)) != some .eq) = true then (stevedorelaw36_RateEdges.j1 k1 a2 a3 true) else (if x11_1.length + x12_1.length < 17592186044416 then ((rate_Spread.f k1 (x11_1 ++ x12_1)).bind fun t122 => (stevedorelaw36_RateEdges.j1 k1 a2 a3 (FloatKind.f64.format.order t122 0 != some .eq))) else (none))) = some r := H
                have A28 := Aside0.mk A280
                clear A280
                by_cases c29 : (FloatKind.f64.format.order t118 (floatOfInt .f64 (Go.bits .and .i64 a0 1099511627775)) != some .eq) = true
                · rw [if_pos c29] at H
                  have c29b0 : (FloatKind.f64.format.order t118 (floatOfInt .f64 (Go.bits .and .i64 a0 1099511627775)) != some .eq) = true := c29
                  (try (have c29b1 : decide (FloatKind.f64.format.order t118 (floatOfInt .f64 (Go.bits .and .i64 a0 1099511627775)) = some .eq) = false := by simpa using c29))
                  (try (have c29b2 : (FloatKind.f64.format.order t118 (floatOfInt .f64 (Go.bits .and .i64 a0 1099511627775)) == some .eq) = false := by simpa using c29))
                  (try (have c29b3 : ¬ (FloatKind.f64.format.order t118 (floatOfInt .f64 (Go.bits .and .i64 a0 1099511627775)) = some .eq) := by simpa using c29))
                  clear c29
                  have H' := Aside0.mk H
                  clear H
                  obtain ⟨Ao31, co31, eo31⟩ := Kd.R_slice HO_11.out
                  subst eo31
                  go_wp2_with (first | ((with_reducible refine gate_builtin (b := .append) (xs := #[.tmp 52, .tmp 53]) rfl ?_); (try (refine gate_guard (by rfl) ?_; dsimp only)); at_builtin; refine Kd.R_append_rows RateNanS.floatS (w0 := w) w.heap.size rfl (.tmp 52) (.tmp 53) 22 27 (.float .f64 0) 8 rfl Tryd.underlying22 info27 rfl (by decide) (by omega) (.slice Ao22 x12_1.length co22) x12_1 x11_1 _ _ _ (fun k_ => some k_ ≠ (.slice Ao31 x11_1.length co31 : Value).ownBlock) (fun _ => False) rfl rfl ?aO ?aR (fun _ _ h => h) (fun _ h => h.elim) ?aF ?aB ?aS ?aL ?_; (case aR => repeat (first | exact (Kd.R_reads' HO_11.out).2.2 | (with_reducible refine Kd.C_alloc ?_ _) | (with_reducible refine Kd.C_drewN ?_ _) | (with_reducible refine Kd.C_drew ?_))); (case aB => exact (by repeat (first | (with_reducible first | exact HB.out | apply below_alloc | apply pw_below_drewN | apply below_drew1) | exact HB.out))); (case aF => exact (fun k_ hk => Kd.fresh' (Kd.R_lt (by (with_reducible repeat (first | apply Kd.R_alloc | apply Kd.R_drewN | apply Kd.R_drew)); exact HO_11.out)) k_ hk)); (case aO => exact (by (with_reducible repeat (first | apply Kd.R_alloc | apply Kd.R_drewN | apply Kd.R_drew)); exact HO_12.out)); (case aS => exact (below_size (by repeat (first | (with_reducible first | exact HB.out | apply below_alloc | apply pw_below_drewN | apply below_drew1) | exact HB.out)))); (case aL => have := LMc27.out; omega); intro v116 w30 ho hb hg hat; rw [← Ny115.out] at ho; have n0_ := Aside0.mk (Kd.R_after (ok := (fun _ => True)) (by (with_reducible repeat (first | apply Kd.R_alloc | apply Kd.R_drewN | apply Kd.R_drew)); exact Kd.R_mono HO_11.out (fun _ hk => ⟨trivial, hk⟩)) hg hat); have n1_ := Aside0.mk (hb); have n2_ := Aside0.mk (ho); clear HO_11; clear HB; clear HO_12; have HO_11 := n0_; have HB := n1_; have HO117 := n2_; clear n0_ n1_ n2_; clear ho hb hg hat; obtain ⟨Ao32, co32, eo32⟩ := Kd.R_slice HO117.out; subst eo32) | (go_at_call 22; (with_reducible refine (RateNanS.rate_Mean.callsS k1 _ _ y115 t118 _ ?side1 ?side2 A28.out).mono ?_); (case side1 => repeat (first | exact (Kd.R_reads' HO117.out).2.2 | (with_reducible refine Kd.C_alloc ?_ _) | (with_reducible refine Kd.C_drewN ?_ _) | (with_reducible refine Kd.C_drew ?_))); (case side2 => exact (Kd.R_reads' HO117.out).2.1); rintro e w33 ⟨rfl, hb⟩; have n0_ := Aside0.mk (Kd.R_below (by (with_reducible repeat (first | apply Kd.R_alloc | apply Kd.R_drewN | apply Kd.R_drew)); exact HO_11.out) hb); have n1_ := Aside0.mk (Kd.R_below (by (with_reducible repeat (first | apply Kd.R_alloc | apply Kd.R_drewN | apply Kd.R_drew)); exact HO117.out) hb); have n2_ := Aside0.mk (below_step (by repeat (first | (with_reducible first | exact HB.out | apply below_alloc | apply pw_below_drewN | apply below_drew1) | exact HB.out)) hb); clear HO_11; clear HO117; clear HB; have HO_11 := n0_; have HO117 := n1_; have HB := n2_; clear n0_ n1_ n2_; (try clear hb); (try clear hb2); (try clear hk); (try clear hi)))
                  go_meet
                  case rel => exact ⟨_, (true), (by first | rfl | (simp; done) | (simp [*]; done)), H', ⟨by have := HK1.out; first | omega | exact Nat.le_refl _⟩, ⟨by repeat (first | (with_reducible first | exact HB.out | apply below_alloc | apply pw_below_drewN | apply below_drew1) | exact HB.out)⟩⟩
                · rw [if_neg c29] at H
                  have c29b0 : (FloatKind.f64.format.order t118 (floatOfInt .f64 (Go.bits .and .i64 a0 1099511627775)) != some .eq) = false := by simpa using c29
                  (try (have c29b1 : decide (FloatKind.f64.format.order t118 (floatOfInt .f64 (Go.bits .and .i64 a0 1099511627775)) = some .eq) = true := by simpa using c29))
                  (try (have c29b2 : (FloatKind.f64.format.order t118 (floatOfInt .f64 (Go.bits .and .i64 a0 1099511627775)) == some .eq) = true := by simpa using c29))
                  clear c29
                  by_cases c34 : x11_1.length + x12_1.length < 17592186044416
                  · rw [if_pos c34] at H
                    have LMc34 := Aside0.mk c34
                    clear c34
                    obtain ⟨y119, hy119⟩ : ∃ y_ : List Nat, y_ = (x11_1 ++ x12_1) := ⟨_, rfl⟩
                    replace H : ((rate_Spread.f k1 y119).bind fun t122 => (stevedorelaw36_RateEdges.j1 k1 a2 a3 (FloatKind.f64.format.order t122 0 != some .eq))) = some r := by first | (rw [hy119]; with_reducible exact H) | (have H2_ := (Option.bind_some _ _).symm.trans H; rw [hy119]; with_reducible exact H2_) | (have H2_ := (Option.bind_some _ _).symm.trans H; with_reducible exact H2_) | with_reducible exact H | (rw [hy119]; exact H) | exact H
                    have Ny119 := Aside0.mk hy119
                    clear hy119
                    replace H := Option.bind_eq_some_iff.mp H
                    obtain ⟨t122, A350, H⟩ := H
                    replace H : (stevedorelaw36_RateEdges.j1 k1 a2 a3 (FloatKind.f64.format.order t122 0 != some .eq)) = some r := H
                    have A35 := Aside0.mk A350
                    clear A350
                    have H' := Aside0.mk H
                    clear H
                    obtain ⟨Ao37, co37, eo37⟩ := Kd.R_slice HO_11.out
                    subst eo37
                    go_wp2_with (first | ((with_reducible refine gate_builtin (b := .append) (xs := #[.tmp 52, .tmp 53]) rfl ?_); (try (refine gate_guard (by rfl) ?_; dsimp only)); at_builtin; refine AppendKeep.R_append_keep (w0 := w) w.heap.size rfl (.tmp 52) (.tmp 53) 22 27 (.float .f64 0) 8 rfl Tryd.underlying22 info27 rfl (by omega) Ao22 co22 x12_1 x11_1 _ _ _ (fun k_ => some k_ ≠ (.slice Ao37 x11_1.length co37 : Value).ownBlock) (fun _ => False) rfl rfl ?aO ?aR (fun _ h => h.elim) ?aF ?aB ?aS ?aL ?_; (case aR => repeat (first | exact (Kd.R_reads' HO_11.out).2.2 | (with_reducible refine Kd.C_alloc ?_ _) | (with_reducible refine Kd.C_drewN ?_ _) | (with_reducible refine Kd.C_drew ?_))); (case aB => exact (by repeat (first | (with_reducible first | exact HB.out | apply below_alloc | apply pw_below_drewN | apply below_drew1) | exact HB.out))); (case aF => exact (fun k_ hk => Kd.fresh' (Kd.R_lt (by (with_reducible repeat (first | apply Kd.R_alloc | apply Kd.R_drewN | apply Kd.R_drew)); exact HO_11.out)) k_ hk)); (case aO => exact (by (with_reducible repeat (first | apply Kd.R_alloc | apply Kd.R_drewN | apply Kd.R_drew)); exact HO_12.out)); (case aS => exact (below_size (by repeat (first | (with_reducible first | exact HB.out | apply below_alloc | apply pw_below_drewN | apply below_drew1) | exact HB.out)))); (case aL => have := LMc27.out; omega); intro v116 w36 ho hb hg hat hkp; have HKP := Aside0.mk hkp; clear hkp; rw [← Ny115.out] at ho; have n0_ := Aside0.mk (Kd.R_after (ok := (fun _ => True)) (by (with_reducible repeat (first | apply Kd.R_alloc | apply Kd.R_drewN | apply Kd.R_drew)); exact Kd.R_mono HO_11.out (fun _ hk => ⟨trivial, hk⟩)) hg hat); have n1_ := Aside0.mk (hb); have n2_ := Aside0.mk (ho); clear HO_11; clear HB; clear HO_12; have HO_11 := n0_; have HB := n1_; have HO117 := n2_; clear n0_ n1_ n2_; clear ho hb hg hat; obtain ⟨Ao38, co38, eo38⟩ := Kd.R_slice HO117.out; subst eo38) | (go_at_call 22; (with_reducible refine (RateNanS.rate_Mean.callsS k1 _ _ y115 t118 _ ?side1 ?side2 A28.out).mono ?_); (case side1 => repeat (first | exact (Kd.R_reads' HO117.out).2.2 | (with_reducible refine Kd.C_alloc ?_ _) | (with_reducible refine Kd.C_drewN ?_ _) | (with_reducible refine Kd.C_drew ?_))); (case side2 => exact (Kd.R_reads' HO117.out).2.1); rintro e w39 ⟨rfl, hb⟩; have HKP' := Aside0.mk (Kd.C_below HKP.out hb); clear HKP; have HKP := HKP'; clear HKP'; have n0_ := Aside0.mk (Kd.R_below (by (with_reducible repeat (first | apply Kd.R_alloc | apply Kd.R_drewN | apply Kd.R_drew)); exact HO_11.out) hb); have n1_ := Aside0.mk (Kd.R_below (by (with_reducible repeat (first | apply Kd.R_alloc | apply Kd.R_drewN | apply Kd.R_drew)); exact HO117.out) hb); have n2_ := Aside0.mk (below_step (by repeat (first | (with_reducible first | exact HB.out | apply below_alloc | apply pw_below_drewN | apply below_drew1) | exact HB.out)) hb); clear HO_11; clear HO117; clear HB; have HO_11 := n0_; have HO117 := n1_; have HB := n2_; clear n0_ n1_ n2_; (try clear hb); (try clear hb2); (try clear hk); (try clear hi)) | ((with_reducible refine gate_builtin (b := .append) (xs := #[.tmp 60, .tmp 61]) rfl ?_); (try (refine gate_guard (by rfl) ?_; dsimp only)); at_builtin; refine Kd.R_append_rows RateNanS.floatS (w0 := w) w.heap.size rfl (.tmp 60) (.tmp 61) 22 27 (.float .f64 0) 8 rfl Tryd.underlying22 info27 rfl (by decide) (by omega) (.slice Ao37 x11_1.length co37) x11_1 x12_1 _ _ _ (fun k_ => some k_ ≠ (.slice Ao38 y115.length co38 : Value).ownBlock) (fun _ => False) rfl rfl ?aO ?aR (fun _ _ h => h) (fun _ h => h.elim) ?aF ?aB ?aS ?aL ?_; (case aR => repeat (first | exact HKP.out | (with_reducible refine Kd.C_alloc ?_ _) | (with_reducible refine Kd.C_drewN ?_ _) | (with_reducible refine Kd.C_drew ?_))); (case aB => exact (by repeat (first | (with_reducible first | exact HB.out | apply below_alloc | apply pw_below_drewN | apply below_drew1) | exact HB.out))); (case aF => exact (fun k_ hk => Kd.fresh' (Kd.R_lt (by (with_reducible repeat (first | apply Kd.R_alloc | apply Kd.R_drewN | apply Kd.R_drew)); exact HO117.out)) k_ hk)); (case aO => exact (by (with_reducible repeat (first | apply Kd.R_alloc | apply Kd.R_drewN | apply Kd.R_drew)); exact Kd.R_mono HO_11.out (fun _ hk => hk.2))); (case aS => exact (below_size (by repeat (first | (with_reducible first | exact HB.out | apply below_alloc | apply pw_below_drewN | apply below_drew1) | exact HB.out)))); (case aL => have := LMc34.out; omega); intro v120 w40 ho hb hg hat; rw [← Ny119.out] at ho; have n0_ := Aside0.mk (Kd.R_after (ok := (fun _ => True)) (by (with_reducible repeat (first | apply Kd.R_alloc | apply Kd.R_drewN | apply Kd.R_drew)); exact Kd.R_mono HO117.out (fun _ hk => ⟨trivial, hk⟩)) hg hat); have n1_ := Aside0.mk (hb); have n2_ := Aside0.mk (ho); clear HO117; clear HB; clear HO_11; have HO117 := n0_; have HB := n1_; have HO121 := n2_; clear n0_ n1_ n2_; clear ho hb hg hat; obtain ⟨Ao41, co41, eo41⟩ := Kd.R_slice HO121.out; subst eo41) | (go_at_call 23; (with_reducible refine (RateNanS.rate_Spread.callsS k1 _ _ y119 t122 _ ?side1 ?side2 A35.out).mono ?_); (case side1 => repeat (first | exact (Kd.R_reads' HO121.out).2.2 | (with_reducible refine Kd.C_alloc ?_ _) | (with_reducible refine Kd.C_drewN ?_ _) | (with_reducible refine Kd.C_drew ?_))); (case side2 => exact (Kd.R_reads' HO121.out).2.1); rintro e w42 ⟨rfl, hb⟩; have n0_ := Aside0.mk (Kd.R_below (by (with_reducible repeat (first | apply Kd.R_alloc | apply Kd.R_drewN | apply Kd.R_drew)); exact HO117.out) hb); have n1_ := Aside0.mk (Kd.R_below (by (with_reducible repeat (first | apply Kd.R_alloc | apply Kd.R_drewN | apply Kd.R_drew)); exact HO121.out) hb); have n2_ := Aside0.mk (below_step (by repeat (first | (with_reducible first | exact HB.out | apply below_alloc | apply pw_below_drewN | apply below_drew1) | exact HB.out)) hb); clear HO117; clear HO121; clear HB; have HO117 := n0_; have HO121 := n1_; have HB := n2_; clear n0_ n1_ n2_; (try clear hb); (try clear hb2); (try clear hk); (try clear hi)))
                    go_meet
                    case rel => exact ⟨_, ((FloatKind.f64.format.order t122 0 != some .eq)), (by first | rfl | (simp; done) | (simp [*]; done)), H', ⟨by have := HK1.out; first | omega | exact Nat.le_refl _⟩, ⟨by repeat (first | (with_reducible first | exact HB.out | apply below_alloc | apply pw_below_drewN | apply below_drew1) | exact HB.out)⟩⟩
                  · rw [if_neg c34] at H
                    exact absurd H (by simp)
              · rw [if_neg c27] at H
                exact absurd H (by simp)
        case rest =>
          clear HC21
          try clear c1
          try clear c2
          try clear p2
          try clear c3
          try clear c5
          try clear c5b0
          try clear c6
          try clear p6
          try clear c10
          try clear c20
          try clear c21
          try clear c22
          try clear c23
          try clear c25
          try clear c25b0
          try clear c25b1
          try clear c25b2
          try clear c26
          try clear c26b0
          try clear c26b1
          try clear c26b2
          try clear c27
          try clear c29
          try clear c29b0
          try clear c29b1
          try clear c29b2
          try clear c34
          try clear p2
          obtain ⟨kq, x65_20, rfl, HA, HJ20, HB⟩ := hcut
          cases kq with
          | zero => exact absurd HA.out (by simp [stevedorelaw36_RateEdges.j1])
          | succ kj20 =>
            have H := HA.out
            clear HA
            simp only [stevedorelaw36_RateEdges.j1] at H
            by_cases c43 : x65_20 = true
            · subst c43
              have H1 : (some false) = some r := by rw [if_pos rfl] at H; exact H
              exact absurd (Option.some.inj H1) (by rw [htrue]; decide)
            · replace c43 := Bool.eq_false_iff.mpr c43
              subst c43
              have H1 : ((RateNan.rate_Ratio.f 0 0).bind fun t123 => ((stevedorelaw36_told.f).bind fun t124 => (if t124 = true then (if (FloatKind.f64.format.order t123 t123 != some .eq) = true then ((RateNan.rate_Ratio.f (wrap64 (1 + (Go.bits .and .i64 a2 1099511627775))) 0).bind fun t125 => (if (FloatKind.f64.format.order t125 9094988921128908188 == some .gt) = true then ((RateNan.rate_Ratio.f (wrap64 (-(wrap64 (1 + (Go.bits .and .i64 a2 1099511627775))))) 0).bind fun t126 => (if (FloatKind.f64.format.order t126 18318360957983683996 == some .lt) = true then ((RateNan.rate_Ratio.f 0 (wrap64 (1 + (Go.bits .and .i64 a2 1099511627775)))).bind fun t127 => (if (FloatKind.f64.format.order t127 0 == some .eq) = true then ((RateNan.rate_Ratio.f (wrap64 (1 + (Go.bits .and .i64 a2 1099511627775))) (wrap64 (1 + (Go.bits .and .i64 a2 1099511627775)))).bind fun t128 => (if (FloatKind.f64.format.order t128 4607182418800017408 == some .eq) = true then ((rate_Bits.f kj20 (([0, wrap64 (1 + (Go.bits .and .i64 a3 1023)), 0] : List Int))).bind fun t132 => (if (FloatKind.f64.format.order t132 0 == some .eq) = true then ((rate_Bits.f kj20 (([Go.bits .and .i64 a3 1023, Go.bits .and .i64 a3 1023, Go.bits .and .i64 a3 1023, Go.bits .and .i64 a3 1023, 1, 1, 1, 1] : List Int))).bind fun t136 => (some (FloatKind.f64.format.order t136 0 == some .gt || FloatKind.f64.format.order t136 0 == some .eq))) else (some false))) else (some false))) else (some false))) else (some false))) else (some false))) else (some false)) else (some false)))) = some r := by rw [if_neg (show ¬ (false = true) by decide)] at H; exact H
              clear H
              have H := H1
              clear H1
              replace H := Option.bind_eq_some_iff.mp H
              obtain ⟨t123, A440, H⟩ := H
              replace H : ((stevedorelaw36_told.f).bind fun t124 => (if t124 = true then (if (FloatKind.f64.format.order t123 t123 != some .eq) = true then ((RateNan.rate_Ratio.f (wrap64 (1 + (Go.bits .and .i64 a2 1099511627775))) 0).bind fun t125 => (if (FloatKind.f64.format.order t125 9094988921128908188 == some .gt) = true then ((RateNan.rate_Ratio.f (wrap64 (-(wrap64 (1 + (Go.bits .and .i64 a2 1099511627775))))) 0).bind fun t126 => (if (FloatKind.f64.format.order t126 18318360957983683996 == some .lt) = true then ((RateNan.rate_Ratio.f 0 (wrap64 (1 + (Go.bits .and .i64 a2 1099511627775)))).bind fun t127 => (if (FloatKind.f64.format.order t127 0 == some .eq) = true then ((RateNan.rate_Ratio.f (wrap64 (1 + (Go.bits .and .i64 a2 1099511627775))) (wrap64 (1 + (Go.bits .and .i64 a2 1099511627775)))).bind fun t128 => (if (FloatKind.f64.format.order t128 4607182418800017408 == some .eq) = true then ((rate_Bits.f kj20 (([0, wrap64 (1 + (Go.bits .and .i64 a3 1023)), 0] : List Int))).bind fun t132 => (if (FloatKind.f64.format.order t132 0 == some .eq) = true then ((rate_Bits.f kj20 (([Go.bits .and .i64 a3 1023, Go.bits .and .i64 a3 1023, Go.bits .and .i64 a3 1023, Go.bits .and .i64 a3 1023, 1, 1, 1, 1] : List Int))).bind fun t136 => (some (FloatKind.f64.format.order t136 0 == some .gt || FloatKind.f64.format.order t136 0 == some .eq))) else (some false))) else (some false))) else (some false))) else (some false))) else (some false))) else (some false)) else (some false))) = some r := H
              have A44 := Aside0.mk A440
              clear A440
              replace H := Option.bind_eq_some_iff.mp H
              obtain ⟨t124, A450, H⟩ := H
              replace H : (if t124 = true then (if (FloatKind.f64.format.order t123 t123 != some .eq) = true then ((RateNan.rate_Ratio.f (wrap64 (1 + (Go.bits .and .i64 a2 1099511627775))) 0).bind fun t125 => (if (FloatKind.f64.format.order t125 9094988921128908188 == some .gt) = true then ((RateNan.rate_Ratio.f (wrap64 (-(wrap64 (1 + (Go.bits .and .i64 a2 1099511627775))))) 0).bind fun t126 => (if (FloatKind.f64.format.order t126 18318360957983683996 == some .lt) = true then ((RateNan.rate_Ratio.f 0 (wrap64 (1 + (Go.bits .and .i64 a2 1099511627775)))).bind fun t127 => (if (FloatKind.f64.format.order t127 0 == some .eq) = true then ((RateNan.rate_Ratio.f (wrap64 (1 + (Go.bits .and .i64 a2 1099511627775))) (wrap64 (1 + (Go.bits .and .i64 a2 1099511627775)))).bind fun t128 => (if (FloatKind.f64.format.order t128 4607182418800017408 == some .eq) = true then ((rate_Bits.f kj20 (([0, wrap64 (1 + (Go.bits .and .i64 a3 1023)), 0] : List Int))).bind fun t132 => (if (FloatKind.f64.format.order t132 0 == some .eq) = true then ((rate_Bits.f kj20 (([Go.bits .and .i64 a3 1023, Go.bits .and .i64 a3 1023, Go.bits .and .i64 a3 1023, Go.bits .and .i64 a3 1023, 1, 1, 1, 1] : List Int))).bind fun t136 => (some (FloatKind.f64.format.order t136 0 == some .gt || FloatKind.f64.format.order t136 0 == some .eq))) else (some false))) else (some false))) else (some false))) else (some false))) else (some false))) else (some false)) else (some false)) = some r := H
              have A45 := Aside0.mk A450
              clear A450
              by_cases c46 : t124 = true
              · subst c46
                have H1 : (if (FloatKind.f64.format.order t123 t123 != some .eq) = true then ((RateNan.rate_Ratio.f (wrap64 (1 + (Go.bits .and .i64 a2 1099511627775))) 0).bind fun t125 => (if (FloatKind.f64.format.order t125 9094988921128908188 == some .gt) = true then ((RateNan.rate_Ratio.f (wrap64 (-(wrap64 (1 + (Go.bits .and .i64 a2 1099511627775))))) 0).bind fun t126 => (if (FloatKind.f64.format.order t126 18318360957983683996 == some .lt) = true then ((RateNan.rate_Ratio.f 0 (wrap64 (1 + (Go.bits .and .i64 a2 1099511627775)))).bind fun t127 => (if (FloatKind.f64.format.order t127 0 == some .eq) = true then ((RateNan.rate_Ratio.f (wrap64 (1 + (Go.bits .and .i64 a2 1099511627775))) (wrap64 (1 + (Go.bits .and .i64 a2 1099511627775)))).bind fun t128 => (if (FloatKind.f64.format.order t128 4607182418800017408 == some .eq) = true then ((rate_Bits.f kj20 (([0, wrap64 (1 + (Go.bits .and .i64 a3 1023)), 0] : List Int))).bind fun t132 => (if (FloatKind.f64.format.order t132 0 == some .eq) = true then ((rate_Bits.f kj20 (([Go.bits .and .i64 a3 1023, Go.bits .and .i64 a3 1023, Go.bits .and .i64 a3 1023, Go.bits .and .i64 a3 1023, 1, 1, 1, 1] : List Int))).bind fun t136 => (some (FloatKind.f64.format.order t136 0 == some .gt || FloatKind.f64.format.order t136 0 == some .eq))) else (some false))) else (some false))) else (some false))) else (some false))) else (some false))) else (some false)) = some r := by rw [if_pos rfl] at H; exact H
                clear H
                have H := H1
                clear H1
                by_cases c47 : (FloatKind.f64.format.order t123 t123 != some .eq) = true
                · rw [if_pos c47] at H
                  have c47b0 : (FloatKind.f64.format.order t123 t123 != some .eq) = true := c47
                  (try (have c47b1 : decide (FloatKind.f64.format.order t123 t123 = some .eq) = false := by simpa using c47))
                  (try (have c47b2 : (FloatKind.f64.format.order t123 t123 == some .eq) = false := by simpa using c47))
                  (try (have c47b3 : ¬ (FloatKind.f64.format.order t123 t123 = some .eq) := by simpa using c47))
                  clear c47
                  replace H := Option.bind_eq_some_iff.mp H
                  obtain ⟨t125, A480, H⟩ := H
                  replace H : (if (FloatKind.f64.format.order t125 9094988921128908188 == some .gt) = true then ((RateNan.rate_Ratio.f (wrap64 (-(wrap64 (1 + (Go.bits .and .i64 a2 1099511627775))))) 0).bind fun t126 => (if (FloatKind.f64.format.order t126 18318360957983683996 == some .lt) = true then ((RateNan.rate_Ratio.f 0 (wrap64 (1 + (Go.bits .and .i64 a2 1099511627775)))).bind fun t127 => (if (FloatKind.f64.format.order t127 0 == some .eq) = true then ((RateNan.rate_Ratio.f (wrap64 (1 + (Go.bits .and .i64 a2 1099511627775))) (wrap64 (1 + (Go.bits .and .i64 a2 1099511627775)))).bind fun t128 => (if (FloatKind.f64.format.order t128 4607182418800017408 == some .eq) = true then ((rate_Bits.f kj20 (([0, wrap64 (1 + (Go.bits .and .i64 a3 1023)), 0] : List Int))).bind fun t132 => (if (FloatKind.f64.format.order t132 0 == some .eq) = true then ((rate_Bits.f kj20 (([Go.bits .and .i64 a3 1023, Go.bits .and .i64 a3 1023, Go.bits .and .i64 a3 1023, Go.bits .and .i64 a3 1023, 1, 1, 1, 1] : List Int))).bind fun t136 => (some (FloatKind.f64.format.order t136 0 == some .gt || FloatKind.f64.format.order t136 0 == some .eq))) else (some false))) else (some false))) else (some false))) else (some false))) else (some false)) = some r := H
                  have A48 := Aside0.mk A480
                  clear A480
                  by_cases c49 : (FloatKind.f64.format.order t125 9094988921128908188 == some .gt) = true
                  · rw [if_pos c49] at H
                    have c49b0 : (FloatKind.f64.format.order t125 9094988921128908188 == some .gt) = true := c49
                    (try (have c49b1 : decide (FloatKind.f64.format.order t125 9094988921128908188 = some .gt) = true := by simpa using c49))
                    (try (have c49b2 : (FloatKind.f64.format.order t125 9094988921128908188 == some .gt) = true := by simpa using c49))
                    clear c49
                    replace H := Option.bind_eq_some_iff.mp H
                    obtain ⟨t126, A500, H⟩ := H
                    replace H : (if (FloatKind.f64.format.order t126 18318360957983683996 == some .lt) = true then ((RateNan.rate_Ratio.f 0 (wrap64 (1 + (Go.bits .and .i64 a2 1099511627775)))).bind fun t127 => (if (FloatKind.f64.format.order t127 0 == some .eq) = true then ((RateNan.rate_Ratio.f (wrap64 (1 + (Go.bits .and .i64 a2 1099511627775))) (wrap64 (1 + (Go.bits .and .i64 a2 1099511627775)))).bind fun t128 => (if (FloatKind.f64.format.order t128 4607182418800017408 == some .eq) = true then ((rate_Bits.f kj20 (([0, wrap64 (1 + (Go.bits .and .i64 a3 1023)), 0] : List Int))).bind fun t132 => (if (FloatKind.f64.format.order t132 0 == some .eq) = true then ((rate_Bits.f kj20 (([Go.bits .and .i64 a3 1023, Go.bits .and .i64 a3 1023, Go.bits .and .i64 a3 1023, Go.bits .and .i64 a3 1023, 1, 1, 1, 1] : List Int))).bind fun t136 => (some (FloatKind.f64.format.order t136 0 == some .gt || FloatKind.f64.format.order t136 0 == some .eq))) else (some false))) else (some false))) else (some false))) else (some false)) = some r := H
                    have A50 := Aside0.mk A500
                    clear A500
                    by_cases c51 : (FloatKind.f64.format.order t126 18318360957983683996 == some .lt) = true
                    · rw [if_pos c51] at H
                      have c51b0 : (FloatKind.f64.format.order t126 18318360957983683996 == some .lt) = true := c51
                      (try (have c51b1 : decide (FloatKind.f64.format.order t126 18318360957983683996 = some .lt) = true := by simpa using c51))
                      (try (have c51b2 : (FloatKind.f64.format.order t126 18318360957983683996 == some .lt) = true := by simpa using c51))
                      clear c51
                      replace H := Option.bind_eq_some_iff.mp H
                      obtain ⟨t127, A520, H⟩ := H
                      replace H : (if (FloatKind.f64.format.order t127 0 == some .eq) = true then ((RateNan.rate_Ratio.f (wrap64 (1 + (Go.bits .and .i64 a2 1099511627775))) (wrap64 (1 + (Go.bits .and .i64 a2 1099511627775)))).bind fun t128 => (if (FloatKind.f64.format.order t128 4607182418800017408 == some .eq) = true then ((rate_Bits.f kj20 (([0, wrap64 (1 + (Go.bits .and .i64 a3 1023)), 0] : List Int))).bind fun t132 => (if (FloatKind.f64.format.order t132 0 == some .eq) = true then ((rate_Bits.f kj20 (([Go.bits .and .i64 a3 1023, Go.bits .and .i64 a3 1023, Go.bits .and .i64 a3 1023, Go.bits .and .i64 a3 1023, 1, 1, 1, 1] : List Int))).bind fun t136 => (some (FloatKind.f64.format.order t136 0 == some .gt || FloatKind.f64.format.order t136 0 == some .eq))) else (some false))) else (some false))) else (some false)) = some r := H
                      have A52 := Aside0.mk A520
                      clear A520
                      by_cases c53 : (FloatKind.f64.format.order t127 0 == some .eq) = true
                      · rw [if_pos c53] at H
                        have c53b0 : (FloatKind.f64.format.order t127 0 == some .eq) = true := c53
                        (try (have c53b1 : decide (FloatKind.f64.format.order t127 0 = some .eq) = true := by simpa using c53))
                        (try (have c53b2 : (FloatKind.f64.format.order t127 0 == some .eq) = true := by simpa using c53))
                        clear c53
                        replace H := Option.bind_eq_some_iff.mp H
                        obtain ⟨t128, A540, H⟩ := H
                        replace H : (if (FloatKind.f64.format.order t128 4607182418800017408 == some .eq) = true then ((rate_Bits.f kj20 (([0, wrap64 (1 + (Go.bits .and .i64 a3 1023)), 0] : List Int))).bind fun t132 => (if (FloatKind.f64.format.order t132 0 == some .eq) = true then ((rate_Bits.f kj20 (([Go.bits .and .i64 a3 1023, Go.bits .and .i64 a3 1023, Go.bits .and .i64 a3 1023, Go.bits .and .i64 a3 1023, 1, 1, 1, 1] : List Int))).bind fun t136 => (some (FloatKind.f64.format.order t136 0 == some .gt || FloatKind.f64.format.order t136 0 == some .eq))) else (some false))) else (some false)) = some r := H
                        have A54 := Aside0.mk A540
                        clear A540
                        by_cases c55 : (FloatKind.f64.format.order t128 4607182418800017408 == some .eq) = true
                        · rw [if_pos c55] at H
                          have c55b0 : (FloatKind.f64.format.order t128 4607182418800017408 == some .eq) = true := c55
                          (try (have c55b1 : decide (FloatKind.f64.format.order t128 4607182418800017408 = some .eq) = true := by simpa using c55))
                          (try (have c55b2 : (FloatKind.f64.format.order t128 4607182418800017408 == some .eq) = true := by simpa using c55))
                          clear c55
                          obtain ⟨y129, hy129⟩ : ∃ y_ : List Int, y_ = (([0, wrap64 (1 + (Go.bits .and .i64 a3 1023)), 0] : List Int)) := ⟨_, rfl⟩
                          replace H : ((rate_Bits.f kj20 y129).bind fun t132 => (if (FloatKind.f64.format.order t132 0 == some .eq) = true then ((rate_Bits.f kj20 (([Go.bits .and .i64 a3 1023, Go.bits .and .i64 a3 1023, Go.bits .and .i64 a3 1023, Go.bits .and .i64 a3 1023, 1, 1, 1, 1] : List Int))).bind fun t136 => (some (FloatKind.f64.format.order t136 0 == some .gt || FloatKind.f64.format.order t136 0 == some .eq))) else (some false))) = some r := by first | (rw [hy129]; with_reducible exact H) | (have H2_ := (Option.bind_some _ _).symm.trans H; rw [hy129]; with_reducible exact H2_) | (have H2_ := (Option.bind_some _ _).symm.trans H; with_reducible exact H2_) | with_reducible exact H | (rw [hy129]; exact H) | exact H
                          have Ny129 := Aside0.mk hy129
                          clear hy129
                          replace H := Option.bind_eq_some_iff.mp H
                          obtain ⟨t132, A560, H⟩ := H
                          replace H : (if (FloatKind.f64.format.order t132 0 == some .eq) = true then ((rate_Bits.f kj20 (([Go.bits .and .i64 a3 1023, Go.bits .and .i64 a3 1023, Go.bits .and .i64 a3 1023, Go.bits .and .i64 a3 1023, 1, 1, 1, 1] : List Int))).bind fun t136 => (some (FloatKind.f64.format.order t136 0 == some .gt || FloatKind.f64.format.order t136 0 == some .eq))) else (some false)) = some r := H
                          have A56 := Aside0.mk A560
                          clear A560
                          by_cases c57 : (FloatKind.f64.format.order t132 0 == some .eq) = true
                          · rw [if_pos c57] at H
                            have c57b0 : (FloatKind.f64.format.order t132 0 == some .eq) = true := c57
                            (try (have c57b1 : decide (FloatKind.f64.format.order t132 0 = some .eq) = true := by simpa using c57))
                            (try (have c57b2 : (FloatKind.f64.format.order t132 0 == some .eq) = true := by simpa using c57))
                            clear c57
                            obtain ⟨y133, hy133⟩ : ∃ y_ : List Int, y_ = (([Go.bits .and .i64 a3 1023, Go.bits .and .i64 a3 1023, Go.bits .and .i64 a3 1023, Go.bits .and .i64 a3 1023, 1, 1, 1, 1] : List Int)) := ⟨_, rfl⟩
                            replace H : ((rate_Bits.f kj20 y133).bind fun t136 => (some (FloatKind.f64.format.order t136 0 == some .gt || FloatKind.f64.format.order t136 0 == some .eq))) = some r := by first | (rw [hy133]; with_reducible exact H) | (have H2_ := (Option.bind_some _ _).symm.trans H; rw [hy133]; with_reducible exact H2_) | (have H2_ := (Option.bind_some _ _).symm.trans H; with_reducible exact H2_) | with_reducible exact H | (rw [hy133]; exact H) | exact H
                            have Ny133 := Aside0.mk hy133
                            clear hy133
                            replace H := Option.bind_eq_some_iff.mp H
                            obtain ⟨t136, A580, H⟩ := H
                            replace H : (some (FloatKind.f64.format.order t136 0 == some .gt || FloatKind.f64.format.order t136 0 == some .eq)) = some r := H
                            have A58 := Aside0.mk A580
                            clear A580
                            obtain rfl := Option.some.inj H
                            clear htrue
                            go_wp2_with (first | ((with_reducible refine gate_callee (f := 21) rfl ?_); refine goesL_ (some 69) rfl rfl Tryd.func21 (by kernel_rfl) rfl #[.int .i64 0, .int .i64 0] rfl (by (try simp only [List.map_toArray, List.map_cons, List.map_nil]); first | done | rfl | (simp only [List.length_drop, List.length_take]; rfl)) ?_; (with_reducible refine (RateNan.rate_Ratio.calls 0 0 t123 _ A44.out).mono ?_); rintro e w59 ⟨qt123, rfl, hst123, hb⟩; have Et123 := RateNanS.sm_ne hst123 c47b0; have Et123b : (FloatKind.f64.format.order qt123 qt123 == some .eq) = false := (by simpa using Et123); clear hst123; refine ⟨_, rfl, ?_⟩; have n0_ := Aside0.mk (below_step (by repeat (first | (with_reducible first | exact HB.out | apply below_alloc | apply pw_below_drewN | apply below_drew1) | exact HB.out)) hb); clear HB; have HB := n0_; clear n0_; (try clear hb); (try clear hb2); (try clear hk); (try clear hi)) | ((with_reducible refine gate_callee (f := 15) rfl ?_); refine goesL_ (some 70) rfl rfl Tryd.func15 (by kernel_rfl) rfl #[] rfl (by (try simp only [List.map_toArray, List.map_cons, List.map_nil]); first | done | rfl | (simp only [List.length_drop, List.length_take]; rfl)) ?_; (with_reducible refine (stevedorelaw36_told.calls  true _ A45.out (Go.Proofs.YtfmfikodnpnblaaDoor.ClkLib.Vars.below HVARS.out (by repeat (first | (with_reducible first | exact HB.out | apply below_alloc | apply pw_below_drewN | apply below_drew1 | refine below_set ?_ (Aside0.out (by assumption))) | exact HB.out)))).mono ?_); rintro e w60 ⟨rfl, hb⟩; refine ⟨_, rfl, ?_⟩; have n0_ := Aside0.mk (below_step (by repeat (first | (with_reducible first | exact HB.out | apply below_alloc | apply pw_below_drewN | apply below_drew1) | exact HB.out)) hb); clear HB; have HB := n0_; clear n0_; (try clear hb); (try clear hb2); (try clear hk); (try clear hi)) | (go_at_call 21; (with_reducible refine (RateNanS.rate_Ratio.calls_real (wrap64 (1 + (Go.bits .and .i64 a2 1099511627775))) 0 t125 _ A48.out (RateNanS.real_of c49b0)).mono ?_); rintro e w61 ⟨rfl, hb⟩; have n0_ := Aside0.mk (below_step (by repeat (first | (with_reducible first | exact HB.out | apply below_alloc | apply pw_below_drewN | apply below_drew1) | exact HB.out)) hb); clear HB; have HB := n0_; clear n0_; (try clear hb); (try clear hb2); (try clear hk); (try clear hi)) | (go_at_call 21; (with_reducible refine (RateNanS.rate_Ratio.calls_real (wrap64 (-(wrap64 (1 + (Go.bits .and .i64 a2 1099511627775))))) 0 t126 _ A50.out (RateNanS.real_of c51b0)).mono ?_); rintro e w62 ⟨rfl, hb⟩; have n0_ := Aside0.mk (below_step (by repeat (first | (with_reducible first | exact HB.out | apply below_alloc | apply pw_below_drewN | apply below_drew1) | exact HB.out)) hb); clear HB; have HB := n0_; clear n0_; (try clear hb); (try clear hb2); (try clear hk); (try clear hi)) | (go_at_call 21; (with_reducible refine (RateNanS.rate_Ratio.calls_real 0 (wrap64 (1 + (Go.bits .and .i64 a2 1099511627775))) t127 _ A52.out (RateNanS.real_of c53b0)).mono ?_); rintro e w63 ⟨rfl, hb⟩; have n0_ := Aside0.mk (below_step (by repeat (first | (with_reducible first | exact HB.out | apply below_alloc | apply pw_below_drewN | apply below_drew1) | exact HB.out)) hb); clear HB; have HB := n0_; clear n0_; (try clear hb); (try clear hb2); (try clear hk); (try clear hi)) | (go_at_call 21; (with_reducible refine (RateNanS.rate_Ratio.calls_real (wrap64 (1 + (Go.bits .and .i64 a2 1099511627775))) (wrap64 (1 + (Go.bits .and .i64 a2 1099511627775))) t128 _ A54.out (RateNanS.real_of c55b0)).mono ?_); rintro e w64 ⟨rfl, hb⟩; have n0_ := Aside0.mk (below_step (by repeat (first | (with_reducible first | exact HB.out | apply below_alloc | apply pw_below_drewN | apply below_drew1) | exact HB.out)) hb); clear HB; have HB := n0_; clear n0_; (try clear hb); (try clear hb2); (try clear hk); (try clear hi)) | ((with_reducible refine gate_dst (N := 102) rfl ?_); (try (refine gate_guard (by rfl) ?_; dsimp only)); refine Kd.R_lit (Kd.int .i64) _ 3 ?hg (N := 102) ?hd (xs := ([0, wrap64 (1 + (Go.bits .and .i64 a3 1023)), 0] : List Int)) (inner := [.int .i64 0, .int .i64 (wrap64 (1 + (Go.bits .and .i64 a3 1023))), .int .i64 0]) (ok := fun _ => True) (okp := fun _ => True) ?hr ?hp (fun _ hk => hk) trivial (Below.refl _ _) (Nat.le_refl _) (by simp) ?_; (case hd => rfl); (case hg => rfl); (case hr => first | (go_simp; done) | (go_simp; rfl)); (case hp => exact (Reps.one (show Kd.M (Kd.int .i64) _ _ _ 0 [.int .i64 0] from rfl) (Reps.one (show Kd.M (Kd.int .i64) _ _ _ (wrap64 (1 + (Go.bits .and .i64 a3 1023))) [.int .i64 (wrap64 (1 + (Go.bits .and .i64 a3 1023)))] from rfl) (Reps.one (show Kd.M (Kd.int .i64) _ _ _ 0 [.int .i64 0] from rfl) (Reps.none _ _))))); intro v130 w65 ho66 hb hg_ hnew_; clear hg_ hnew_; (first | rw [← Ny129.out] at ho66 | (simp only [Int.reduceToNat] at ho66; rw [← Ny129.out] at ho66)); have n0_ := Aside0.mk (Kd.R_lower ho66 (below_size (by repeat (first | (with_reducible first | exact HB.out | apply below_alloc | apply pw_below_drewN | apply below_drew1) | exact HB.out)))); have n1_ := Aside0.mk (below_step (by repeat (first | (with_reducible first | exact HB.out | apply below_alloc | apply pw_below_drewN | apply below_drew1) | exact HB.out)) hb); clear HB; have HO131 := n0_; have HB := n1_; clear n0_ n1_; clear hb ho66; obtain ⟨Ao67, co67, eo67⟩ := Kd.R_slice HO131.out; subst eo67) | (go_at_call 19; (with_reducible refine (rate_Bits.calls kj20 _ _ y129 t132 _ ?side1 ?side2 A56.out).mono ?_); (case side1 => repeat (first | exact (Kd.R_reads' HO131.out).2.2 | (with_reducible refine Kd.C_alloc ?_ _) | (with_reducible refine Kd.C_drewN ?_ _) | (with_reducible refine Kd.C_drew ?_))); (case side2 => exact (Kd.R_reads' HO131.out).2.1); rintro e w68 ⟨rfl, hb⟩; have n0_ := Aside0.mk (Kd.R_below (by (with_reducible repeat (first | apply Kd.R_alloc | apply Kd.R_drewN | apply Kd.R_drew)); exact HO131.out) hb); have n1_ := Aside0.mk (below_step (by repeat (first | (with_reducible first | exact HB.out | apply below_alloc | apply pw_below_drewN | apply below_drew1) | exact HB.out)) hb); clear HO131; clear HB; have HO131 := n0_; have HB := n1_; clear n0_ n1_; (try clear hb); (try clear hb2); (try clear hk); (try clear hi)) | ((with_reducible refine gate_dst (N := 115) rfl ?_); (try (refine gate_guard (by rfl) ?_; dsimp only)); refine Kd.R_lit (Kd.int .i64) _ 3 ?hg (N := 115) ?hd (xs := ([Go.bits .and .i64 a3 1023, Go.bits .and .i64 a3 1023, Go.bits .and .i64 a3 1023, Go.bits .and .i64 a3 1023, 1, 1, 1, 1] : List Int)) (inner := [.int .i64 (Go.bits .and .i64 a3 1023), .int .i64 (Go.bits .and .i64 a3 1023), .int .i64 (Go.bits .and .i64 a3 1023), .int .i64 (Go.bits .and .i64 a3 1023), .int .i64 1, .int .i64 1, .int .i64 1, .int .i64 1]) (ok := fun _ => True) (okp := fun _ => True) ?hr ?hp (fun _ hk => hk) trivial (Below.refl _ _) (Nat.le_refl _) (by simp) ?_; (case hd => rfl); (case hg => rfl); (case hr => first | (go_simp; done) | (go_simp; rfl)); (case hp => exact (Reps.one (show Kd.M (Kd.int .i64) _ _ _ (Go.bits .and .i64 a3 1023) [.int .i64 (Go.bits .and .i64 a3 1023)] from rfl) (Reps.one (show Kd.M (Kd.int .i64) _ _ _ (Go.bits .and .i64 a3 1023) [.int .i64 (Go.bits .and .i64 a3 1023)] from rfl) (Reps.one (show Kd.M (Kd.int .i64) _ _ _ (Go.bits .and .i64 a3 1023) [.int .i64 (Go.bits .and .i64 a3 1023)] from rfl) (Reps.one (show Kd.M (Kd.int .i64) _ _ _ (Go.bits .and .i64 a3 1023) [.int .i64 (Go.bits .and .i64 a3 1023)] from rfl) (Reps.one (show Kd.M (Kd.int .i64) _ _ _ 1 [.int .i64 1] from rfl) (Reps.one (show Kd.M (Kd.int .i64) _ _ _ 1 [.int .i64 1] from rfl) (Reps.one (show Kd.M (Kd.int .i64) _ _ _ 1 [.int .i64 1] from rfl) (Reps.one (show Kd.M (Kd.int .i64) _ _ _ 1 [.int .i64 1] from rfl) (Reps.none _ _)))))))))); intro v134 w69 ho70 hb hg_ hnew_; clear hg_ hnew_; (first | rw [← Ny133.out] at ho70 | (simp only [Int.reduceToNat] at ho70; rw [← Ny133.out] at ho70)); have n0_ := Aside0.mk (Kd.R_elder' (by (with_reducible repeat (first | apply Kd.R_alloc | apply Kd.R_drewN | apply Kd.R_drew)); exact HO131.out) (Kd.R_base ho70) hb); have n1_ := Aside0.mk (Kd.R_lower (Kd.R_new' ho70 (Kd.R_lt (by (with_reducible repeat (first | apply Kd.R_alloc | apply Kd.R_drewN | apply Kd.R_drew)); exact HO131.out))) (below_size (by repeat (first | (with_reducible first | exact HB.out | apply below_alloc | apply pw_below_drewN | apply below_drew1) | exact HB.out)))); have n2_ := Aside0.mk (below_step (by repeat (first | (with_reducible first | exact HB.out | apply below_alloc | apply pw_below_drewN | apply below_drew1) | exact HB.out)) hb); clear HO131; clear HB; have HO131 := n0_; have HO135 := n1_; have HB := n2_; clear n0_ n1_ n2_; clear hb ho70; obtain ⟨Ao71, co71, eo71⟩ := Kd.R_slice HO135.out; subst eo71) | (go_at_call 19; (with_reducible refine (rate_Bits.calls kj20 _ _ y133 t136 _ ?side1 ?side2 A58.out).mono ?_); (case side1 => repeat (first | exact (Kd.R_reads' HO135.out).2.2 | (with_reducible refine Kd.C_alloc ?_ _) | (with_reducible refine Kd.C_drewN ?_ _) | (with_reducible refine Kd.C_drew ?_))); (case side2 => exact (Kd.R_reads' HO135.out).2.1); rintro e w72 ⟨rfl, hb⟩; have n0_ := Aside0.mk (Kd.R_below (by (with_reducible repeat (first | apply Kd.R_alloc | apply Kd.R_drewN | apply Kd.R_drew)); exact HO131.out) hb); have n1_ := Aside0.mk (Kd.R_below (by (with_reducible repeat (first | apply Kd.R_alloc | apply Kd.R_drewN | apply Kd.R_drew)); exact HO135.out) hb); have n2_ := Aside0.mk (below_step (by repeat (first | (with_reducible first | exact HB.out | apply below_alloc | apply pw_below_drewN | apply below_drew1) | exact HB.out)) hb); clear HO131; clear HO135; clear HB; have HO131 := n0_; have HO135 := n1_; have HB := n2_; clear n0_ n1_ n2_; (try clear hb); (try clear hb2); (try clear hk); (try clear hi)))
                            go_ret
                            exact ⟨by first | rfl | (simp only [show ∀ l : List UInt8, (l != []) = (!l.isEmpty) from fun l => by cases l <;> rfl]; rfl) | (simp [errW_none, errW_some] <;> rfl) | (simp [*, errW_none, errW_some] <;> rfl), by repeat (first | (with_reducible first | exact HB.out | apply below_alloc | apply pw_below_drewN | apply below_drew1) | exact HB.out)⟩
                          · rw [if_neg c57] at H
                            exact absurd (Option.some.inj H) (by rw [htrue]; decide)
                        · rw [if_neg c55] at H
                          exact absurd (Option.some.inj H) (by rw [htrue]; decide)
                      · rw [if_neg c53] at H
                        exact absurd (Option.some.inj H) (by rw [htrue]; decide)
                    · rw [if_neg c51] at H
                      exact absurd (Option.some.inj H) (by rw [htrue]; decide)
                  · rw [if_neg c49] at H
                    exact absurd (Option.some.inj H) (by rw [htrue]; decide)
                · rw [if_neg c47] at H
                  exact absurd (Option.some.inj H) (by rw [htrue]; decide)
              · replace c46 := Bool.eq_false_iff.mpr c46
                subst c46
                have H1 : (some false) = some r := by rw [if_neg (show ¬ (false = true) by decide)] at H; exact H
                exact absurd (Option.some.inj H1) (by rw [htrue]; decide)
/-- THE ONE PURE STATEMENT of stevedorelaw36_RateEdges: yours. -/
def stevedorelaw36_RateEdges.Pure : Prop := ∀ (a0 : Int) (a1 : Int) (a2 : Int) (a3 : Int), (Lit.int .i64 a0).wf = true → (Lit.int .i64 a1).wf = true → (Lit.int .i64 a2).wf = true → (Lit.int .i64 a3).wf = true → ∃ k, stevedorelaw36_RateEdges.f k a0 a1 a2 a3 = some true
end Go.Proofs.YtfmfikodnpnblaaDoor.PRateEdges

-- Written by this repo's gprint.py over the kit's printer, out of the translation. Not trusted: Lean checks it.
import Derived.Test.YtfmfikodnpnblaaDoorPClockKeepsx0
namespace Go.Proofs.YtfmfikodnpnblaaDoor.PClockKeeps
open Go.RowKit Go.Proofs.YtfmfikodnpnblaaDoorW.PrintWords Go.Proofs.YtfmfikodnpnblaaDoorW.PrintLast Go.Proofs.YtfmfikodnpnblaaDoorW.PrintMore
attribute [local go_sem] max2_int min2_int max_two min_two max_three min_three max_four min_four   -- for this text's walks alone
open Go.Proofs.YtfmfikodnpnblaaDoor.ClkTold Go.Proofs.YtfmfikodnpnblaaDoor.PClk1 Go.Proofs.YtfmfikodnpnblaaDoor.PClkS
attribute [local go_sem] fop_run fint_run fofint_run
set_option linter.unusedVariables false
set_option linter.unusedSimpArgs false

-- function 31 (stevedorelaw4_told): by hand

-- function 32 (clock_Parse): by hand

-- function 34 (stevedorelaw4_same): by hand

-- function 35 (clock_Fine): by hand

-- function 37 (clock_Text): by hand

-- function 39 (clock_Unix): by hand

-- function 40 (clock_Dos): by hand

-- function 47 (clock_FromUnix): by hand

-- function 48 (clock_FromDos): by hand

/-! ### stevedorelaw4_ClockKeeps: function 14 -/
mutual
def stevedorelaw4_ClockKeeps.j0 : Nat → Nat → Int → Bool → Option (Bool)
  | 0, _, _, _ => none
  | k + 1, x0, x1, x47 => if x47 = true then (some false) else ((clock_Unix.f k x0).bind fun t108 => ((clock_FromUnix.f t108).bind fun t109 => ((clock_Unix.f k t109).bind fun t110 => ((clock_FromUnix.f t110).bind fun t111 => ((stevedorelaw4_same.f t111 t109).bind fun t112 => (if t112 = true then (if (FloatKind.f64.format.order t109 t109 == some .eq) = true then (if (FloatKind.f64.format.order t109 x0 == some .gt) = true then (stevedorelaw4_ClockKeeps.j1 k x0 x1 true) else (if (fvalid .add t109 4607182418800017408) = true then (if (FloatKind.f64.format.order (fop .add t109 4607182418800017408) x0 == some .lt || FloatKind.f64.format.order (fop .add t109 4607182418800017408) x0 == some .eq) = true then (stevedorelaw4_ClockKeeps.j1 k x0 x1 (FloatKind.f64.format.order x0 4751297606873776128 == some .lt)) else (stevedorelaw4_ClockKeeps.j1 k x0 x1 false)) else (none))) else (stevedorelaw4_ClockKeeps.j1 k x0 x1 false)) else (stevedorelaw4_ClockKeeps.j1 k x0 x1 true)))))))
def stevedorelaw4_ClockKeeps.j1 : Nat → Nat → Int → Bool → Option (Bool)
  | 0, _, _, _ => none
  | k + 1, x0, x1, x76 => if x76 = true then (some false) else ((clock_Dos.f k x0).bind fun t113 => ((clock_FromDos.f k t113).bind fun t114 => ((clock_Dos.f k t114).bind fun t115 => ((clock_FromDos.f k t115).bind fun t116 => ((stevedorelaw4_same.f t116 t114).bind fun t117 => (if t117 = true then (stevedorelaw4_ClockKeeps.j2 k x0 x1 t114 ((FloatKind.f64.format.order t114 t114 == some .eq) != (FloatKind.f64.format.order x0 x0 == some .eq))) else (stevedorelaw4_ClockKeeps.j2 k x0 x1 t114 true)))))))
def stevedorelaw4_ClockKeeps.j2 : Nat → Nat → Int → Nat → Bool → Option (Bool)
  | 0, _, _, _, _ => none
  | k + 1, x0, x1, x9, x94 => if x94 = true then (some false) else ((clock_FromDos.f k x1).bind fun t118 => ((stevedorelaw4_told.f).bind fun t119 => (if t119 = true then (if (FloatKind.f64.format.order t118 t118 != some .eq) = true then (if (FloatKind.f64.format.order x0 x0 != some .eq) = true then (some true) else (if (FloatKind.f64.format.order x9 4734073370679705600 == some .gt || FloatKind.f64.format.order x9 4734073370679705600 == some .eq) = true then (some (FloatKind.f64.format.order x9 4751360366145961984 == some .lt)) else (some false))) else ((clock_Dos.f k t118).bind fun t120 => (if t120 = x1 then (if (FloatKind.f64.format.order x0 x0 != some .eq) = true then (some true) else (if (FloatKind.f64.format.order x9 4734073370679705600 == some .gt || FloatKind.f64.format.order x9 4734073370679705600 == some .eq) = true then (some (FloatKind.f64.format.order x9 4751360366145961984 == some .lt)) else (some false))) else (some false)))) else (some false))))
end
def stevedorelaw4_ClockKeeps.f (k : Nat) (a0 : Nat) (a1 : Int) : Option (Bool) := (clock_Fine.f a0).bind fun t101 => ((clock_Text.f k a0).bind fun t102 => ((clock_Parse.f k t102).bind fun bt103 => ((clock_Fine.f t101).bind fun t105 => ((stevedorelaw4_same.f t105 t101).bind fun t106 => (if t106 = true then (if bt103.2 = 0 then ((stevedorelaw4_same.f bt103.1 t101).bind fun t107 => (if t107 = true then (if (FloatKind.f64.format.order t101 a0 == some .gt) = true then (if (FloatKind.f64.format.order a0 13979173243358019584 == some .gt || FloatKind.f64.format.order a0 13979173243358019584 == some .eq) = true then (stevedorelaw4_ClockKeeps.j0 k a0 a1 true) else (stevedorelaw4_ClockKeeps.j0 k a0 a1 (FloatKind.f64.format.order t101 t101 != some .eq))) else (stevedorelaw4_ClockKeeps.j0 k a0 a1 (FloatKind.f64.format.order t101 t101 != some .eq))) else (stevedorelaw4_ClockKeeps.j0 k a0 a1 true))) else (stevedorelaw4_ClockKeeps.j0 k a0 a1 true)) else (stevedorelaw4_ClockKeeps.j0 k a0 a1 true))))))
theorem stevedorelaw4_ClockKeeps.mono_l : ∀ k, (∀ y0 y1 y2, LeO (stevedorelaw4_ClockKeeps.j0 k y0 y1 y2) (stevedorelaw4_ClockKeeps.j0 (k + 1) y0 y1 y2)) ∧ (∀ y0 y1 y2, LeO (stevedorelaw4_ClockKeeps.j1 k y0 y1 y2) (stevedorelaw4_ClockKeeps.j1 (k + 1) y0 y1 y2)) ∧ (∀ y0 y1 y2 y3, LeO (stevedorelaw4_ClockKeeps.j2 k y0 y1 y2 y3) (stevedorelaw4_ClockKeeps.j2 (k + 1) y0 y1 y2 y3))
  | 0 => ⟨fun _ _ _ r h => by simp [stevedorelaw4_ClockKeeps.j0] at h, fun _ _ _ r h => by simp [stevedorelaw4_ClockKeeps.j1] at h, fun _ _ _ _ r h => by simp [stevedorelaw4_ClockKeeps.j2] at h⟩
  | k + 1 => by
    obtain ⟨ih0, ih1, ih2⟩ := stevedorelaw4_ClockKeeps.mono_l k
    refine ⟨?_, ?_, ?_⟩
    · intro y0 y1 y2
      unfold stevedorelaw4_ClockKeeps.j0
      repeat' first
      | (with_reducible exact ih0 _ _ _)
      | (with_reducible exact ih1 _ _ _)
      | (with_reducible exact ih2 _ _ _ _)
      | (with_reducible exact clock_Dos.mono _ _)
      | (with_reducible exact clock_FromDos.mono _ _)
      | (with_reducible exact clock_Parse.mono _ _)
      | (with_reducible exact clock_Text.mono _ _)
      | (with_reducible exact clock_Unix.mono _ _)
      | (with_reducible exact LeO.refl _)
      | (with_reducible exact LeO.none _)
      | (with_reducible refine LeO.ite ?_ ?_)
      | (with_reducible refine LeO.bind ?_ (fun _ => ?_))
      | exact ih0 _ _ _
      | exact ih1 _ _ _
      | exact ih2 _ _ _ _
      | exact clock_Dos.mono _ _
      | exact clock_FromDos.mono _ _
      | exact clock_Parse.mono _ _
      | exact clock_Text.mono _ _
      | exact clock_Unix.mono _ _
      | exact LeO.none _
      | refine LeO.ite ?_ ?_
      | refine LeO.bind ?_ (fun _ => ?_)
    · intro y0 y1 y2
      unfold stevedorelaw4_ClockKeeps.j1
      repeat' first
      | (with_reducible exact ih0 _ _ _)
      | (with_reducible exact ih1 _ _ _)
      | (with_reducible exact ih2 _ _ _ _)
      | (with_reducible exact clock_Dos.mono _ _)
      | (with_reducible exact clock_FromDos.mono _ _)
      | (with_reducible exact clock_Parse.mono _ _)
      | (with_reducible exact clock_Text.mono _ _)
      | (with_reducible exact clock_Unix.mono _ _)
      | (with_reducible exact LeO.refl _)
      | (with_reducible exact LeO.none _)
      | (with_reducible refine LeO.ite ?_ ?_)
      | (with_reducible refine LeO.bind ?_ (fun _ => ?_))
      | exact ih0 _ _ _
      | exact ih1 _ _ _
      | exact ih2 _ _ _ _
      | exact clock_Dos.mono _ _
      | exact clock_FromDos.mono _ _
      | exact clock_Parse.mono _ _
      | exact clock_Text.mono _ _
      | exact clock_Unix.mono _ _
      | exact LeO.none _
      | refine LeO.ite ?_ ?_
      | refine LeO.bind ?_ (fun _ => ?_)
    · intro y0 y1 y2 y3
      unfold stevedorelaw4_ClockKeeps.j2
      repeat' first
      | (with_reducible exact ih0 _ _ _)
      | (with_reducible exact ih1 _ _ _)
      | (with_reducible exact ih2 _ _ _ _)
      | (with_reducible exact clock_Dos.mono _ _)
      | (with_reducible exact clock_FromDos.mono _ _)
      | (with_reducible exact clock_Parse.mono _ _)
      | (with_reducible exact clock_Text.mono _ _)
      | (with_reducible exact clock_Unix.mono _ _)
      | (with_reducible exact LeO.refl _)
      | (with_reducible exact LeO.none _)
      | (with_reducible refine LeO.ite ?_ ?_)
      | (with_reducible refine LeO.bind ?_ (fun _ => ?_))
      | exact ih0 _ _ _
      | exact ih1 _ _ _
      | exact ih2 _ _ _ _
      | exact clock_Dos.mono _ _
      | exact clock_FromDos.mono _ _
      | exact clock_Parse.mono _ _
      | exact clock_Text.mono _ _
      | exact clock_Unix.mono _ _
      | exact LeO.none _
      | refine LeO.ite ?_ ?_
      | refine LeO.bind ?_ (fun _ => ?_)
theorem stevedorelaw4_ClockKeeps.mono : ∀ a0 a1 k, LeO (stevedorelaw4_ClockKeeps.f k a0 a1) (stevedorelaw4_ClockKeeps.f (k + 1) a0 a1) := by
  intro a0 a1 k
  obtain ⟨ih0, ih1, ih2⟩ := stevedorelaw4_ClockKeeps.mono_l k
  unfold stevedorelaw4_ClockKeeps.f
  repeat' first
      | (with_reducible exact ih0 _ _ _)
      | (with_reducible exact ih1 _ _ _)
      | (with_reducible exact ih2 _ _ _ _)
      | (with_reducible exact clock_Dos.mono _ _)
      | (with_reducible exact clock_FromDos.mono _ _)
      | (with_reducible exact clock_Parse.mono _ _)
      | (with_reducible exact clock_Text.mono _ _)
      | (with_reducible exact clock_Unix.mono _ _)
      | (with_reducible exact LeO.refl _)
      | (with_reducible exact LeO.none _)
      | (with_reducible refine LeO.ite ?_ ?_)
      | (with_reducible refine LeO.bind ?_ (fun _ => ?_))
      | exact ih0 _ _ _
      | exact ih1 _ _ _
      | exact ih2 _ _ _ _
      | exact clock_Dos.mono _ _
      | exact clock_FromDos.mono _ _
      | exact clock_Parse.mono _ _
      | exact clock_Text.mono _ _
      | exact clock_Unix.mono _ _
      | exact LeO.none _
      | refine LeO.ite ?_ ?_
      | refine LeO.bind ?_ (fun _ => ?_)
set_option maxHeartbeats 8000000 in
set_option maxRecDepth 100000 in
theorem stevedorelaw4_ClockKeeps.calls (k : Nat) (a0 : Nat) (a1 : Int) (r : Bool) (w : World) (h : stevedorelaw4_ClockKeeps.f k a0 a1 = some r) (hv : Go.Proofs.YtfmfikodnpnblaaDoor.ClkLib.Vars w) :
    Calls Tryd.prog 14 #[.float .f64 a0, .int .i64 a1] w fun e w' => e = .returned (.bool r) ∧ Below w.heap.size w w' := by
  have HVARS := Aside0.mk hv
  have HB := Aside0.mk (Below.refl w.heap.size w)
  have H : ((clock_Fine.f a0).bind fun t101 => ((clock_Text.f k a0).bind fun t102 => ((clock_Parse.f k t102).bind fun bt103 => ((clock_Fine.f t101).bind fun t105 => ((stevedorelaw4_same.f t105 t101).bind fun t106 => (if t106 = true then (if bt103.2 = 0 then ((stevedorelaw4_same.f bt103.1 t101).bind fun t107 => (if t107 = true then (if (FloatKind.f64.format.order t101 a0 == some .gt) = true then (if (FloatKind.f64.format.order a0 13979173243358019584 == some .gt || FloatKind.f64.format.order a0 13979173243358019584 == some .eq) = true then (stevedorelaw4_ClockKeeps.j0 k a0 a1 true) else (stevedorelaw4_ClockKeeps.j0 k a0 a1 (FloatKind.f64.format.order t101 t101 != some .eq))) else (stevedorelaw4_ClockKeeps.j0 k a0 a1 (FloatKind.f64.format.order t101 t101 != some .eq))) else (stevedorelaw4_ClockKeeps.j0 k a0 a1 true))) else (stevedorelaw4_ClockKeeps.j0 k a0 a1 true)) else (stevedorelaw4_ClockKeeps.j0 k a0 a1 true))))))) = some r := h
  clear h
  replace H := Option.bind_eq_some_iff.mp H
  obtain ⟨t101, A30, H⟩ := H
  replace H : ((clock_Text.f k a0).bind fun t102 => ((clock_Parse.f k t102).bind fun bt103 => ((clock_Fine.f t101).bind fun t105 => ((stevedorelaw4_same.f t105 t101).bind fun t106 => (if t106 = true then (if bt103.2 = 0 then ((stevedorelaw4_same.f bt103.1 t101).bind fun t107 => (if t107 = true then (if (FloatKind.f64.format.order t101 a0 == some .gt) = true then (if (FloatKind.f64.format.order a0 13979173243358019584 == some .gt || FloatKind.f64.format.order a0 13979173243358019584 == some .eq) = true then (stevedorelaw4_ClockKeeps.j0 k a0 a1 true) else (stevedorelaw4_ClockKeeps.j0 k a0 a1 (FloatKind.f64.format.order t101 t101 != some .eq))) else (stevedorelaw4_ClockKeeps.j0 k a0 a1 (FloatKind.f64.format.order t101 t101 != some .eq))) else (stevedorelaw4_ClockKeeps.j0 k a0 a1 true))) else (stevedorelaw4_ClockKeeps.j0 k a0 a1 true)) else (stevedorelaw4_ClockKeeps.j0 k a0 a1 true)))))) = some r := H
  have A3 := Aside0.mk A30
  clear A30
  replace H := Option.bind_eq_some_iff.mp H
  obtain ⟨t102, A40, H⟩ := H
  replace H : ((clock_Parse.f k t102).bind fun bt103 => ((clock_Fine.f t101).bind fun t105 => ((stevedorelaw4_same.f t105 t101).bind fun t106 => (if t106 = true then (if bt103.2 = 0 then ((stevedorelaw4_same.f bt103.1 t101).bind fun t107 => (if t107 = true then (if (FloatKind.f64.format.order t101 a0 == some .gt) = true then (if (FloatKind.f64.format.order a0 13979173243358019584 == some .gt || FloatKind.f64.format.order a0 13979173243358019584 == some .eq) = true then (stevedorelaw4_ClockKeeps.j0 k a0 a1 true) else (stevedorelaw4_ClockKeeps.j0 k a0 a1 (FloatKind.f64.format.order t101 t101 != some .eq))) else (stevedorelaw4_ClockKeeps.j0 k a0 a1 (FloatKind.f64.format.order t101 t101 != some .eq))) else (stevedorelaw4_ClockKeeps.j0 k a0 a1 true))) else (stevedorelaw4_ClockKeeps.j0 k a0 a1 true)) else (stevedorelaw4_ClockKeeps.j0 k a0 a1 true))))) = some r := H
  have A4 := Aside0.mk A40
  clear A40
  replace H := Option.bind_eq_some_iff.mp H
  obtain ⟨⟨t103, t104⟩, A50, H⟩ := H
  replace H : ((clock_Fine.f t101).bind fun t105 => ((stevedorelaw4_same.f t105 t101).bind fun t106 => (if t106 = true then (if t104 = 0 then ((stevedorelaw4_same.f t103 t101).bind fun t107 => (if t107 = true then (if (FloatKind.f64.format.order t101 a0 == some .gt) = true then (if (FloatKind.f64.format.order a0 13979173243358019584 == some .gt || FloatKind.f64.format.order a0 13979173243358019584 == some .eq) = true then (stevedorelaw4_ClockKeeps.j0 k a0 a1 true) else (stevedorelaw4_ClockKeeps.j0 k a0 a1 (FloatKind.f64.format.order t101 t101 != some .eq))) else (stevedorelaw4_ClockKeeps.j0 k a0 a1 (FloatKind.f64.format.order t101 t101 != some .eq))) else (stevedorelaw4_ClockKeeps.j0 k a0 a1 true))) else (stevedorelaw4_ClockKeeps.j0 k a0 a1 true)) else (stevedorelaw4_ClockKeeps.j0 k a0 a1 true)))) = some r := H
  have A5 := Aside0.mk A50
  clear A50
  have HC6 := Aside0.mk H
  clear H
  go_enter Tryd.func14, Tryd.ntmps14
  go_upto_region 3 with (first | ((with_reducible refine gate_callee (f := 35) rfl ?_); refine goesL_ (some 12) rfl rfl Tryd.func35 (by kernel_rfl) rfl #[.float .f64 a0] rfl (by (try simp only [List.map_toArray, List.map_cons, List.map_nil]); first | done | rfl | (simp only [List.length_drop, List.length_take]; rfl)) ?_; (with_reducible refine (clock_Fine.calls a0 t101 _ A3.out).mono ?_); rintro e w7 ⟨rfl, hb⟩; refine ⟨_, rfl, ?_⟩; have n0_ := Aside0.mk (below_step (by repeat (first | (with_reducible first | exact HB.out | apply below_alloc | apply pw_below_drewN | apply below_drew1) | exact HB.out)) hb); clear HB; have HB := n0_; clear n0_; (try clear hb); (try clear hb2); (try clear hk); (try clear hi)) | ((with_reducible refine gate_callee (f := 37) rfl ?_); refine goesL_ (some 15) rfl rfl Tryd.func37 (by kernel_rfl) rfl #[.float .f64 a0] rfl (by (try simp only [List.map_toArray, List.map_cons, List.map_nil]); first | done | rfl | (simp only [List.length_drop, List.length_take]; rfl)) ?_; (with_reducible refine (clock_Text.calls k a0 t102 _ A4.out (Go.Proofs.YtfmfikodnpnblaaDoor.ClkLib.Vars.below HVARS.out (by repeat (first | (with_reducible first | exact HB.out | apply below_alloc | apply pw_below_drewN | apply below_drew1 | refine below_set ?_ (Aside0.out (by assumption))) | exact HB.out)))).mono ?_); rintro e w8 ⟨rfl, hb⟩; refine ⟨_, rfl, ?_⟩; have n0_ := Aside0.mk (below_step (by repeat (first | (with_reducible first | exact HB.out | apply below_alloc | apply pw_below_drewN | apply below_drew1) | exact HB.out)) hb); clear HB; have HB := n0_; clear n0_; (try clear hb); (try clear hb2); (try clear hk); (try clear hi)) | ((with_reducible refine gate_callee (f := 32) rfl ?_); refine goesL_ (some 16) rfl rfl Tryd.func32 (by kernel_rfl) rfl #[.string t102] rfl (by (try simp only [List.map_toArray, List.map_cons, List.map_nil]); first | done | rfl | (simp only [List.length_drop, List.length_take]; rfl)) ?_; (with_reducible refine (clock_Parse.calls k t102 t103 t104 _ A5.out).mono ?_); rintro e w9 ⟨rfl, hb⟩; refine ⟨_, rfl, ?_⟩; have n0_ := Aside0.mk (below_step (by repeat (first | (with_reducible first | exact HB.out | apply below_alloc | apply pw_below_drewN | apply below_drew1) | exact HB.out)) hb); clear HB; have HB := n0_; clear n0_; (try clear hb); (try clear hb2); (try clear hk); (try clear hi)))
  (try simp only [Act.put, List.setIfInBounds_toArray, List.set_cons_zero, List.set_cons_succ])
  go_cut [47] (fun v47 wc => ∃ (kq : Nat) (x47_5 : Bool), v47 = .bool x47_5 ∧ Aside0 (stevedorelaw4_ClockKeeps.j0 kq a0 a1 x47_5 = some r) ∧ Aside0 (kq ≤ k) ∧ Aside0 (Below w.heap.size w wc))
  case first =>
    have H := HC6.out
    clear HC6
    replace H := Option.bind_eq_some_iff.mp H
    obtain ⟨t105, A100, H⟩ := H
    replace H : ((stevedorelaw4_same.f t105 t101).bind fun t106 => (if t106 = true then (if t104 = 0 then ((stevedorelaw4_same.f t103 t101).bind fun t107 => (if t107 = true then (if (FloatKind.f64.format.order t101 a0 == some .gt) = true then (if (FloatKind.f64.format.order a0 13979173243358019584 == some .gt || FloatKind.f64.format.order a0 13979173243358019584 == some .eq) = true then (stevedorelaw4_ClockKeeps.j0 k a0 a1 true) else (stevedorelaw4_ClockKeeps.j0 k a0 a1 (FloatKind.f64.format.order t101 t101 != some .eq))) else (stevedorelaw4_ClockKeeps.j0 k a0 a1 (FloatKind.f64.format.order t101 t101 != some .eq))) else (stevedorelaw4_ClockKeeps.j0 k a0 a1 true))) else (stevedorelaw4_ClockKeeps.j0 k a0 a1 true)) else (stevedorelaw4_ClockKeeps.j0 k a0 a1 true))) = some r := H
    have A10 := Aside0.mk A100
    clear A100
    replace H := Option.bind_eq_some_iff.mp H
    obtain ⟨t106, A110, H⟩ := H
    replace H : (if t106 = true then (if t104 = 0 then ((stevedorelaw4_same.f t103 t101).bind fun t107 => (if t107 = true then (if (FloatKind.f64.format.order t101 a0 == some .gt) = true then (if (FloatKind.f64.format.order a0 13979173243358019584 == some .gt || FloatKind.f64.format.order a0 13979173243358019584 == some .eq) = true then (stevedorelaw4_ClockKeeps.j0 k a0 a1 true) else (stevedorelaw4_ClockKeeps.j0 k a0 a1 (FloatKind.f64.format.order t101 t101 != some .eq))) else (stevedorelaw4_ClockKeeps.j0 k a0 a1 (FloatKind.f64.format.order t101 t101 != some .eq))) else (stevedorelaw4_ClockKeeps.j0 k a0 a1 true))) else (stevedorelaw4_ClockKeeps.j0 k a0 a1 true)) else (stevedorelaw4_ClockKeeps.j0 k a0 a1 true)) = some r := H
    have A11 := Aside0.mk A110
    clear A110
    by_cases c12 : t106 = true
    · subst c12
      have H1 : (if t104 = 0 then ((stevedorelaw4_same.f t103 t101).bind fun t107 => (if t107 = true then (if (FloatKind.f64.format.order t101 a0 == some .gt) = true then (if (FloatKind.f64.format.order a0 13979173243358019584 == some .gt || FloatKind.f64.format.order a0 13979173243358019584 == some .eq) = true then (stevedorelaw4_ClockKeeps.j0 k a0 a1 true) else (stevedorelaw4_ClockKeeps.j0 k a0 a1 (FloatKind.f64.format.order t101 t101 != some .eq))) else (stevedorelaw4_ClockKeeps.j0 k a0 a1 (FloatKind.f64.format.order t101 t101 != some .eq))) else (stevedorelaw4_ClockKeeps.j0 k a0 a1 true))) else (stevedorelaw4_ClockKeeps.j0 k a0 a1 true)) = some r := by rw [if_pos rfl] at H; exact H
      clear H
      have H := H1
      clear H1
      by_cases c13 : t104 = 0
      · rw [if_pos c13] at H
        have c13b0 : (t104 == 0) = true := beq_iff_eq.mpr c13
        have c13b1 : (t104 != 0) = false := bne_eq_false_iff_eq.mpr c13
        clear c13
        (first | rw [c13b0] | (simp only [i64_w, i32_w]; rw [c13b0]) | rw [c13b1] | skip)
        replace H := Option.bind_eq_some_iff.mp H
        obtain ⟨t107, A140, H⟩ := H
        replace H : (if t107 = true then (if (FloatKind.f64.format.order t101 a0 == some .gt) = true then (if (FloatKind.f64.format.order a0 13979173243358019584 == some .gt || FloatKind.f64.format.order a0 13979173243358019584 == some .eq) = true then (stevedorelaw4_ClockKeeps.j0 k a0 a1 true) else (stevedorelaw4_ClockKeeps.j0 k a0 a1 (FloatKind.f64.format.order t101 t101 != some .eq))) else (stevedorelaw4_ClockKeeps.j0 k a0 a1 (FloatKind.f64.format.order t101 t101 != some .eq))) else (stevedorelaw4_ClockKeeps.j0 k a0 a1 true)) = some r := H
        have A14 := Aside0.mk A140
        clear A140
        by_cases c15 : t107 = true
        · subst c15
          have H1 : (if (FloatKind.f64.format.order t101 a0 == some .gt) = true then (if (FloatKind.f64.format.order a0 13979173243358019584 == some .gt || FloatKind.f64.format.order a0 13979173243358019584 == some .eq) = true then (stevedorelaw4_ClockKeeps.j0 k a0 a1 true) else (stevedorelaw4_ClockKeeps.j0 k a0 a1 (FloatKind.f64.format.order t101 t101 != some .eq))) else (stevedorelaw4_ClockKeeps.j0 k a0 a1 (FloatKind.f64.format.order t101 t101 != some .eq))) = some r := by rw [if_pos rfl] at H; exact H
          clear H
          have H := H1
          clear H1
          by_cases c16 : (FloatKind.f64.format.order t101 a0 == some .gt) = true
          · rw [if_pos c16] at H
            have c16b0 : (FloatKind.f64.format.order t101 a0 == some .gt) = true := c16
            (try (have c16b1 : decide (FloatKind.f64.format.order t101 a0 = some .gt) = true := by simpa using c16))
            (try (have c16b2 : (FloatKind.f64.format.order t101 a0 == some .gt) = true := by simpa using c16))
            clear c16
            by_cases c17 : (FloatKind.f64.format.order a0 13979173243358019584 == some .gt || FloatKind.f64.format.order a0 13979173243358019584 == some .eq) = true
            · rw [if_pos c17] at H
              have c17b0 : (FloatKind.f64.format.order a0 13979173243358019584 == some .gt || FloatKind.f64.format.order a0 13979173243358019584 == some .eq) = true := c17
              have c17b7 : (!(FloatKind.f64.format.order a0 13979173243358019584 == some .gt) && !(FloatKind.f64.format.order a0 13979173243358019584 == some .eq)) = false := by rw [← Bool.not_or, c17b0]; rfl
              (try (have c17b1 : decide (FloatKind.f64.format.order a0 13979173243358019584 = some .gt || FloatKind.f64.format.order a0 13979173243358019584 == some .eq) = true := by simpa using c17))
              (try (have c17b2 : (FloatKind.f64.format.order a0 13979173243358019584 == some .gt || FloatKind.f64.format.order a0 13979173243358019584 == some .eq) = true := by simpa using c17))
              clear c17
              have H' := Aside0.mk H
              clear H
              go_wp2_with (first | ((with_reducible refine gate_callee (f := 35) rfl ?_); refine goesL_ (some 20) rfl rfl Tryd.func35 (by kernel_rfl) rfl #[.float .f64 t101] rfl (by (try simp only [List.map_toArray, List.map_cons, List.map_nil]); first | done | rfl | (simp only [List.length_drop, List.length_take]; rfl)) ?_; (with_reducible refine (clock_Fine.calls t101 t105 _ A10.out).mono ?_); rintro e w18 ⟨rfl, hb⟩; refine ⟨_, rfl, ?_⟩; have n0_ := Aside0.mk (below_step (by repeat (first | (with_reducible first | exact HB.out | apply below_alloc | apply pw_below_drewN | apply below_drew1) | exact HB.out)) hb); clear HB; have HB := n0_; clear n0_; (try clear hb); (try clear hb2); (try clear hk); (try clear hi)) | ((with_reducible refine gate_callee (f := 34) rfl ?_); refine goesL_ (some 22) rfl rfl Tryd.func34 (by kernel_rfl) rfl #[.float .f64 t105, .float .f64 t101] rfl (by (try simp only [List.map_toArray, List.map_cons, List.map_nil]); first | done | rfl | (simp only [List.length_drop, List.length_take]; rfl)) ?_; (with_reducible refine (stevedorelaw4_same.calls t105 t101 true _ A11.out).mono ?_); rintro e w' ⟨rfl, ⟨nd, rfl⟩⟩; refine ⟨_, rfl, ?_⟩) | (go_at_call 34; (with_reducible refine (stevedorelaw4_same.calls t103 t101 true _ A14.out).mono ?_); rintro e w' ⟨rfl, ⟨nd, rfl⟩⟩))
              go_meet
              case rel => exact ⟨_, (true), (by first | rfl | (simp; done) | (simp [*]; done)), H', ⟨by first | omega | exact Nat.le_refl _⟩, ⟨by repeat (first | (with_reducible first | exact HB.out | apply below_alloc | apply pw_below_drewN | apply below_drew1) | exact HB.out)⟩⟩
            · rw [if_neg c17] at H
              have c17b0 : (FloatKind.f64.format.order a0 13979173243358019584 == some .gt || FloatKind.f64.format.order a0 13979173243358019584 == some .eq) = false := by simpa using c17
              have c17b7 : (!(FloatKind.f64.format.order a0 13979173243358019584 == some .gt) && !(FloatKind.f64.format.order a0 13979173243358019584 == some .eq)) = true := by rw [← Bool.not_or, c17b0]; rfl
              (try (have c17b1 : decide (FloatKind.f64.format.order a0 13979173243358019584 = some .gt || FloatKind.f64.format.order a0 13979173243358019584 == some .eq) = false := by simpa using c17))
              (try (have c17b2 : (FloatKind.f64.format.order a0 13979173243358019584 == some .gt || FloatKind.f64.format.order a0 13979173243358019584 == some .eq) = false := by simpa using c17))
              (try (have c17b3 : ¬ (FloatKind.f64.format.order a0 13979173243358019584 = some .gt || FloatKind.f64.format.order a0 13979173243358019584 == some .eq) := by simpa using c17))
              clear c17
              have H' := Aside0.mk H
              clear H
              go_wp2_with (first | ((with_reducible refine gate_callee (f := 35) rfl ?_); refine goesL_ (some 20) rfl rfl Tryd.func35 (by kernel_rfl) rfl #[.float .f64 t101] rfl (by (try simp only [List.map_toArray, List.map_cons, List.map_nil]); first | done | rfl | (simp only [List.length_drop, List.length_take]; rfl)) ?_; (with_reducible refine (clock_Fine.calls t101 t105 _ A10.out).mono ?_); rintro e w19 ⟨rfl, hb⟩; refine ⟨_, rfl, ?_⟩; have n0_ := Aside0.mk (below_step (by repeat (first | (with_reducible first | exact HB.out | apply below_alloc | apply pw_below_drewN | apply below_drew1) | exact HB.out)) hb); clear HB; have HB := n0_; clear n0_; (try clear hb); (try clear hb2); (try clear hk); (try clear hi)) | ((with_reducible refine gate_callee (f := 34) rfl ?_); refine goesL_ (some 22) rfl rfl Tryd.func34 (by kernel_rfl) rfl #[.float .f64 t105, .float .f64 t101] rfl (by (try simp only [List.map_toArray, List.map_cons, List.map_nil]); first | done | rfl | (simp only [List.length_drop, List.length_take]; rfl)) ?_; (with_reducible refine (stevedorelaw4_same.calls t105 t101 true _ A11.out).mono ?_); rintro e w' ⟨rfl, ⟨nd, rfl⟩⟩; refine ⟨_, rfl, ?_⟩) | (go_at_call 34; (with_reducible refine (stevedorelaw4_same.calls t103 t101 true _ A14.out).mono ?_); rintro e w' ⟨rfl, ⟨nd, rfl⟩⟩))
              go_meet
              case rel => exact ⟨_, ((FloatKind.f64.format.order t101 t101 != some .eq)), (by first | rfl | (simp; done) | (simp [*]; done)), H', ⟨by first | omega | exact Nat.le_refl _⟩, ⟨by repeat (first | (with_reducible first | exact HB.out | apply below_alloc | apply pw_below_drewN | apply below_drew1) | exact HB.out)⟩⟩
          · rw [if_neg c16] at H
            have c16b0 : (FloatKind.f64.format.order t101 a0 == some .gt) = false := by simpa using c16
            (try (have c16b1 : decide (FloatKind.f64.format.order t101 a0 = some .gt) = false := by simpa using c16))
            (try (have c16b2 : (FloatKind.f64.format.order t101 a0 == some .gt) = false := by simpa using c16))
            (try (have c16b3 : ¬ (FloatKind.f64.format.order t101 a0 = some .gt) := by simpa using c16))
            clear c16
            have H' := Aside0.mk H
            clear H
            go_wp2_with (first | ((with_reducible refine gate_callee (f := 35) rfl ?_); refine goesL_ (some 20) rfl rfl Tryd.func35 (by kernel_rfl) rfl #[.float .f64 t101] rfl (by (try simp only [List.map_toArray, List.map_cons, List.map_nil]); first | done | rfl | (simp only [List.length_drop, List.length_take]; rfl)) ?_; (with_reducible refine (clock_Fine.calls t101 t105 _ A10.out).mono ?_); rintro e w20 ⟨rfl, hb⟩; refine ⟨_, rfl, ?_⟩; have n0_ := Aside0.mk (below_step (by repeat (first | (with_reducible first | exact HB.out | apply below_alloc | apply pw_below_drewN | apply below_drew1) | exact HB.out)) hb); clear HB; have HB := n0_; clear n0_; (try clear hb); (try clear hb2); (try clear hk); (try clear hi)) | ((with_reducible refine gate_callee (f := 34) rfl ?_); refine goesL_ (some 22) rfl rfl Tryd.func34 (by kernel_rfl) rfl #[.float .f64 t105, .float .f64 t101] rfl (by (try simp only [List.map_toArray, List.map_cons, List.map_nil]); first | done | rfl | (simp only [List.length_drop, List.length_take]; rfl)) ?_; (with_reducible refine (stevedorelaw4_same.calls t105 t101 true _ A11.out).mono ?_); rintro e w' ⟨rfl, ⟨nd, rfl⟩⟩; refine ⟨_, rfl, ?_⟩) | (go_at_call 34; (with_reducible refine (stevedorelaw4_same.calls t103 t101 true _ A14.out).mono ?_); rintro e w' ⟨rfl, ⟨nd, rfl⟩⟩))
            go_meet
            case rel => exact ⟨_, ((FloatKind.f64.format.order t101 t101 != some .eq)), (by first | rfl | (simp; done) | (simp [*]; done)), H', ⟨by first | omega | exact Nat.le_refl _⟩, ⟨by repeat (first | (with_reducible first | exact HB.out | apply below_alloc | apply pw_below_drewN | apply below_drew1) | exact HB.out)⟩⟩
        · replace c15 := Bool.eq_false_iff.mpr c15
          subst c15
          have H1 : (stevedorelaw4_ClockKeeps.j0 k a0 a1 true) = some r := by rw [if_neg (show ¬ (false = true) by decide)] at H; exact H
          clear H
          have H := H1
          clear H1
          have H' := Aside0.mk H
          clear H
          go_wp2_with (first | ((with_reducible refine gate_callee (f := 35) rfl ?_); refine goesL_ (some 20) rfl rfl Tryd.func35 (by kernel_rfl) rfl #[.float .f64 t101] rfl (by (try simp only [List.map_toArray, List.map_cons, List.map_nil]); first | done | rfl | (simp only [List.length_drop, List.length_take]; rfl)) ?_; (with_reducible refine (clock_Fine.calls t101 t105 _ A10.out).mono ?_); rintro e w21 ⟨rfl, hb⟩; refine ⟨_, rfl, ?_⟩; have n0_ := Aside0.mk (below_step (by repeat (first | (with_reducible first | exact HB.out | apply below_alloc | apply pw_below_drewN | apply below_drew1) | exact HB.out)) hb); clear HB; have HB := n0_; clear n0_; (try clear hb); (try clear hb2); (try clear hk); (try clear hi)) | ((with_reducible refine gate_callee (f := 34) rfl ?_); refine goesL_ (some 22) rfl rfl Tryd.func34 (by kernel_rfl) rfl #[.float .f64 t105, .float .f64 t101] rfl (by (try simp only [List.map_toArray, List.map_cons, List.map_nil]); first | done | rfl | (simp only [List.length_drop, List.length_take]; rfl)) ?_; (with_reducible refine (stevedorelaw4_same.calls t105 t101 true _ A11.out).mono ?_); rintro e w' ⟨rfl, ⟨nd, rfl⟩⟩; refine ⟨_, rfl, ?_⟩) | (go_at_call 34; (with_reducible refine (stevedorelaw4_same.calls t103 t101 false _ A14.out).mono ?_); rintro e w' ⟨rfl, ⟨nd, rfl⟩⟩))
          go_meet
          case rel => exact ⟨_, (true), (by first | rfl | (simp; done) | (simp [*]; done)), H', ⟨by first | omega | exact Nat.le_refl _⟩, ⟨by repeat (first | (with_reducible first | exact HB.out | apply below_alloc | apply pw_below_drewN | apply below_drew1) | exact HB.out)⟩⟩
      · rw [if_neg c13] at H
        have c13b0 : (t104 == 0) = false := beq_eq_false_iff_ne.mpr c13
        have c13b1 : (t104 != 0) = true := bne_iff_ne.mpr c13
        (first | rw [c13b0] | (simp only [i64_w, i32_w]; rw [c13b0]) | rw [c13b1] | skip)
        have H' := Aside0.mk H
        clear H
        go_wp2_with (first | ((with_reducible refine gate_callee (f := 35) rfl ?_); refine goesL_ (some 20) rfl rfl Tryd.func35 (by kernel_rfl) rfl #[.float .f64 t101] rfl (by (try simp only [List.map_toArray, List.map_cons, List.map_nil]); first | done | rfl | (simp only [List.length_drop, List.length_take]; rfl)) ?_; (with_reducible refine (clock_Fine.calls t101 t105 _ A10.out).mono ?_); rintro e w22 ⟨rfl, hb⟩; refine ⟨_, rfl, ?_⟩; have n0_ := Aside0.mk (below_step (by repeat (first | (with_reducible first | exact HB.out | apply below_alloc | apply pw_below_drewN | apply below_drew1) | exact HB.out)) hb); clear HB; have HB := n0_; clear n0_; (try clear hb); (try clear hb2); (try clear hk); (try clear hi)) | ((with_reducible refine gate_callee (f := 34) rfl ?_); refine goesL_ (some 22) rfl rfl Tryd.func34 (by kernel_rfl) rfl #[.float .f64 t105, .float .f64 t101] rfl (by (try simp only [List.map_toArray, List.map_cons, List.map_nil]); first | done | rfl | (simp only [List.length_drop, List.length_take]; rfl)) ?_; (with_reducible refine (stevedorelaw4_same.calls t105 t101 true _ A11.out).mono ?_); rintro e w' ⟨rfl, ⟨nd, rfl⟩⟩; refine ⟨_, rfl, ?_⟩))
        go_meet
        case rel => exact ⟨_, (true), (by first | rfl | (simp; done) | (simp [*]; done)), H', ⟨by first | omega | exact Nat.le_refl _⟩, ⟨by repeat (first | (with_reducible first | exact HB.out | apply below_alloc | apply pw_below_drewN | apply below_drew1) | exact HB.out)⟩⟩
    · replace c12 := Bool.eq_false_iff.mpr c12
      subst c12
      have H1 : (stevedorelaw4_ClockKeeps.j0 k a0 a1 true) = some r := by rw [if_neg (show ¬ (false = true) by decide)] at H; exact H
      clear H
      have H := H1
      clear H1
      have H' := Aside0.mk H
      clear H
      go_wp2_with (first | ((with_reducible refine gate_callee (f := 35) rfl ?_); refine goesL_ (some 20) rfl rfl Tryd.func35 (by kernel_rfl) rfl #[.float .f64 t101] rfl (by (try simp only [List.map_toArray, List.map_cons, List.map_nil]); first | done | rfl | (simp only [List.length_drop, List.length_take]; rfl)) ?_; (with_reducible refine (clock_Fine.calls t101 t105 _ A10.out).mono ?_); rintro e w23 ⟨rfl, hb⟩; refine ⟨_, rfl, ?_⟩; have n0_ := Aside0.mk (below_step (by repeat (first | (with_reducible first | exact HB.out | apply below_alloc | apply pw_below_drewN | apply below_drew1) | exact HB.out)) hb); clear HB; have HB := n0_; clear n0_; (try clear hb); (try clear hb2); (try clear hk); (try clear hi)) | ((with_reducible refine gate_callee (f := 34) rfl ?_); refine goesL_ (some 22) rfl rfl Tryd.func34 (by kernel_rfl) rfl #[.float .f64 t105, .float .f64 t101] rfl (by (try simp only [List.map_toArray, List.map_cons, List.map_nil]); first | done | rfl | (simp only [List.length_drop, List.length_take]; rfl)) ?_; (with_reducible refine (stevedorelaw4_same.calls t105 t101 false _ A11.out).mono ?_); rintro e w' ⟨rfl, ⟨nd, rfl⟩⟩; refine ⟨_, rfl, ?_⟩))
      go_meet
      case rel => exact ⟨_, (true), (by first | rfl | (simp; done) | (simp [*]; done)), H', ⟨by first | omega | exact Nat.le_refl _⟩, ⟨by repeat (first | (with_reducible first | exact HB.out | apply below_alloc | apply pw_below_drewN | apply below_drew1) | exact HB.out)⟩⟩
  case rest =>
    clear HC6
    try clear c1
    try clear p2
    try clear c3
    try clear c12
    try clear c13
    try clear c13b0
    try clear c13b1
    try clear c14
    try clear c15
    try clear c16
    try clear c16b0
    try clear c16b1
    try clear c16b2
    try clear c17
    try clear c17b0
    try clear c17b1
    try clear c17b2
    obtain ⟨kq, x47_5, rfl, HA, HJ5, HB⟩ := hcut
    cases kq with
    | zero => exact absurd HA.out (by simp [stevedorelaw4_ClockKeeps.j0])
    | succ kj5 =>
      have H := HA.out
      clear HA
      simp only [stevedorelaw4_ClockKeeps.j0] at H
      by_cases c24 : x47_5 = true
      · subst c24
        have H1 : (some false) = some r := by rw [if_pos rfl] at H; exact H
        clear H
        have H := H1
        clear H1
        obtain rfl := Option.some.inj H
        go_wp2
        go_ret
        exact ⟨by first | rfl | (simp only [show ∀ l : List UInt8, (l != []) = (!l.isEmpty) from fun l => by cases l <;> rfl]; rfl) | (simp [errW_none, errW_some] <;> rfl) | (simp [*, errW_none, errW_some] <;> rfl), by repeat (first | (with_reducible first | exact HB.out | apply below_alloc | apply pw_below_drewN | apply below_drew1) | exact HB.out)⟩
      · replace c24 := Bool.eq_false_iff.mpr c24
        subst c24
        have H1 : ((clock_Unix.f kj5 a0).bind fun t108 => ((clock_FromUnix.f t108).bind fun t109 => ((clock_Unix.f kj5 t109).bind fun t110 => ((clock_FromUnix.f t110).bind fun t111 => ((stevedorelaw4_same.f t111 t109).bind fun t112 => (if t112 = true then (if (FloatKind.f64.format.order t109 t109 == some .eq) = true then (if (FloatKind.f64.format.order t109 a0 == some .gt) = true then (stevedorelaw4_ClockKeeps.j1 kj5 a0 a1 true) else (if (fvalid .add t109 4607182418800017408) = true then (if (FloatKind.f64.format.order (fop .add t109 4607182418800017408) a0 == some .lt || FloatKind.f64.format.order (fop .add t109 4607182418800017408) a0 == some .eq) = true then (stevedorelaw4_ClockKeeps.j1 kj5 a0 a1 (FloatKind.f64.format.order a0 4751297606873776128 == some .lt)) else (stevedorelaw4_ClockKeeps.j1 kj5 a0 a1 false)) else (none))) else (stevedorelaw4_ClockKeeps.j1 kj5 a0 a1 false)) else (stevedorelaw4_ClockKeeps.j1 kj5 a0 a1 true))))))) = some r := by rw [if_neg (show ¬ (false = true) by decide)] at H; exact H
        clear H
        have H := H1
        clear H1
        replace H := Option.bind_eq_some_iff.mp H
        obtain ⟨t108, A250, H⟩ := H
        replace H : ((clock_FromUnix.f t108).bind fun t109 => ((clock_Unix.f kj5 t109).bind fun t110 => ((clock_FromUnix.f t110).bind fun t111 => ((stevedorelaw4_same.f t111 t109).bind fun t112 => (if t112 = true then (if (FloatKind.f64.format.order t109 t109 == some .eq) = true then (if (FloatKind.f64.format.order t109 a0 == some .gt) = true then (stevedorelaw4_ClockKeeps.j1 kj5 a0 a1 true) else (if (fvalid .add t109 4607182418800017408) = true then (if (FloatKind.f64.format.order (fop .add t109 4607182418800017408) a0 == some .lt || FloatKind.f64.format.order (fop .add t109 4607182418800017408) a0 == some .eq) = true then (stevedorelaw4_ClockKeeps.j1 kj5 a0 a1 (FloatKind.f64.format.order a0 4751297606873776128 == some .lt)) else (stevedorelaw4_ClockKeeps.j1 kj5 a0 a1 false)) else (none))) else (stevedorelaw4_ClockKeeps.j1 kj5 a0 a1 false)) else (stevedorelaw4_ClockKeeps.j1 kj5 a0 a1 true)))))) = some r := H
        have A25 := Aside0.mk A250
        clear A250
        replace H := Option.bind_eq_some_iff.mp H
        obtain ⟨t109, A260, H⟩ := H
        replace H : ((clock_Unix.f kj5 t109).bind fun t110 => ((clock_FromUnix.f t110).bind fun t111 => ((stevedorelaw4_same.f t111 t109).bind fun t112 => (if t112 = true then (if (FloatKind.f64.format.order t109 t109 == some .eq) = true then (if (FloatKind.f64.format.order t109 a0 == some .gt) = true then (stevedorelaw4_ClockKeeps.j1 kj5 a0 a1 true) else (if (fvalid .add t109 4607182418800017408) = true then (if (FloatKind.f64.format.order (fop .add t109 4607182418800017408) a0 == some .lt || FloatKind.f64.format.order (fop .add t109 4607182418800017408) a0 == some .eq) = true then (stevedorelaw4_ClockKeeps.j1 kj5 a0 a1 (FloatKind.f64.format.order a0 4751297606873776128 == some .lt)) else (stevedorelaw4_ClockKeeps.j1 kj5 a0 a1 false)) else (none))) else (stevedorelaw4_ClockKeeps.j1 kj5 a0 a1 false)) else (stevedorelaw4_ClockKeeps.j1 kj5 a0 a1 true))))) = some r := H
        have A26 := Aside0.mk A260
        clear A260
        have HC27 := Aside0.mk H
        clear H
        go_upto_region 6 with (first | ((with_reducible refine gate_callee (f := 39) rfl ?_); refine goesL_ (some 49) rfl rfl Tryd.func39 (by kernel_rfl) rfl #[.float .f64 a0] rfl (by (try simp only [List.map_toArray, List.map_cons, List.map_nil]); first | done | rfl | (simp only [List.length_drop, List.length_take]; rfl)) ?_; (with_reducible refine (clock_Unix.calls kj5 a0 t108 _ A25.out).mono ?_); rintro e w28 ⟨rfl, hb⟩; refine ⟨_, rfl, ?_⟩; have n0_ := Aside0.mk (below_step (by repeat (first | (with_reducible first | exact HB.out | apply below_alloc | apply pw_below_drewN | apply below_drew1) | exact HB.out)) hb); clear HB; have HB := n0_; clear n0_; (try clear hb); (try clear hb2); (try clear hk); (try clear hi)) | ((with_reducible refine gate_callee (f := 47) rfl ?_); refine goesL_ (some 50) rfl rfl Tryd.func47 (by kernel_rfl) rfl #[.int .i64 t108] rfl (by (try simp only [List.map_toArray, List.map_cons, List.map_nil]); first | done | rfl | (simp only [List.length_drop, List.length_take]; rfl)) ?_; (with_reducible refine (clock_FromUnix.calls t108 t109 _ A26.out).mono ?_); rintro e w29 ⟨rfl, hb⟩; refine ⟨_, rfl, ?_⟩; have n0_ := Aside0.mk (below_step (by repeat (first | (with_reducible first | exact HB.out | apply below_alloc | apply pw_below_drewN | apply below_drew1) | exact HB.out)) hb); clear HB; have HB := n0_; clear n0_; (try clear hb); (try clear hb2); (try clear hk); (try clear hi)))
        (try simp only [Act.put, List.setIfInBounds_toArray, List.set_cons_zero, List.set_cons_succ])
        go_cut [76] (fun v76 wc => ∃ (kq : Nat) (x76_26 : Bool), v76 = .bool x76_26 ∧ Aside0 (stevedorelaw4_ClockKeeps.j1 kq a0 a1 x76_26 = some r) ∧ Aside0 (kq ≤ kj5) ∧ Aside0 (Below w.heap.size w wc))
        case first =>
          have H := HC27.out
          clear HC27
          replace H := Option.bind_eq_some_iff.mp H
          obtain ⟨t110, A300, H⟩ := H
          replace H : ((clock_FromUnix.f t110).bind fun t111 => ((stevedorelaw4_same.f t111 t109).bind fun t112 => (if t112 = true then (if (FloatKind.f64.format.order t109 t109 == some .eq) = true then (if (FloatKind.f64.format.order t109 a0 == some .gt) = true then (stevedorelaw4_ClockKeeps.j1 kj5 a0 a1 true) else (if (fvalid .add t109 4607182418800017408) = true then (if (FloatKind.f64.format.order (fop .add t109 4607182418800017408) a0 == some .lt || FloatKind.f64.format.order (fop .add t109 4607182418800017408) a0 == some .eq) = true then (stevedorelaw4_ClockKeeps.j1 kj5 a0 a1 (FloatKind.f64.format.order a0 4751297606873776128 == some .lt)) else (stevedorelaw4_ClockKeeps.j1 kj5 a0 a1 false)) else (none))) else (stevedorelaw4_ClockKeeps.j1 kj5 a0 a1 false)) else (stevedorelaw4_ClockKeeps.j1 kj5 a0 a1 true)))) = some r := H
          have A30 := Aside0.mk A300
          clear A300
          replace H := Option.bind_eq_some_iff.mp H
          obtain ⟨t111, A310, H⟩ := H
          replace H : ((stevedorelaw4_same.f t111 t109).bind fun t112 => (if t112 = true then (if (FloatKind.f64.format.order t109 t109 == some .eq) = true then (if (FloatKind.f64.format.order t109 a0 == some .gt) = true then (stevedorelaw4_ClockKeeps.j1 kj5 a0 a1 true) else (if (fvalid .add t109 4607182418800017408) = true then (if (FloatKind.f64.format.order (fop .add t109 4607182418800017408) a0 == some .lt || FloatKind.f64.format.order (fop .add t109 4607182418800017408) a0 == some .eq) = true then (stevedorelaw4_ClockKeeps.j1 kj5 a0 a1 (FloatKind.f64.format.order a0 4751297606873776128 == some .lt)) else (stevedorelaw4_ClockKeeps.j1 kj5 a0 a1 false)) else (none))) else (stevedorelaw4_ClockKeeps.j1 kj5 a0 a1 false)) else (stevedorelaw4_ClockKeeps.j1 kj5 a0 a1 true))) = some r := H
          have A31 := Aside0.mk A310
          clear A310
          replace H := Option.bind_eq_some_iff.mp H
          obtain ⟨t112, A320, H⟩ := H
          replace H : (if t112 = true then (if (FloatKind.f64.format.order t109 t109 == some .eq) = true then (if (FloatKind.f64.format.order t109 a0 == some .gt) = true then (stevedorelaw4_ClockKeeps.j1 kj5 a0 a1 true) else (if (fvalid .add t109 4607182418800017408) = true then (if (FloatKind.f64.format.order (fop .add t109 4607182418800017408) a0 == some .lt || FloatKind.f64.format.order (fop .add t109 4607182418800017408) a0 == some .eq) = true then (stevedorelaw4_ClockKeeps.j1 kj5 a0 a1 (FloatKind.f64.format.order a0 4751297606873776128 == some .lt)) else (stevedorelaw4_ClockKeeps.j1 kj5 a0 a1 false)) else (none))) else (stevedorelaw4_ClockKeeps.j1 kj5 a0 a1 false)) else (stevedorelaw4_ClockKeeps.j1 kj5 a0 a1 true)) = some r := H
          have A32 := Aside0.mk A320
          clear A320
          by_cases c33 : t112 = true
          · subst c33
            have H1 : (if (FloatKind.f64.format.order t109 t109 == some .eq) = true then (if (FloatKind.f64.format.order t109 a0 == some .gt) = true then (stevedorelaw4_ClockKeeps.j1 kj5 a0 a1 true) else (if (fvalid .add t109 4607182418800017408) = true then (if (FloatKind.f64.format.order (fop .add t109 4607182418800017408) a0 == some .lt || FloatKind.f64.format.order (fop .add t109 4607182418800017408) a0 == some .eq) = true then (stevedorelaw4_ClockKeeps.j1 kj5 a0 a1 (FloatKind.f64.format.order a0 4751297606873776128 == some .lt)) else (stevedorelaw4_ClockKeeps.j1 kj5 a0 a1 false)) else (none))) else (stevedorelaw4_ClockKeeps.j1 kj5 a0 a1 false)) = some r := by rw [if_pos rfl] at H; exact H
            clear H
            have H := H1
            clear H1
            by_cases c34 : (FloatKind.f64.format.order t109 t109 == some .eq) = true
            · rw [if_pos c34] at H
              have c34b0 : (FloatKind.f64.format.order t109 t109 == some .eq) = true := c34
              (try (have c34b1 : decide (FloatKind.f64.format.order t109 t109 = some .eq) = true := by simpa using c34))
              (try (have c34b2 : (FloatKind.f64.format.order t109 t109 == some .eq) = true := by simpa using c34))
              clear c34
              (first | rw [c34b0] | (simp only [i64_w, i32_w]; rw [c34b0]) | rw [c34b1] | skip)
              by_cases c35 : (FloatKind.f64.format.order t109 a0 == some .gt) = true
              · rw [if_pos c35] at H
                have c35b0 : (FloatKind.f64.format.order t109 a0 == some .gt) = true := c35
                (try (have c35b1 : decide (FloatKind.f64.format.order t109 a0 = some .gt) = true := by simpa using c35))
                (try (have c35b2 : (FloatKind.f64.format.order t109 a0 == some .gt) = true := by simpa using c35))
                clear c35
                have H' := Aside0.mk H
                clear H
                go_wp2_with (first | ((with_reducible refine gate_callee (f := 39) rfl ?_); refine goesL_ (some 52) rfl rfl Tryd.func39 (by kernel_rfl) rfl #[.float .f64 t109] rfl (by (try simp only [List.map_toArray, List.map_cons, List.map_nil]); first | done | rfl | (simp only [List.length_drop, List.length_take]; rfl)) ?_; (with_reducible refine (clock_Unix.calls kj5 t109 t110 _ A30.out).mono ?_); rintro e w36 ⟨rfl, hb⟩; refine ⟨_, rfl, ?_⟩; have n0_ := Aside0.mk (below_step (by repeat (first | (with_reducible first | exact HB.out | apply below_alloc | apply pw_below_drewN | apply below_drew1) | exact HB.out)) hb); clear HB; have HB := n0_; clear n0_; (try clear hb); (try clear hb2); (try clear hk); (try clear hi)) | ((with_reducible refine gate_callee (f := 47) rfl ?_); refine goesL_ (some 53) rfl rfl Tryd.func47 (by kernel_rfl) rfl #[.int .i64 t110] rfl (by (try simp only [List.map_toArray, List.map_cons, List.map_nil]); first | done | rfl | (simp only [List.length_drop, List.length_take]; rfl)) ?_; (with_reducible refine (clock_FromUnix.calls t110 t111 _ A31.out).mono ?_); rintro e w37 ⟨rfl, hb⟩; refine ⟨_, rfl, ?_⟩; have n0_ := Aside0.mk (below_step (by repeat (first | (with_reducible first | exact HB.out | apply below_alloc | apply pw_below_drewN | apply below_drew1) | exact HB.out)) hb); clear HB; have HB := n0_; clear n0_; (try clear hb); (try clear hb2); (try clear hk); (try clear hi)) | ((with_reducible refine gate_callee (f := 34) rfl ?_); refine goesL_ (some 55) rfl rfl Tryd.func34 (by kernel_rfl) rfl #[.float .f64 t111, .float .f64 t109] rfl (by (try simp only [List.map_toArray, List.map_cons, List.map_nil]); first | done | rfl | (simp only [List.length_drop, List.length_take]; rfl)) ?_; (with_reducible refine (stevedorelaw4_same.calls t111 t109 true _ A32.out).mono ?_); rintro e w' ⟨rfl, ⟨nd, rfl⟩⟩; refine ⟨_, rfl, ?_⟩))
                go_meet
                case rel => exact ⟨_, (true), (by first | rfl | (simp; done) | (simp [*]; done)), H', ⟨by have := HJ5.out; first | omega | exact Nat.le_refl _⟩, ⟨by repeat (first | (with_reducible first | exact HB.out | apply below_alloc | apply pw_below_drewN | apply below_drew1) | exact HB.out)⟩⟩
              · rw [if_neg c35] at H
                have c35b0 : (FloatKind.f64.format.order t109 a0 == some .gt) = false := by simpa using c35
                (try (have c35b1 : decide (FloatKind.f64.format.order t109 a0 = some .gt) = false := by simpa using c35))
                (try (have c35b2 : (FloatKind.f64.format.order t109 a0 == some .gt) = false := by simpa using c35))
                (try (have c35b3 : ¬ (FloatKind.f64.format.order t109 a0 = some .gt) := by simpa using c35))
                clear c35
                by_cases c38 : (fvalid .add t109 4607182418800017408) = true
                · rw [if_pos c38] at H
                  have c38b0 := eq_true c38
                  have c38b1 : decide ((fvalid .add t109 4607182418800017408) = true) = true := decide_eq_true c38
                  clear c38
                  by_cases c39 : (FloatKind.f64.format.order (fop .add t109 4607182418800017408) a0 == some .lt || FloatKind.f64.format.order (fop .add t109 4607182418800017408) a0 == some .eq) = true
                  · rw [if_pos c39] at H
                    have c39b0 : (FloatKind.f64.format.order (fop .add t109 4607182418800017408) a0 == some .lt || FloatKind.f64.format.order (fop .add t109 4607182418800017408) a0 == some .eq) = true := c39
                    have c39b7 : (!(FloatKind.f64.format.order (fop .add t109 4607182418800017408) a0 == some .lt) && !(FloatKind.f64.format.order (fop .add t109 4607182418800017408) a0 == some .eq)) = false := by rw [← Bool.not_or, c39b0]; rfl
                    (try (have c39b1 : decide (FloatKind.f64.format.order (fop .add t109 4607182418800017408) a0 = some .lt || FloatKind.f64.format.order (fop .add t109 4607182418800017408) a0 == some .eq) = true := by simpa using c39))
                    (try (have c39b2 : (FloatKind.f64.format.order (fop .add t109 4607182418800017408) a0 == some .lt || FloatKind.f64.format.order (fop .add t109 4607182418800017408) a0 == some .eq) = true := by simpa using c39))
                    clear c39
                    have H' := Aside0.mk H
                    clear H
                    go_wp2_with (first | ((with_reducible refine gate_callee (f := 39) rfl ?_); refine goesL_ (some 52) rfl rfl Tryd.func39 (by kernel_rfl) rfl #[.float .f64 t109] rfl (by (try simp only [List.map_toArray, List.map_cons, List.map_nil]); first | done | rfl | (simp only [List.length_drop, List.length_take]; rfl)) ?_; (with_reducible refine (clock_Unix.calls kj5 t109 t110 _ A30.out).mono ?_); rintro e w40 ⟨rfl, hb⟩; refine ⟨_, rfl, ?_⟩; have n0_ := Aside0.mk (below_step (by repeat (first | (with_reducible first | exact HB.out | apply below_alloc | apply pw_below_drewN | apply below_drew1) | exact HB.out)) hb); clear HB; have HB := n0_; clear n0_; (try clear hb); (try clear hb2); (try clear hk); (try clear hi)) | ((with_reducible refine gate_callee (f := 47) rfl ?_); refine goesL_ (some 53) rfl rfl Tryd.func47 (by kernel_rfl) rfl #[.int .i64 t110] rfl (by (try simp only [List.map_toArray, List.map_cons, List.map_nil]); first | done | rfl | (simp only [List.length_drop, List.length_take]; rfl)) ?_; (with_reducible refine (clock_FromUnix.calls t110 t111 _ A31.out).mono ?_); rintro e w41 ⟨rfl, hb⟩; refine ⟨_, rfl, ?_⟩; have n0_ := Aside0.mk (below_step (by repeat (first | (with_reducible first | exact HB.out | apply below_alloc | apply pw_below_drewN | apply below_drew1) | exact HB.out)) hb); clear HB; have HB := n0_; clear n0_; (try clear hb); (try clear hb2); (try clear hk); (try clear hi)) | ((with_reducible refine gate_callee (f := 34) rfl ?_); refine goesL_ (some 55) rfl rfl Tryd.func34 (by kernel_rfl) rfl #[.float .f64 t111, .float .f64 t109] rfl (by (try simp only [List.map_toArray, List.map_cons, List.map_nil]); first | done | rfl | (simp only [List.length_drop, List.length_take]; rfl)) ?_; (with_reducible refine (stevedorelaw4_same.calls t111 t109 true _ A32.out).mono ?_); rintro e w' ⟨rfl, ⟨nd, rfl⟩⟩; refine ⟨_, rfl, ?_⟩))
                    go_meet
                    case rel => exact ⟨_, ((FloatKind.f64.format.order a0 4751297606873776128 == some .lt)), (by first | rfl | (simp; done) | (simp [*]; done)), H', ⟨by have := HJ5.out; first | omega | exact Nat.le_refl _⟩, ⟨by repeat (first | (with_reducible first | exact HB.out | apply below_alloc | apply pw_below_drewN | apply below_drew1) | exact HB.out)⟩⟩
                  · rw [if_neg c39] at H
                    have c39b0 : (FloatKind.f64.format.order (fop .add t109 4607182418800017408) a0 == some .lt || FloatKind.f64.format.order (fop .add t109 4607182418800017408) a0 == some .eq) = false := by simpa using c39
                    have c39b7 : (!(FloatKind.f64.format.order (fop .add t109 4607182418800017408) a0 == some .lt) && !(FloatKind.f64.format.order (fop .add t109 4607182418800017408) a0 == some .eq)) = true := by rw [← Bool.not_or, c39b0]; rfl
                    (try (have c39b1 : decide (FloatKind.f64.format.order (fop .add t109 4607182418800017408) a0 = some .lt || FloatKind.f64.format.order (fop .add t109 4607182418800017408) a0 == some .eq) = false := by simpa using c39))
                    (try (have c39b2 : (FloatKind.f64.format.order (fop .add t109 4607182418800017408) a0 == some .lt || FloatKind.f64.format.order (fop .add t109 4607182418800017408) a0 == some .eq) = false := by simpa using c39))
                    (try (have c39b3 : ¬ (FloatKind.f64.format.order (fop .add t109 4607182418800017408) a0 = some .lt || FloatKind.f64.format.order (fop .add t109 4607182418800017408) a0 == some .eq) := by simpa using c39))
                    clear c39
                    have H' := Aside0.mk H
                    clear H
                    go_wp2_with (first | ((with_reducible refine gate_callee (f := 39) rfl ?_); refine goesL_ (some 52) rfl rfl Tryd.func39 (by kernel_rfl) rfl #[.float .f64 t109] rfl (by (try simp only [List.map_toArray, List.map_cons, List.map_nil]); first | done | rfl | (simp only [List.length_drop, List.length_take]; rfl)) ?_; (with_reducible refine (clock_Unix.calls kj5 t109 t110 _ A30.out).mono ?_); rintro e w42 ⟨rfl, hb⟩; refine ⟨_, rfl, ?_⟩; have n0_ := Aside0.mk (below_step (by repeat (first | (with_reducible first | exact HB.out | apply below_alloc | apply pw_below_drewN | apply below_drew1) | exact HB.out)) hb); clear HB; have HB := n0_; clear n0_; (try clear hb); (try clear hb2); (try clear hk); (try clear hi)) | ((with_reducible refine gate_callee (f := 47) rfl ?_); refine goesL_ (some 53) rfl rfl Tryd.func47 (by kernel_rfl) rfl #[.int .i64 t110] rfl (by (try simp only [List.map_toArray, List.map_cons, List.map_nil]); first | done | rfl | (simp only [List.length_drop, List.length_take]; rfl)) ?_; (with_reducible refine (clock_FromUnix.calls t110 t111 _ A31.out).mono ?_); rintro e w43 ⟨rfl, hb⟩; refine ⟨_, rfl, ?_⟩; have n0_ := Aside0.mk (below_step (by repeat (first | (with_reducible first | exact HB.out | apply below_alloc | apply pw_below_drewN | apply below_drew1) | exact HB.out)) hb); clear HB; have HB := n0_; clear n0_; (try clear hb); (try clear hb2); (try clear hk); (try clear hi)) | ((with_reducible refine gate_callee (f := 34) rfl ?_); refine goesL_ (some 55) rfl rfl Tryd.func34 (by kernel_rfl) rfl #[.float .f64 t111, .float .f64 t109] rfl (by (try simp only [List.map_toArray, List.map_cons, List.map_nil]); first | done | rfl | (simp only [List.length_drop, List.length_take]; rfl)) ?_; (with_reducible refine (stevedorelaw4_same.calls t111 t109 true _ A32.out).mono ?_); rintro e w' ⟨rfl, ⟨nd, rfl⟩⟩; refine ⟨_, rfl, ?_⟩))
                    go_meet
                    case rel => exact ⟨_, (false), (by first | rfl | (simp; done) | (simp [*]; done)), H', ⟨by have := HJ5.out; first | omega | exact Nat.le_refl _⟩, ⟨by repeat (first | (with_reducible first | exact HB.out | apply below_alloc | apply pw_below_drewN | apply below_drew1) | exact HB.out)⟩⟩
                · rw [if_neg c38] at H
                  exact absurd H (by simp)
            · rw [if_neg c34] at H
              have c34b0 : (FloatKind.f64.format.order t109 t109 == some .eq) = false := by simpa using c34
              (try (have c34b1 : decide (FloatKind.f64.format.order t109 t109 = some .eq) = false := by simpa using c34))
              (try (have c34b2 : (FloatKind.f64.format.order t109 t109 == some .eq) = false := by simpa using c34))
              (try (have c34b3 : ¬ (FloatKind.f64.format.order t109 t109 = some .eq) := by simpa using c34))
              clear c34
              (first | rw [c34b0] | (simp only [i64_w, i32_w]; rw [c34b0]) | rw [c34b1] | skip)
              have H' := Aside0.mk H
              clear H
              go_wp2_with (first | ((with_reducible refine gate_callee (f := 39) rfl ?_); refine goesL_ (some 52) rfl rfl Tryd.func39 (by kernel_rfl) rfl #[.float .f64 t109] rfl (by (try simp only [List.map_toArray, List.map_cons, List.map_nil]); first | done | rfl | (simp only [List.length_drop, List.length_take]; rfl)) ?_; (with_reducible refine (clock_Unix.calls kj5 t109 t110 _ A30.out).mono ?_); rintro e w44 ⟨rfl, hb⟩; refine ⟨_, rfl, ?_⟩; have n0_ := Aside0.mk (below_step (by repeat (first | (with_reducible first | exact HB.out | apply below_alloc | apply pw_below_drewN | apply below_drew1) | exact HB.out)) hb); clear HB; have HB := n0_; clear n0_; (try clear hb); (try clear hb2); (try clear hk); (try clear hi)) | ((with_reducible refine gate_callee (f := 47) rfl ?_); refine goesL_ (some 53) rfl rfl Tryd.func47 (by kernel_rfl) rfl #[.int .i64 t110] rfl (by (try simp only [List.map_toArray, List.map_cons, List.map_nil]); first | done | rfl | (simp only [List.length_drop, List.length_take]; rfl)) ?_; (with_reducible refine (clock_FromUnix.calls t110 t111 _ A31.out).mono ?_); rintro e w45 ⟨rfl, hb⟩; refine ⟨_, rfl, ?_⟩; have n0_ := Aside0.mk (below_step (by repeat (first | (with_reducible first | exact HB.out | apply below_alloc | apply pw_below_drewN | apply below_drew1) | exact HB.out)) hb); clear HB; have HB := n0_; clear n0_; (try clear hb); (try clear hb2); (try clear hk); (try clear hi)) | ((with_reducible refine gate_callee (f := 34) rfl ?_); refine goesL_ (some 55) rfl rfl Tryd.func34 (by kernel_rfl) rfl #[.float .f64 t111, .float .f64 t109] rfl (by (try simp only [List.map_toArray, List.map_cons, List.map_nil]); first | done | rfl | (simp only [List.length_drop, List.length_take]; rfl)) ?_; (with_reducible refine (stevedorelaw4_same.calls t111 t109 true _ A32.out).mono ?_); rintro e w' ⟨rfl, ⟨nd, rfl⟩⟩; refine ⟨_, rfl, ?_⟩))
              go_meet
              case rel => exact ⟨_, (false), (by first | rfl | (simp; done) | (simp [*]; done)), H', ⟨by have := HJ5.out; first | omega | exact Nat.le_refl _⟩, ⟨by repeat (first | (with_reducible first | exact HB.out | apply below_alloc | apply pw_below_drewN | apply below_drew1) | exact HB.out)⟩⟩
          · replace c33 := Bool.eq_false_iff.mpr c33
            subst c33
            have H1 : (stevedorelaw4_ClockKeeps.j1 kj5 a0 a1 true) = some r := by rw [if_neg (show ¬ (false = true) by decide)] at H; exact H
            clear H
            have H := H1
            clear H1
            have H' := Aside0.mk H
            clear H
            go_wp2_with (first | ((with_reducible refine gate_callee (f := 39) rfl ?_); refine goesL_ (some 52) rfl rfl Tryd.func39 (by kernel_rfl) rfl #[.float .f64 t109] rfl (by (try simp only [List.map_toArray, List.map_cons, List.map_nil]); first | done | rfl | (simp only [List.length_drop, List.length_take]; rfl)) ?_; (with_reducible refine (clock_Unix.calls kj5 t109 t110 _ A30.out).mono ?_); rintro e w46 ⟨rfl, hb⟩; refine ⟨_, rfl, ?_⟩; have n0_ := Aside0.mk (below_step (by repeat (first | (with_reducible first | exact HB.out | apply below_alloc | apply pw_below_drewN | apply below_drew1) | exact HB.out)) hb); clear HB; have HB := n0_; clear n0_; (try clear hb); (try clear hb2); (try clear hk); (try clear hi)) | ((with_reducible refine gate_callee (f := 47) rfl ?_); refine goesL_ (some 53) rfl rfl Tryd.func47 (by kernel_rfl) rfl #[.int .i64 t110] rfl (by (try simp only [List.map_toArray, List.map_cons, List.map_nil]); first | done | rfl | (simp only [List.length_drop, List.length_take]; rfl)) ?_; (with_reducible refine (clock_FromUnix.calls t110 t111 _ A31.out).mono ?_); rintro e w47 ⟨rfl, hb⟩; refine ⟨_, rfl, ?_⟩; have n0_ := Aside0.mk (below_step (by repeat (first | (with_reducible first | exact HB.out | apply below_alloc | apply pw_below_drewN | apply below_drew1) | exact HB.out)) hb); clear HB; have HB := n0_; clear n0_; (try clear hb); (try clear hb2); (try clear hk); (try clear hi)) | ((with_reducible refine gate_callee (f := 34) rfl ?_); refine goesL_ (some 55) rfl rfl Tryd.func34 (by kernel_rfl) rfl #[.float .f64 t111, .float .f64 t109] rfl (by (try simp only [List.map_toArray, List.map_cons, List.map_nil]); first | done | rfl | (simp only [List.length_drop, List.length_take]; rfl)) ?_; (with_reducible refine (stevedorelaw4_same.calls t111 t109 false _ A32.out).mono ?_); rintro e w' ⟨rfl, ⟨nd, rfl⟩⟩; refine ⟨_, rfl, ?_⟩))
            go_meet
            case rel => exact ⟨_, (true), (by first | rfl | (simp; done) | (simp [*]; done)), H', ⟨by have := HJ5.out; first | omega | exact Nat.le_refl _⟩, ⟨by repeat (first | (with_reducible first | exact HB.out | apply below_alloc | apply pw_below_drewN | apply below_drew1) | exact HB.out)⟩⟩
        case rest =>
          clear HC27
          try clear c1
          try clear c2
          try clear p2
          try clear c3
          try clear c4
          try clear c12
          try clear c13
          try clear c13b0
          try clear c13b1
          try clear c14
          try clear c15
          try clear c16
          try clear c16b0
          try clear c16b1
          try clear c16b2
          try clear c17
          try clear c17b0
          try clear c17b1
          try clear c17b2
          try clear c24
          try clear c32
          try clear c33
          try clear c34
          try clear c34b0
          try clear c34b1
          try clear c34b2
          try clear c35
          try clear c35b0
          try clear c35b1
          try clear c35b2
          try clear c37
          try clear c38
          try clear c38b0
          try clear c38b1
          try clear c39
          try clear c39b0
          try clear c39b1
          try clear c39b2
          try clear c47
          try clear p2
          obtain ⟨kq, x76_26, rfl, HA, HJ26, HB⟩ := hcut
          cases kq with
          | zero => exact absurd HA.out (by simp [stevedorelaw4_ClockKeeps.j1])
          | succ kj26 =>
            have H := HA.out
            clear HA
            simp only [stevedorelaw4_ClockKeeps.j1] at H
            by_cases c48 : x76_26 = true
            · subst c48
              have H1 : (some false) = some r := by rw [if_pos rfl] at H; exact H
              clear H
              have H := H1
              clear H1
              obtain rfl := Option.some.inj H
              go_wp2
              go_ret
              exact ⟨by first | rfl | (simp only [show ∀ l : List UInt8, (l != []) = (!l.isEmpty) from fun l => by cases l <;> rfl]; rfl) | (simp [errW_none, errW_some] <;> rfl) | (simp [*, errW_none, errW_some] <;> rfl), by repeat (first | (with_reducible first | exact HB.out | apply below_alloc | apply pw_below_drewN | apply below_drew1) | exact HB.out)⟩
            · replace c48 := Bool.eq_false_iff.mpr c48
              subst c48
              have H1 : ((clock_Dos.f kj26 a0).bind fun t113 => ((clock_FromDos.f kj26 t113).bind fun t114 => ((clock_Dos.f kj26 t114).bind fun t115 => ((clock_FromDos.f kj26 t115).bind fun t116 => ((stevedorelaw4_same.f t116 t114).bind fun t117 => (if t117 = true then (stevedorelaw4_ClockKeeps.j2 kj26 a0 a1 t114 ((FloatKind.f64.format.order t114 t114 == some .eq) != (FloatKind.f64.format.order a0 a0 == some .eq))) else (stevedorelaw4_ClockKeeps.j2 kj26 a0 a1 t114 true))))))) = some r := by rw [if_neg (show ¬ (false = true) by decide)] at H; exact H
              clear H
              have H := H1
              clear H1
              replace H := Option.bind_eq_some_iff.mp H
              obtain ⟨t113, A490, H⟩ := H
              replace H : ((clock_FromDos.f kj26 t113).bind fun t114 => ((clock_Dos.f kj26 t114).bind fun t115 => ((clock_FromDos.f kj26 t115).bind fun t116 => ((stevedorelaw4_same.f t116 t114).bind fun t117 => (if t117 = true then (stevedorelaw4_ClockKeeps.j2 kj26 a0 a1 t114 ((FloatKind.f64.format.order t114 t114 == some .eq) != (FloatKind.f64.format.order a0 a0 == some .eq))) else (stevedorelaw4_ClockKeeps.j2 kj26 a0 a1 t114 true)))))) = some r := H
              have A49 := Aside0.mk A490
              clear A490
              replace H := Option.bind_eq_some_iff.mp H
              obtain ⟨t114, A500, H⟩ := H
              replace H : ((clock_Dos.f kj26 t114).bind fun t115 => ((clock_FromDos.f kj26 t115).bind fun t116 => ((stevedorelaw4_same.f t116 t114).bind fun t117 => (if t117 = true then (stevedorelaw4_ClockKeeps.j2 kj26 a0 a1 t114 ((FloatKind.f64.format.order t114 t114 == some .eq) != (FloatKind.f64.format.order a0 a0 == some .eq))) else (stevedorelaw4_ClockKeeps.j2 kj26 a0 a1 t114 true))))) = some r := H
              have A50 := Aside0.mk A500
              clear A500
              have HC51 := Aside0.mk H
              clear H
              go_upto_region 9 with (first | ((with_reducible refine gate_callee (f := 40) rfl ?_); refine goesL_ (some 78) rfl rfl Tryd.func40 (by kernel_rfl) rfl #[.float .f64 a0] rfl (by (try simp only [List.map_toArray, List.map_cons, List.map_nil]); first | done | rfl | (simp only [List.length_drop, List.length_take]; rfl)) ?_; (with_reducible refine (clock_Dos.calls kj26 a0 t113 _ A49.out).mono ?_); rintro e w52 ⟨rfl, hb⟩; refine ⟨_, rfl, ?_⟩; have n0_ := Aside0.mk (below_step (by repeat (first | (with_reducible first | exact HB.out | apply below_alloc | apply pw_below_drewN | apply below_drew1) | exact HB.out)) hb); clear HB; have HB := n0_; clear n0_; (try clear hb); (try clear hb2); (try clear hk); (try clear hi)) | ((with_reducible refine gate_callee (f := 48) rfl ?_); refine goesL_ (some 79) rfl rfl Tryd.func48 (by kernel_rfl) rfl #[.int .i64 t113] rfl (by (try simp only [List.map_toArray, List.map_cons, List.map_nil]); first | done | rfl | (simp only [List.length_drop, List.length_take]; rfl)) ?_; (with_reducible refine (clock_FromDos.calls kj26 t113 t114 _ A50.out).mono ?_); rintro e w53 ⟨rfl, hb⟩; refine ⟨_, rfl, ?_⟩; have n0_ := Aside0.mk (below_step (by repeat (first | (with_reducible first | exact HB.out | apply below_alloc | apply pw_below_drewN | apply below_drew1) | exact HB.out)) hb); clear HB; have HB := n0_; clear n0_; (try clear hb); (try clear hb2); (try clear hk); (try clear hi)))
              (try simp only [Act.put, List.setIfInBounds_toArray, List.set_cons_zero, List.set_cons_succ])
              go_cut [94] (fun v94 wc => ∃ (kq : Nat) (x94_50 : Bool), v94 = .bool x94_50 ∧ Aside0 (stevedorelaw4_ClockKeeps.j2 kq a0 a1 t114 x94_50 = some r) ∧ Aside0 (kq ≤ kj26) ∧ Aside0 (Below w.heap.size w wc))
              case first =>
                have H := HC51.out
                clear HC51
                replace H := Option.bind_eq_some_iff.mp H
                obtain ⟨t115, A540, H⟩ := H
                replace H : ((clock_FromDos.f kj26 t115).bind fun t116 => ((stevedorelaw4_same.f t116 t114).bind fun t117 => (if t117 = true then (stevedorelaw4_ClockKeeps.j2 kj26 a0 a1 t114 ((FloatKind.f64.format.order t114 t114 == some .eq) != (FloatKind.f64.format.order a0 a0 == some .eq))) else (stevedorelaw4_ClockKeeps.j2 kj26 a0 a1 t114 true)))) = some r := H
                have A54 := Aside0.mk A540
                clear A540
                replace H := Option.bind_eq_some_iff.mp H
                obtain ⟨t116, A550, H⟩ := H
                replace H : ((stevedorelaw4_same.f t116 t114).bind fun t117 => (if t117 = true then (stevedorelaw4_ClockKeeps.j2 kj26 a0 a1 t114 ((FloatKind.f64.format.order t114 t114 == some .eq) != (FloatKind.f64.format.order a0 a0 == some .eq))) else (stevedorelaw4_ClockKeeps.j2 kj26 a0 a1 t114 true))) = some r := H
                have A55 := Aside0.mk A550
                clear A550
                replace H := Option.bind_eq_some_iff.mp H
                obtain ⟨t117, A560, H⟩ := H
                replace H : (if t117 = true then (stevedorelaw4_ClockKeeps.j2 kj26 a0 a1 t114 ((FloatKind.f64.format.order t114 t114 == some .eq) != (FloatKind.f64.format.order a0 a0 == some .eq))) else (stevedorelaw4_ClockKeeps.j2 kj26 a0 a1 t114 true)) = some r := H
                have A56 := Aside0.mk A560
                clear A560
                by_cases c57 : t117 = true
                · subst c57
                  have H1 : (stevedorelaw4_ClockKeeps.j2 kj26 a0 a1 t114 ((FloatKind.f64.format.order t114 t114 == some .eq) != (FloatKind.f64.format.order a0 a0 == some .eq))) = some r := by rw [if_pos rfl] at H; exact H
                  clear H
                  have H := H1
                  clear H1
                  have H' := Aside0.mk H
                  clear H
                  go_wp2_with (first | ((with_reducible refine gate_callee (f := 40) rfl ?_); refine goesL_ (some 81) rfl rfl Tryd.func40 (by kernel_rfl) rfl #[.float .f64 t114] rfl (by (try simp only [List.map_toArray, List.map_cons, List.map_nil]); first | done | rfl | (simp only [List.length_drop, List.length_take]; rfl)) ?_; (with_reducible refine (clock_Dos.calls kj26 t114 t115 _ A54.out).mono ?_); rintro e w58 ⟨rfl, hb⟩; refine ⟨_, rfl, ?_⟩; have n0_ := Aside0.mk (below_step (by repeat (first | (with_reducible first | exact HB.out | apply below_alloc | apply pw_below_drewN | apply below_drew1) | exact HB.out)) hb); clear HB; have HB := n0_; clear n0_; (try clear hb); (try clear hb2); (try clear hk); (try clear hi)) | ((with_reducible refine gate_callee (f := 48) rfl ?_); refine goesL_ (some 82) rfl rfl Tryd.func48 (by kernel_rfl) rfl #[.int .i64 t115] rfl (by (try simp only [List.map_toArray, List.map_cons, List.map_nil]); first | done | rfl | (simp only [List.length_drop, List.length_take]; rfl)) ?_; (with_reducible refine (clock_FromDos.calls kj26 t115 t116 _ A55.out).mono ?_); rintro e w59 ⟨rfl, hb⟩; refine ⟨_, rfl, ?_⟩; have n0_ := Aside0.mk (below_step (by repeat (first | (with_reducible first | exact HB.out | apply below_alloc | apply pw_below_drewN | apply below_drew1) | exact HB.out)) hb); clear HB; have HB := n0_; clear n0_; (try clear hb); (try clear hb2); (try clear hk); (try clear hi)) | ((with_reducible refine gate_callee (f := 34) rfl ?_); refine goesL_ (some 84) rfl rfl Tryd.func34 (by kernel_rfl) rfl #[.float .f64 t116, .float .f64 t114] rfl (by (try simp only [List.map_toArray, List.map_cons, List.map_nil]); first | done | rfl | (simp only [List.length_drop, List.length_take]; rfl)) ?_; (with_reducible refine (stevedorelaw4_same.calls t116 t114 true _ A56.out).mono ?_); rintro e w' ⟨rfl, ⟨nd, rfl⟩⟩; refine ⟨_, rfl, ?_⟩))
                  go_meet
                  case rel => exact ⟨_, (((FloatKind.f64.format.order t114 t114 == some .eq) != (FloatKind.f64.format.order a0 a0 == some .eq))), (by first | rfl | (simp; done) | (simp [*]; done)), H', ⟨by have := HJ5.out; have := HJ26.out; first | omega | exact Nat.le_refl _⟩, ⟨by repeat (first | (with_reducible first | exact HB.out | apply below_alloc | apply pw_below_drewN | apply below_drew1) | exact HB.out)⟩⟩
                · replace c57 := Bool.eq_false_iff.mpr c57
                  subst c57
                  have H1 : (stevedorelaw4_ClockKeeps.j2 kj26 a0 a1 t114 true) = some r := by rw [if_neg (show ¬ (false = true) by decide)] at H; exact H
                  clear H
                  have H := H1
                  clear H1
                  have H' := Aside0.mk H
                  clear H
                  go_wp2_with (first | ((with_reducible refine gate_callee (f := 40) rfl ?_); refine goesL_ (some 81) rfl rfl Tryd.func40 (by kernel_rfl) rfl #[.float .f64 t114] rfl (by (try simp only [List.map_toArray, List.map_cons, List.map_nil]); first | done | rfl | (simp only [List.length_drop, List.length_take]; rfl)) ?_; (with_reducible refine (clock_Dos.calls kj26 t114 t115 _ A54.out).mono ?_); rintro e w60 ⟨rfl, hb⟩; refine ⟨_, rfl, ?_⟩; have n0_ := Aside0.mk (below_step (by repeat (first | (with_reducible first | exact HB.out | apply below_alloc | apply pw_below_drewN | apply below_drew1) | exact HB.out)) hb); clear HB; have HB := n0_; clear n0_; (try clear hb); (try clear hb2); (try clear hk); (try clear hi)) | ((with_reducible refine gate_callee (f := 48) rfl ?_); refine goesL_ (some 82) rfl rfl Tryd.func48 (by kernel_rfl) rfl #[.int .i64 t115] rfl (by (try simp only [List.map_toArray, List.map_cons, List.map_nil]); first | done | rfl | (simp only [List.length_drop, List.length_take]; rfl)) ?_; (with_reducible refine (clock_FromDos.calls kj26 t115 t116 _ A55.out).mono ?_); rintro e w61 ⟨rfl, hb⟩; refine ⟨_, rfl, ?_⟩; have n0_ := Aside0.mk (below_step (by repeat (first | (with_reducible first | exact HB.out | apply below_alloc | apply pw_below_drewN | apply below_drew1) | exact HB.out)) hb); clear HB; have HB := n0_; clear n0_; (try clear hb); (try clear hb2); (try clear hk); (try clear hi)) | ((with_reducible refine gate_callee (f := 34) rfl ?_); refine goesL_ (some 84) rfl rfl Tryd.func34 (by kernel_rfl) rfl #[.float .f64 t116, .float .f64 t114] rfl (by (try simp only [List.map_toArray, List.map_cons, List.map_nil]); first | done | rfl | (simp only [List.length_drop, List.length_take]; rfl)) ?_; (with_reducible refine (stevedorelaw4_same.calls t116 t114 false _ A56.out).mono ?_); rintro e w' ⟨rfl, ⟨nd, rfl⟩⟩; refine ⟨_, rfl, ?_⟩))
                  go_meet
                  case rel => exact ⟨_, (true), (by first | rfl | (simp; done) | (simp [*]; done)), H', ⟨by have := HJ5.out; have := HJ26.out; first | omega | exact Nat.le_refl _⟩, ⟨by repeat (first | (with_reducible first | exact HB.out | apply below_alloc | apply pw_below_drewN | apply below_drew1) | exact HB.out)⟩⟩
              case rest =>
                clear HC51
                try clear c1
                try clear c2
                try clear p2
                try clear c3
                try clear c4
                try clear c5
                try clear c12
                try clear c13
                try clear c13b0
                try clear c13b1
                try clear c14
                try clear c15
                try clear c16
                try clear c16b0
                try clear c16b1
                try clear c16b2
                try clear c17
                try clear c17b0
                try clear c17b1
                try clear c17b2
                try clear c24
                try clear c32
                try clear c33
                try clear c34
                try clear c34b0
                try clear c34b1
                try clear c34b2
                try clear c35
                try clear c35b0
                try clear c35b1
                try clear c35b2
                try clear c37
                try clear c38
                try clear c38b0
                try clear c38b1
                try clear c39
                try clear c39b0
                try clear c39b1
                try clear c39b2
                try clear c40
                try clear c47
                try clear c48
                try clear c57
                try clear p2
                obtain ⟨kq, x94_50, rfl, HA, HJ50, HB⟩ := hcut
                cases kq with
                | zero => exact absurd HA.out (by simp [stevedorelaw4_ClockKeeps.j2])
                | succ kj50 =>
                  have H := HA.out
                  clear HA
                  simp only [stevedorelaw4_ClockKeeps.j2] at H
                  by_cases c62 : x94_50 = true
                  · subst c62
                    have H1 : (some false) = some r := by rw [if_pos rfl] at H; exact H
                    clear H
                    have H := H1
                    clear H1
                    obtain rfl := Option.some.inj H
                    go_wp2
                    go_ret
                    exact ⟨by first | rfl | (simp only [show ∀ l : List UInt8, (l != []) = (!l.isEmpty) from fun l => by cases l <;> rfl]; rfl) | (simp [errW_none, errW_some] <;> rfl) | (simp [*, errW_none, errW_some] <;> rfl), by repeat (first | (with_reducible first | exact HB.out | apply below_alloc | apply pw_below_drewN | apply below_drew1) | exact HB.out)⟩
                  · replace c62 := Bool.eq_false_iff.mpr c62
                    subst c62
                    have H1 : ((clock_FromDos.f kj50 a1).bind fun t118 => ((stevedorelaw4_told.f).bind fun t119 => (if t119 = true then (if (FloatKind.f64.format.order t118 t118 != some .eq) = true then (if (FloatKind.f64.format.order a0 a0 != some .eq) = true then (some true) else (if (FloatKind.f64.format.order t114 4734073370679705600 == some .gt || FloatKind.f64.format.order t114 4734073370679705600 == some .eq) = true then (some (FloatKind.f64.format.order t114 4751360366145961984 == some .lt)) else (some false))) else ((clock_Dos.f kj50 t118).bind fun t120 => (if t120 = a1 then (if (FloatKind.f64.format.order a0 a0 != some .eq) = true then (some true) else (if (FloatKind.f64.format.order t114 4734073370679705600 == some .gt || FloatKind.f64.format.order t114 4734073370679705600 == some .eq) = true then (some (FloatKind.f64.format.order t114 4751360366145961984 == some .lt)) else (some false))) else (some false)))) else (some false)))) = some r := by rw [if_neg (show ¬ (false = true) by decide)] at H; exact H
                    clear H
                    have H := H1
                    clear H1
                    replace H := Option.bind_eq_some_iff.mp H
                    obtain ⟨t118, A630, H⟩ := H
                    replace H : ((stevedorelaw4_told.f).bind fun t119 => (if t119 = true then (if (FloatKind.f64.format.order t118 t118 != some .eq) = true then (if (FloatKind.f64.format.order a0 a0 != some .eq) = true then (some true) else (if (FloatKind.f64.format.order t114 4734073370679705600 == some .gt || FloatKind.f64.format.order t114 4734073370679705600 == some .eq) = true then (some (FloatKind.f64.format.order t114 4751360366145961984 == some .lt)) else (some false))) else ((clock_Dos.f kj50 t118).bind fun t120 => (if t120 = a1 then (if (FloatKind.f64.format.order a0 a0 != some .eq) = true then (some true) else (if (FloatKind.f64.format.order t114 4734073370679705600 == some .gt || FloatKind.f64.format.order t114 4734073370679705600 == some .eq) = true then (some (FloatKind.f64.format.order t114 4751360366145961984 == some .lt)) else (some false))) else (some false)))) else (some false))) = some r := H
                    have A63 := Aside0.mk A630
                    clear A630
                    replace H := Option.bind_eq_some_iff.mp H
                    obtain ⟨t119, A640, H⟩ := H
                    replace H : (if t119 = true then (if (FloatKind.f64.format.order t118 t118 != some .eq) = true then (if (FloatKind.f64.format.order a0 a0 != some .eq) = true then (some true) else (if (FloatKind.f64.format.order t114 4734073370679705600 == some .gt || FloatKind.f64.format.order t114 4734073370679705600 == some .eq) = true then (some (FloatKind.f64.format.order t114 4751360366145961984 == some .lt)) else (some false))) else ((clock_Dos.f kj50 t118).bind fun t120 => (if t120 = a1 then (if (FloatKind.f64.format.order a0 a0 != some .eq) = true then (some true) else (if (FloatKind.f64.format.order t114 4734073370679705600 == some .gt || FloatKind.f64.format.order t114 4734073370679705600 == some .eq) = true then (some (FloatKind.f64.format.order t114 4751360366145961984 == some .lt)) else (some false))) else (some false)))) else (some false)) = some r := H
                    have A64 := Aside0.mk A640
                    clear A640
                    by_cases c65 : t119 = true
                    · subst c65
                      have H1 : (if (FloatKind.f64.format.order t118 t118 != some .eq) = true then (if (FloatKind.f64.format.order a0 a0 != some .eq) = true then (some true) else (if (FloatKind.f64.format.order t114 4734073370679705600 == some .gt || FloatKind.f64.format.order t114 4734073370679705600 == some .eq) = true then (some (FloatKind.f64.format.order t114 4751360366145961984 == some .lt)) else (some false))) else ((clock_Dos.f kj50 t118).bind fun t120 => (if t120 = a1 then (if (FloatKind.f64.format.order a0 a0 != some .eq) = true then (some true) else (if (FloatKind.f64.format.order t114 4734073370679705600 == some .gt || FloatKind.f64.format.order t114 4734073370679705600 == some .eq) = true then (some (FloatKind.f64.format.order t114 4751360366145961984 == some .lt)) else (some false))) else (some false)))) = some r := by rw [if_pos rfl] at H; exact H
                      clear H
                      have H := H1
                      clear H1
                      by_cases c66 : (FloatKind.f64.format.order t118 t118 != some .eq) = true
                      · rw [if_pos c66] at H
                        have c66b0 : (FloatKind.f64.format.order t118 t118 != some .eq) = true := c66
                        (try (have c66b1 : decide (FloatKind.f64.format.order t118 t118 = some .eq) = false := by simpa using c66))
                        (try (have c66b2 : (FloatKind.f64.format.order t118 t118 == some .eq) = false := by simpa using c66))
                        (try (have c66b3 : ¬ (FloatKind.f64.format.order t118 t118 = some .eq) := by simpa using c66))
                        clear c66
                        by_cases c67 : (FloatKind.f64.format.order a0 a0 != some .eq) = true
                        · rw [if_pos c67] at H
                          have c67b0 : (FloatKind.f64.format.order a0 a0 != some .eq) = true := c67
                          (try (have c67b1 : decide (FloatKind.f64.format.order a0 a0 = some .eq) = false := by simpa using c67))
                          (try (have c67b2 : (FloatKind.f64.format.order a0 a0 == some .eq) = false := by simpa using c67))
                          (try (have c67b3 : ¬ (FloatKind.f64.format.order a0 a0 = some .eq) := by simpa using c67))
                          clear c67
                          obtain rfl := Option.some.inj H
                          go_wp2_with (first | ((with_reducible refine gate_callee (f := 48) rfl ?_); refine goesL_ (some 96) rfl rfl Tryd.func48 (by kernel_rfl) rfl #[.int .i64 a1] rfl (by (try simp only [List.map_toArray, List.map_cons, List.map_nil]); first | done | rfl | (simp only [List.length_drop, List.length_take]; rfl)) ?_; (with_reducible refine (clock_FromDos.calls kj50 a1 t118 _ A63.out).mono ?_); rintro e w68 ⟨rfl, hb⟩; refine ⟨_, rfl, ?_⟩; have n0_ := Aside0.mk (below_step (by repeat (first | (with_reducible first | exact HB.out | apply below_alloc | apply pw_below_drewN | apply below_drew1) | exact HB.out)) hb); clear HB; have HB := n0_; clear n0_; (try clear hb); (try clear hb2); (try clear hk); (try clear hi)) | ((with_reducible refine gate_callee (f := 31) rfl ?_); refine goesL_ (some 97) rfl rfl Tryd.func31 (by kernel_rfl) rfl #[] rfl (by (try simp only [List.map_toArray, List.map_cons, List.map_nil]); first | done | rfl | (simp only [List.length_drop, List.length_take]; rfl)) ?_; (with_reducible refine (stevedorelaw4_told.calls  true _ A64.out (Go.Proofs.YtfmfikodnpnblaaDoor.ClkLib.Vars.below HVARS.out (by repeat (first | (with_reducible first | exact HB.out | apply below_alloc | apply pw_below_drewN | apply below_drew1 | refine below_set ?_ (Aside0.out (by assumption))) | exact HB.out)))).mono ?_); rintro e w69 ⟨rfl, hb⟩; refine ⟨_, rfl, ?_⟩; have n0_ := Aside0.mk (below_step (by repeat (first | (with_reducible first | exact HB.out | apply below_alloc | apply pw_below_drewN | apply below_drew1) | exact HB.out)) hb); clear HB; have HB := n0_; clear n0_; (try clear hb); (try clear hb2); (try clear hk); (try clear hi)))
                          go_ret
                          exact ⟨by first | rfl | (simp only [show ∀ l : List UInt8, (l != []) = (!l.isEmpty) from fun l => by cases l <;> rfl]; rfl) | (simp [errW_none, errW_some] <;> rfl) | (simp [*, errW_none, errW_some] <;> rfl), by repeat (first | (with_reducible first | exact HB.out | apply below_alloc | apply pw_below_drewN | apply below_drew1) | exact HB.out)⟩
                        · rw [if_neg c67] at H
                          have c67b0 : (FloatKind.f64.format.order a0 a0 != some .eq) = false := by simpa using c67
                          (try (have c67b1 : decide (FloatKind.f64.format.order a0 a0 = some .eq) = true := by simpa using c67))
                          (try (have c67b2 : (FloatKind.f64.format.order a0 a0 == some .eq) = true := by simpa using c67))
                          clear c67
                          by_cases c70 : (FloatKind.f64.format.order t114 4734073370679705600 == some .gt || FloatKind.f64.format.order t114 4734073370679705600 == some .eq) = true
                          · rw [if_pos c70] at H
                            have c70b0 : (FloatKind.f64.format.order t114 4734073370679705600 == some .gt || FloatKind.f64.format.order t114 4734073370679705600 == some .eq) = true := c70
                            have c70b7 : (!(FloatKind.f64.format.order t114 4734073370679705600 == some .gt) && !(FloatKind.f64.format.order t114 4734073370679705600 == some .eq)) = false := by rw [← Bool.not_or, c70b0]; rfl
                            (try (have c70b1 : decide (FloatKind.f64.format.order t114 4734073370679705600 = some .gt || FloatKind.f64.format.order t114 4734073370679705600 == some .eq) = true := by simpa using c70))
                            (try (have c70b2 : (FloatKind.f64.format.order t114 4734073370679705600 == some .gt || FloatKind.f64.format.order t114 4734073370679705600 == some .eq) = true := by simpa using c70))
                            clear c70
                            obtain rfl := Option.some.inj H
                            go_wp2_with (first | ((with_reducible refine gate_callee (f := 48) rfl ?_); refine goesL_ (some 96) rfl rfl Tryd.func48 (by kernel_rfl) rfl #[.int .i64 a1] rfl (by (try simp only [List.map_toArray, List.map_cons, List.map_nil]); first | done | rfl | (simp only [List.length_drop, List.length_take]; rfl)) ?_; (with_reducible refine (clock_FromDos.calls kj50 a1 t118 _ A63.out).mono ?_); rintro e w71 ⟨rfl, hb⟩; refine ⟨_, rfl, ?_⟩; have n0_ := Aside0.mk (below_step (by repeat (first | (with_reducible first | exact HB.out | apply below_alloc | apply pw_below_drewN | apply below_drew1) | exact HB.out)) hb); clear HB; have HB := n0_; clear n0_; (try clear hb); (try clear hb2); (try clear hk); (try clear hi)) | ((with_reducible refine gate_callee (f := 31) rfl ?_); refine goesL_ (some 97) rfl rfl Tryd.func31 (by kernel_rfl) rfl #[] rfl (by (try simp only [List.map_toArray, List.map_cons, List.map_nil]); first | done | rfl | (simp only [List.length_drop, List.length_take]; rfl)) ?_; (with_reducible refine (stevedorelaw4_told.calls  true _ A64.out (Go.Proofs.YtfmfikodnpnblaaDoor.ClkLib.Vars.below HVARS.out (by repeat (first | (with_reducible first | exact HB.out | apply below_alloc | apply pw_below_drewN | apply below_drew1 | refine below_set ?_ (Aside0.out (by assumption))) | exact HB.out)))).mono ?_); rintro e w72 ⟨rfl, hb⟩; refine ⟨_, rfl, ?_⟩; have n0_ := Aside0.mk (below_step (by repeat (first | (with_reducible first | exact HB.out | apply below_alloc | apply pw_below_drewN | apply below_drew1) | exact HB.out)) hb); clear HB; have HB := n0_; clear n0_; (try clear hb); (try clear hb2); (try clear hk); (try clear hi)))
                            go_ret
                            exact ⟨by first | rfl | (simp only [show ∀ l : List UInt8, (l != []) = (!l.isEmpty) from fun l => by cases l <;> rfl]; rfl) | (simp [errW_none, errW_some] <;> rfl) | (simp [*, errW_none, errW_some] <;> rfl), by repeat (first | (with_reducible first | exact HB.out | apply below_alloc | apply pw_below_drewN | apply below_drew1) | exact HB.out)⟩
                          · rw [if_neg c70] at H
                            have c70b0 : (FloatKind.f64.format.order t114 4734073370679705600 == some .gt || FloatKind.f64.format.order t114 4734073370679705600 == some .eq) = false := by simpa using c70
                            have c70b7 : (!(FloatKind.f64.format.order t114 4734073370679705600 == some .gt) && !(FloatKind.f64.format.order t114 4734073370679705600 == some .eq)) = true := by rw [← Bool.not_or, c70b0]; rfl
                            (try (have c70b1 : decide (FloatKind.f64.format.order t114 4734073370679705600 = some .gt || FloatKind.f64.format.order t114 4734073370679705600 == some .eq) = false := by simpa using c70))
                            (try (have c70b2 : (FloatKind.f64.format.order t114 4734073370679705600 == some .gt || FloatKind.f64.format.order t114 4734073370679705600 == some .eq) = false := by simpa using c70))
                            (try (have c70b3 : ¬ (FloatKind.f64.format.order t114 4734073370679705600 = some .gt || FloatKind.f64.format.order t114 4734073370679705600 == some .eq) := by simpa using c70))
                            clear c70
                            obtain rfl := Option.some.inj H
                            go_wp2_with (first | ((with_reducible refine gate_callee (f := 48) rfl ?_); refine goesL_ (some 96) rfl rfl Tryd.func48 (by kernel_rfl) rfl #[.int .i64 a1] rfl (by (try simp only [List.map_toArray, List.map_cons, List.map_nil]); first | done | rfl | (simp only [List.length_drop, List.length_take]; rfl)) ?_; (with_reducible refine (clock_FromDos.calls kj50 a1 t118 _ A63.out).mono ?_); rintro e w73 ⟨rfl, hb⟩; refine ⟨_, rfl, ?_⟩; have n0_ := Aside0.mk (below_step (by repeat (first | (with_reducible first | exact HB.out | apply below_alloc | apply pw_below_drewN | apply below_drew1) | exact HB.out)) hb); clear HB; have HB := n0_; clear n0_; (try clear hb); (try clear hb2); (try clear hk); (try clear hi)) | ((with_reducible refine gate_callee (f := 31) rfl ?_); refine goesL_ (some 97) rfl rfl Tryd.func31 (by kernel_rfl) rfl #[] rfl (by (try simp only [List.map_toArray, List.map_cons, List.map_nil]); first | done | rfl | (simp only [List.length_drop, List.length_take]; rfl)) ?_; (with_reducible refine (stevedorelaw4_told.calls  true _ A64.out (Go.Proofs.YtfmfikodnpnblaaDoor.ClkLib.Vars.below HVARS.out (by repeat (first | (with_reducible first | exact HB.out | apply below_alloc | apply pw_below_drewN | apply below_drew1 | refine below_set ?_ (Aside0.out (by assumption))) | exact HB.out)))).mono ?_); rintro e w74 ⟨rfl, hb⟩; refine ⟨_, rfl, ?_⟩; have n0_ := Aside0.mk (below_step (by repeat (first | (with_reducible first | exact HB.out | apply below_alloc | apply pw_below_drewN | apply below_drew1) | exact HB.out)) hb); clear HB; have HB := n0_; clear n0_; (try clear hb); (try clear hb2); (try clear hk); (try clear hi)))
                            go_ret
                            exact ⟨by first | rfl | (simp only [show ∀ l : List UInt8, (l != []) = (!l.isEmpty) from fun l => by cases l <;> rfl]; rfl) | (simp [errW_none, errW_some] <;> rfl) | (simp [*, errW_none, errW_some] <;> rfl), by repeat (first | (with_reducible first | exact HB.out | apply below_alloc | apply pw_below_drewN | apply below_drew1) | exact HB.out)⟩
                      · rw [if_neg c66] at H
                        have c66b0 : (FloatKind.f64.format.order t118 t118 != some .eq) = false := by simpa using c66
                        (try (have c66b1 : decide (FloatKind.f64.format.order t118 t118 = some .eq) = true := by simpa using c66))
                        (try (have c66b2 : (FloatKind.f64.format.order t118 t118 == some .eq) = true := by simpa using c66))
                        clear c66
                        replace H := Option.bind_eq_some_iff.mp H
                        obtain ⟨t120, A750, H⟩ := H
                        replace H : (if t120 = a1 then (if (FloatKind.f64.format.order a0 a0 != some .eq) = true then (some true) else (if (FloatKind.f64.format.order t114 4734073370679705600 == some .gt || FloatKind.f64.format.order t114 4734073370679705600 == some .eq) = true then (some (FloatKind.f64.format.order t114 4751360366145961984 == some .lt)) else (some false))) else (some false)) = some r := H
                        have A75 := Aside0.mk A750
                        clear A750
                        by_cases c76 : t120 = a1
                        · rw [if_pos c76] at H
                          have c76b0 : (t120 == a1) = true := beq_iff_eq.mpr c76
                          have c76b1 : (t120 != a1) = false := bne_eq_false_iff_eq.mpr c76
                          clear c76
                          by_cases c77 : (FloatKind.f64.format.order a0 a0 != some .eq) = true
                          · rw [if_pos c77] at H
                            have c77b0 : (FloatKind.f64.format.order a0 a0 != some .eq) = true := c77
                            (try (have c77b1 : decide (FloatKind.f64.format.order a0 a0 = some .eq) = false := by simpa using c77))
                            (try (have c77b2 : (FloatKind.f64.format.order a0 a0 == some .eq) = false := by simpa using c77))
                            (try (have c77b3 : ¬ (FloatKind.f64.format.order a0 a0 = some .eq) := by simpa using c77))
                            clear c77
                            obtain rfl := Option.some.inj H
                            go_wp2_with (first | ((with_reducible refine gate_callee (f := 48) rfl ?_); refine goesL_ (some 96) rfl rfl Tryd.func48 (by kernel_rfl) rfl #[.int .i64 a1] rfl (by (try simp only [List.map_toArray, List.map_cons, List.map_nil]); first | done | rfl | (simp only [List.length_drop, List.length_take]; rfl)) ?_; (with_reducible refine (clock_FromDos.calls kj50 a1 t118 _ A63.out).mono ?_); rintro e w78 ⟨rfl, hb⟩; refine ⟨_, rfl, ?_⟩; have n0_ := Aside0.mk (below_step (by repeat (first | (with_reducible first | exact HB.out | apply below_alloc | apply pw_below_drewN | apply below_drew1) | exact HB.out)) hb); clear HB; have HB := n0_; clear n0_; (try clear hb); (try clear hb2); (try clear hk); (try clear hi)) | ((with_reducible refine gate_callee (f := 31) rfl ?_); refine goesL_ (some 97) rfl rfl Tryd.func31 (by kernel_rfl) rfl #[] rfl (by (try simp only [List.map_toArray, List.map_cons, List.map_nil]); first | done | rfl | (simp only [List.length_drop, List.length_take]; rfl)) ?_; (with_reducible refine (stevedorelaw4_told.calls  true _ A64.out (Go.Proofs.YtfmfikodnpnblaaDoor.ClkLib.Vars.below HVARS.out (by repeat (first | (with_reducible first | exact HB.out | apply below_alloc | apply pw_below_drewN | apply below_drew1 | refine below_set ?_ (Aside0.out (by assumption))) | exact HB.out)))).mono ?_); rintro e w79 ⟨rfl, hb⟩; refine ⟨_, rfl, ?_⟩; have n0_ := Aside0.mk (below_step (by repeat (first | (with_reducible first | exact HB.out | apply below_alloc | apply pw_below_drewN | apply below_drew1) | exact HB.out)) hb); clear HB; have HB := n0_; clear n0_; (try clear hb); (try clear hb2); (try clear hk); (try clear hi)) | (go_at_call 40; (with_reducible refine (clock_Dos.calls kj50 t118 t120 _ A75.out).mono ?_); rintro e w80 ⟨rfl, hb⟩; have n0_ := Aside0.mk (below_step (by repeat (first | (with_reducible first | exact HB.out | apply below_alloc | apply pw_below_drewN | apply below_drew1) | exact HB.out)) hb); clear HB; have HB := n0_; clear n0_; (try clear hb); (try clear hb2); (try clear hk); (try clear hi)))
                            go_ret
                            exact ⟨by first | rfl | (simp only [show ∀ l : List UInt8, (l != []) = (!l.isEmpty) from fun l => by cases l <;> rfl]; rfl) | (simp [errW_none, errW_some] <;> rfl) | (simp [*, errW_none, errW_some] <;> rfl), by repeat (first | (with_reducible first | exact HB.out | apply below_alloc | apply pw_below_drewN | apply below_drew1) | exact HB.out)⟩
                          · rw [if_neg c77] at H
                            have c77b0 : (FloatKind.f64.format.order a0 a0 != some .eq) = false := by simpa using c77
                            (try (have c77b1 : decide (FloatKind.f64.format.order a0 a0 = some .eq) = true := by simpa using c77))
                            (try (have c77b2 : (FloatKind.f64.format.order a0 a0 == some .eq) = true := by simpa using c77))
                            clear c77
                            by_cases c81 : (FloatKind.f64.format.order t114 4734073370679705600 == some .gt || FloatKind.f64.format.order t114 4734073370679705600 == some .eq) = true
                            · rw [if_pos c81] at H
                              have c81b0 : (FloatKind.f64.format.order t114 4734073370679705600 == some .gt || FloatKind.f64.format.order t114 4734073370679705600 == some .eq) = true := c81
                              have c81b7 : (!(FloatKind.f64.format.order t114 4734073370679705600 == some .gt) && !(FloatKind.f64.format.order t114 4734073370679705600 == some .eq)) = false := by rw [← Bool.not_or, c81b0]; rfl
                              (try (have c81b1 : decide (FloatKind.f64.format.order t114 4734073370679705600 = some .gt || FloatKind.f64.format.order t114 4734073370679705600 == some .eq) = true := by simpa using c81))
                              (try (have c81b2 : (FloatKind.f64.format.order t114 4734073370679705600 == some .gt || FloatKind.f64.format.order t114 4734073370679705600 == some .eq) = true := by simpa using c81))
                              clear c81
                              obtain rfl := Option.some.inj H
                              go_wp2_with (first | ((with_reducible refine gate_callee (f := 48) rfl ?_); refine goesL_ (some 96) rfl rfl Tryd.func48 (by kernel_rfl) rfl #[.int .i64 a1] rfl (by (try simp only [List.map_toArray, List.map_cons, List.map_nil]); first | done | rfl | (simp only [List.length_drop, List.length_take]; rfl)) ?_; (with_reducible refine (clock_FromDos.calls kj50 a1 t118 _ A63.out).mono ?_); rintro e w82 ⟨rfl, hb⟩; refine ⟨_, rfl, ?_⟩; have n0_ := Aside0.mk (below_step (by repeat (first | (with_reducible first | exact HB.out | apply below_alloc | apply pw_below_drewN | apply below_drew1) | exact HB.out)) hb); clear HB; have HB := n0_; clear n0_; (try clear hb); (try clear hb2); (try clear hk); (try clear hi)) | ((with_reducible refine gate_callee (f := 31) rfl ?_); refine goesL_ (some 97) rfl rfl Tryd.func31 (by kernel_rfl) rfl #[] rfl (by (try simp only [List.map_toArray, List.map_cons, List.map_nil]); first | done | rfl | (simp only [List.length_drop, List.length_take]; rfl)) ?_; (with_reducible refine (stevedorelaw4_told.calls  true _ A64.out (Go.Proofs.YtfmfikodnpnblaaDoor.ClkLib.Vars.below HVARS.out (by repeat (first | (with_reducible first | exact HB.out | apply below_alloc | apply pw_below_drewN | apply below_drew1 | refine below_set ?_ (Aside0.out (by assumption))) | exact HB.out)))).mono ?_); rintro e w83 ⟨rfl, hb⟩; refine ⟨_, rfl, ?_⟩; have n0_ := Aside0.mk (below_step (by repeat (first | (with_reducible first | exact HB.out | apply below_alloc | apply pw_below_drewN | apply below_drew1) | exact HB.out)) hb); clear HB; have HB := n0_; clear n0_; (try clear hb); (try clear hb2); (try clear hk); (try clear hi)) | (go_at_call 40; (with_reducible refine (clock_Dos.calls kj50 t118 t120 _ A75.out).mono ?_); rintro e w84 ⟨rfl, hb⟩; have n0_ := Aside0.mk (below_step (by repeat (first | (with_reducible first | exact HB.out | apply below_alloc | apply pw_below_drewN | apply below_drew1) | exact HB.out)) hb); clear HB; have HB := n0_; clear n0_; (try clear hb); (try clear hb2); (try clear hk); (try clear hi)))
                              go_ret
                              exact ⟨by first | rfl | (simp only [show ∀ l : List UInt8, (l != []) = (!l.isEmpty) from fun l => by cases l <;> rfl]; rfl) | (simp [errW_none, errW_some] <;> rfl) | (simp [*, errW_none, errW_some] <;> rfl), by repeat (first | (with_reducible first | exact HB.out | apply below_alloc | apply pw_below_drewN | apply below_drew1) | exact HB.out)⟩
                            · rw [if_neg c81] at H
                              have c81b0 : (FloatKind.f64.format.order t114 4734073370679705600 == some .gt || FloatKind.f64.format.order t114 4734073370679705600 == some .eq) = false := by simpa using c81
                              have c81b7 : (!(FloatKind.f64.format.order t114 4734073370679705600 == some .gt) && !(FloatKind.f64.format.order t114 4734073370679705600 == some .eq)) = true := by rw [← Bool.not_or, c81b0]; rfl
                              (try (have c81b1 : decide (FloatKind.f64.format.order t114 4734073370679705600 = some .gt || FloatKind.f64.format.order t114 4734073370679705600 == some .eq) = false := by simpa using c81))
                              (try (have c81b2 : (FloatKind.f64.format.order t114 4734073370679705600 == some .gt || FloatKind.f64.format.order t114 4734073370679705600 == some .eq) = false := by simpa using c81))
                              (try (have c81b3 : ¬ (FloatKind.f64.format.order t114 4734073370679705600 = some .gt || FloatKind.f64.format.order t114 4734073370679705600 == some .eq) := by simpa using c81))
                              clear c81
                              obtain rfl := Option.some.inj H
                              go_wp2_with (first | ((with_reducible refine gate_callee (f := 48) rfl ?_); refine goesL_ (some 96) rfl rfl Tryd.func48 (by kernel_rfl) rfl #[.int .i64 a1] rfl (by (try simp only [List.map_toArray, List.map_cons, List.map_nil]); first | done | rfl | (simp only [List.length_drop, List.length_take]; rfl)) ?_; (with_reducible refine (clock_FromDos.calls kj50 a1 t118 _ A63.out).mono ?_); rintro e w85 ⟨rfl, hb⟩; refine ⟨_, rfl, ?_⟩; have n0_ := Aside0.mk (below_step (by repeat (first | (with_reducible first | exact HB.out | apply below_alloc | apply pw_below_drewN | apply below_drew1) | exact HB.out)) hb); clear HB; have HB := n0_; clear n0_; (try clear hb); (try clear hb2); (try clear hk); (try clear hi)) | ((with_reducible refine gate_callee (f := 31) rfl ?_); refine goesL_ (some 97) rfl rfl Tryd.func31 (by kernel_rfl) rfl #[] rfl (by (try simp only [List.map_toArray, List.map_cons, List.map_nil]); first | done | rfl | (simp only [List.length_drop, List.length_take]; rfl)) ?_; (with_reducible refine (stevedorelaw4_told.calls  true _ A64.out (Go.Proofs.YtfmfikodnpnblaaDoor.ClkLib.Vars.below HVARS.out (by repeat (first | (with_reducible first | exact HB.out | apply below_alloc | apply pw_below_drewN | apply below_drew1 | refine below_set ?_ (Aside0.out (by assumption))) | exact HB.out)))).mono ?_); rintro e w86 ⟨rfl, hb⟩; refine ⟨_, rfl, ?_⟩; have n0_ := Aside0.mk (below_step (by repeat (first | (with_reducible first | exact HB.out | apply below_alloc | apply pw_below_drewN | apply below_drew1) | exact HB.out)) hb); clear HB; have HB := n0_; clear n0_; (try clear hb); (try clear hb2); (try clear hk); (try clear hi)) | (go_at_call 40; (with_reducible refine (clock_Dos.calls kj50 t118 t120 _ A75.out).mono ?_); rintro e w87 ⟨rfl, hb⟩; have n0_ := Aside0.mk (below_step (by repeat (first | (with_reducible first | exact HB.out | apply below_alloc | apply pw_below_drewN | apply below_drew1) | exact HB.out)) hb); clear HB; have HB := n0_; clear n0_; (try clear hb); (try clear hb2); (try clear hk); (try clear hi)))
                              go_ret
                              exact ⟨by first | rfl | (simp only [show ∀ l : List UInt8, (l != []) = (!l.isEmpty) from fun l => by cases l <;> rfl]; rfl) | (simp [errW_none, errW_some] <;> rfl) | (simp [*, errW_none, errW_some] <;> rfl), by repeat (first | (with_reducible first | exact HB.out | apply below_alloc | apply pw_below_drewN | apply below_drew1) | exact HB.out)⟩
                        · rw [if_neg c76] at H
                          have c76b0 : (t120 == a1) = false := beq_eq_false_iff_ne.mpr c76
                          have c76b1 : (t120 != a1) = true := bne_iff_ne.mpr c76
                          obtain rfl := Option.some.inj H
                          go_wp2_with (first | ((with_reducible refine gate_callee (f := 48) rfl ?_); refine goesL_ (some 96) rfl rfl Tryd.func48 (by kernel_rfl) rfl #[.int .i64 a1] rfl (by (try simp only [List.map_toArray, List.map_cons, List.map_nil]); first | done | rfl | (simp only [List.length_drop, List.length_take]; rfl)) ?_; (with_reducible refine (clock_FromDos.calls kj50 a1 t118 _ A63.out).mono ?_); rintro e w88 ⟨rfl, hb⟩; refine ⟨_, rfl, ?_⟩; have n0_ := Aside0.mk (below_step (by repeat (first | (with_reducible first | exact HB.out | apply below_alloc | apply pw_below_drewN | apply below_drew1) | exact HB.out)) hb); clear HB; have HB := n0_; clear n0_; (try clear hb); (try clear hb2); (try clear hk); (try clear hi)) | ((with_reducible refine gate_callee (f := 31) rfl ?_); refine goesL_ (some 97) rfl rfl Tryd.func31 (by kernel_rfl) rfl #[] rfl (by (try simp only [List.map_toArray, List.map_cons, List.map_nil]); first | done | rfl | (simp only [List.length_drop, List.length_take]; rfl)) ?_; (with_reducible refine (stevedorelaw4_told.calls  true _ A64.out (Go.Proofs.YtfmfikodnpnblaaDoor.ClkLib.Vars.below HVARS.out (by repeat (first | (with_reducible first | exact HB.out | apply below_alloc | apply pw_below_drewN | apply below_drew1 | refine below_set ?_ (Aside0.out (by assumption))) | exact HB.out)))).mono ?_); rintro e w89 ⟨rfl, hb⟩; refine ⟨_, rfl, ?_⟩; have n0_ := Aside0.mk (below_step (by repeat (first | (with_reducible first | exact HB.out | apply below_alloc | apply pw_below_drewN | apply below_drew1) | exact HB.out)) hb); clear HB; have HB := n0_; clear n0_; (try clear hb); (try clear hb2); (try clear hk); (try clear hi)) | (go_at_call 40; (with_reducible refine (clock_Dos.calls kj50 t118 t120 _ A75.out).mono ?_); rintro e w90 ⟨rfl, hb⟩; have n0_ := Aside0.mk (below_step (by repeat (first | (with_reducible first | exact HB.out | apply below_alloc | apply pw_below_drewN | apply below_drew1) | exact HB.out)) hb); clear HB; have HB := n0_; clear n0_; (try clear hb); (try clear hb2); (try clear hk); (try clear hi)))
                          go_ret
                          exact ⟨by first | rfl | (simp only [show ∀ l : List UInt8, (l != []) = (!l.isEmpty) from fun l => by cases l <;> rfl]; rfl) | (simp [errW_none, errW_some] <;> rfl) | (simp [*, errW_none, errW_some] <;> rfl), by repeat (first | (with_reducible first | exact HB.out | apply below_alloc | apply pw_below_drewN | apply below_drew1) | exact HB.out)⟩
                    · replace c65 := Bool.eq_false_iff.mpr c65
                      subst c65
                      have H1 : (some false) = some r := by rw [if_neg (show ¬ (false = true) by decide)] at H; exact H
                      clear H
                      have H := H1
                      clear H1
                      obtain rfl := Option.some.inj H
                      go_wp2_with (first | ((with_reducible refine gate_callee (f := 48) rfl ?_); refine goesL_ (some 96) rfl rfl Tryd.func48 (by kernel_rfl) rfl #[.int .i64 a1] rfl (by (try simp only [List.map_toArray, List.map_cons, List.map_nil]); first | done | rfl | (simp only [List.length_drop, List.length_take]; rfl)) ?_; (with_reducible refine (clock_FromDos.calls kj50 a1 t118 _ A63.out).mono ?_); rintro e w91 ⟨rfl, hb⟩; refine ⟨_, rfl, ?_⟩; have n0_ := Aside0.mk (below_step (by repeat (first | (with_reducible first | exact HB.out | apply below_alloc | apply pw_below_drewN | apply below_drew1) | exact HB.out)) hb); clear HB; have HB := n0_; clear n0_; (try clear hb); (try clear hb2); (try clear hk); (try clear hi)) | ((with_reducible refine gate_callee (f := 31) rfl ?_); refine goesL_ (some 97) rfl rfl Tryd.func31 (by kernel_rfl) rfl #[] rfl (by (try simp only [List.map_toArray, List.map_cons, List.map_nil]); first | done | rfl | (simp only [List.length_drop, List.length_take]; rfl)) ?_; (with_reducible refine (stevedorelaw4_told.calls  false _ A64.out (Go.Proofs.YtfmfikodnpnblaaDoor.ClkLib.Vars.below HVARS.out (by repeat (first | (with_reducible first | exact HB.out | apply below_alloc | apply pw_below_drewN | apply below_drew1 | refine below_set ?_ (Aside0.out (by assumption))) | exact HB.out)))).mono ?_); rintro e w92 ⟨rfl, hb⟩; refine ⟨_, rfl, ?_⟩; have n0_ := Aside0.mk (below_step (by repeat (first | (with_reducible first | exact HB.out | apply below_alloc | apply pw_below_drewN | apply below_drew1) | exact HB.out)) hb); clear HB; have HB := n0_; clear n0_; (try clear hb); (try clear hb2); (try clear hk); (try clear hi)))
                      go_ret
                      exact ⟨by first | rfl | (simp only [show ∀ l : List UInt8, (l != []) = (!l.isEmpty) from fun l => by cases l <;> rfl]; rfl) | (simp [errW_none, errW_some] <;> rfl) | (simp [*, errW_none, errW_some] <;> rfl), by repeat (first | (with_reducible first | exact HB.out | apply below_alloc | apply pw_below_drewN | apply below_drew1) | exact HB.out)⟩

end Go.Proofs.YtfmfikodnpnblaaDoor.PClockKeeps

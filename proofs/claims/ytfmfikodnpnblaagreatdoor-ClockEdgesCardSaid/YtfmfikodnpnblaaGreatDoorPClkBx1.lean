-- Written by this repo's gprint.py over the kit's printer, out of the translation. Not trusted: Lean checks it.
import Derived.Test.YtfmfikodnpnblaaGreatDoorPClkBx0
namespace Go.Proofs.YtfmfikodnpnblaaGreatDoor.PClkB
open Go.RowKit Go.Proofs.YtfmfikodnpnblaaGreatDoorW.PrintWords Go.Proofs.YtfmfikodnpnblaaGreatDoorW.PrintLast Go.Proofs.YtfmfikodnpnblaaGreatDoorW.PrintMore
attribute [local go_sem] max2_int min2_int max_two min_two max_three min_three max_four min_four   -- for this text's walks alone
open Go.Proofs.YtfmfikodnpnblaaGreatDoor.PClk1
attribute [local go_sem] fop_run fint_run fofint_run
set_option linter.unusedVariables false
set_option linter.unusedSimpArgs false

-- function 24 (clock_days): by hand

/-! ### clock_long: function 23 -/
def clock_long.f (a0 : Int) (a1 : Int) : Option (Int) := if a1 = 12 then (some 31) else ((clock_days.f a0 (wrap64 (a1 + 1)) 1).bind fun t101 => ((clock_days.f a0 a1 1).bind fun t102 => (some (wrap64 (t101 - t102)))))
set_option maxHeartbeats 8000000 in
set_option maxRecDepth 100000 in
theorem clock_long.calls (a0 : Int) (a1 : Int) (r : Int) (w : World) (h : clock_long.f a0 a1 = some r) :
    Calls Tryz.prog 23 #[.int .i64 a0, .int .i64 a1] w fun e w' => e = .returned (.int .i64 r) ∧ Drawn0 w w' := by
  have H : (if a1 = 12 then (some 31) else ((clock_days.f a0 (wrap64 (a1 + 1)) 1).bind fun t101 => ((clock_days.f a0 a1 1).bind fun t102 => (some (wrap64 (t101 - t102)))))) = some r := h
  clear h
  by_cases c3 : a1 = 12
  · rw [if_pos c3] at H
    have c3b0 : (a1 == 12) = true := beq_iff_eq.mpr c3
    have c3b1 : (a1 != 12) = false := bne_eq_false_iff_eq.mpr c3
    clear c3
    obtain rfl := Option.some.inj H
    go_enter Tryz.func23, Tryz.ntmps23
    go_wp2
    go_ret
    exact ⟨by first | rfl | (simp only [show ∀ l : List UInt8, (l != []) = (!l.isEmpty) from fun l => by cases l <;> rfl]; rfl) | (simp; done) | (simp [*]; done), by repeat (first | exact Drawn0.refl _ | apply Drawn0.step)⟩
  · rw [if_neg c3] at H
    have c3b0 : (a1 == 12) = false := beq_eq_false_iff_ne.mpr c3
    have c3b1 : (a1 != 12) = true := bne_iff_ne.mpr c3
    replace H := Option.bind_eq_some_iff.mp H
    obtain ⟨t101, A40, H⟩ := H
    replace H : ((clock_days.f a0 a1 1).bind fun t102 => (some (wrap64 (t101 - t102)))) = some r := H
    have A4 := Aside0.mk A40
    clear A40
    replace H := Option.bind_eq_some_iff.mp H
    obtain ⟨t102, A50, H⟩ := H
    replace H : (some (wrap64 (t101 - t102))) = some r := H
    have A5 := Aside0.mk A50
    clear A50
    obtain rfl := Option.some.inj H
    go_enter Tryz.func23, Tryz.ntmps23
    go_wp2_with (first | ((with_reducible refine gate_callee (f := 24) rfl ?_); refine goesL_ (some 10) rfl rfl Tryz.func24 (by kernel_rfl) rfl #[.int .i64 a0, .int .i64 (wrap64 (a1 + 1)), .int .i64 1] rfl (by (try simp only [List.map_toArray, List.map_cons, List.map_nil]); first | done | rfl | (simp only [List.length_drop, List.length_take]; rfl)) ?_; (with_reducible refine (clock_days.calls a0 (wrap64 (a1 + 1)) 1 t101 _ A4.out).mono ?_); rintro e w' ⟨rfl, ⟨nd, rfl⟩⟩; refine ⟨_, rfl, ?_⟩) | ((with_reducible refine gate_callee (f := 24) rfl ?_); refine goesL_ (some 13) rfl rfl Tryz.func24 (by kernel_rfl) rfl #[.int .i64 a0, .int .i64 a1, .int .i64 1] rfl (by (try simp only [List.map_toArray, List.map_cons, List.map_nil]); first | done | rfl | (simp only [List.length_drop, List.length_take]; rfl)) ?_; (with_reducible refine (clock_days.calls a0 a1 1 t102 _ A5.out).mono ?_); rintro e w' ⟨rfl, ⟨nd, rfl⟩⟩; refine ⟨_, rfl, ?_⟩))
    go_ret
    exact ⟨by first | rfl | (simp only [show ∀ l : List UInt8, (l != []) = (!l.isEmpty) from fun l => by cases l <;> rfl]; rfl) | (simp; done) | (simp [*]; done), by repeat (first | exact Drawn0.refl _ | apply Drawn0.step)⟩

end Go.Proofs.YtfmfikodnpnblaaGreatDoor.PClkB

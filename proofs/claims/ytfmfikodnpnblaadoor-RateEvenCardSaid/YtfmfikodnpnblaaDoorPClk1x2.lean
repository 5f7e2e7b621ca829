-- Written by this repo's gprint.py over the kit's printer, out of the translation. Not trusted: Lean checks it.
import Derived.Test.YtfmfikodnpnblaaDoorPClk1x0
import Derived.Test.YtfmfikodnpnblaaDoorPClk1x1
import Derived.Test.YtfmfikodnpnblaaDoorClkAtoiClk1
namespace Go.Proofs.YtfmfikodnpnblaaDoor.PClk1
open Go.RowKit Go.Proofs.YtfmfikodnpnblaaDoorW.PrintWords Go.Proofs.YtfmfikodnpnblaaDoorW.PrintLast Go.Proofs.YtfmfikodnpnblaaDoorW.PrintMore
attribute [local go_sem] max2_int min2_int max_two min_two max_three min_three max_four min_four   -- for this text's walks alone
open Go.Proofs.YtfmfikodnpnblaaDoor.ClkAtoiClk1 Go.Proofs.YtfmfikodnpnblaaDoor.ClkDate Go.Proofs.YtfmfikodnpnblaaDoor.ClkLib Go.Proofs.YtfmfikodnpnblaaDoor.ClkParts
attribute [local go_sem] fop_run fint_run fofint_run
set_option linter.unusedVariables false
set_option linter.unusedSimpArgs false

/-! ### clock_Text: function 37 -/
def clock_Text.j0 : Nat → Int → ByteArray → Option (ByteArray)
  | 0, _, _ => none
  | k + 1, x3, x4 => (strconv_Itoa.f (wrap64 (Int.tdiv x3 512))).bind fun t118 => (if x4.size + t118.size ≤ 9223372036854775807 then (if (Int.tmod x3 512) = 0 then (some (x4 ++ t118)) else ((strconv_Itoa.f (wrap64 (1000000000 + (wrap64 ((Int.tmod x3 512) * 1953125))))).bind fun t119 => (if 1 ≤ (t119.size : Int) then (if (x4 ++ t118).size + 1 ≤ 9223372036854775807 then ((strings_TrimRight.f (t119.extract 1 t119.size) (⟨#[48]⟩ : ByteArray)).bind fun t120 => (if ((x4 ++ t118) ++ (⟨#[46]⟩ : ByteArray)).size + t120.size ≤ 9223372036854775807 then (some (((x4 ++ t118) ++ (⟨#[46]⟩ : ByteArray)) ++ t120)) else (none))) else (none)) else (none)))) else (none))
def clock_Text.f (k : Nat) (a0 : Nat) : Option (ByteArray) := (clock_Fine.f a0).bind fun t117 => (if (fvalid .mul t117 4647714815446351872) = true then (if (fintOk (fop .mul t117 4647714815446351872)) = true then (if (fint (fop .mul t117 4647714815446351872)) < 0 then (clock_Text.j0 k (wrap64 (-(fint (fop .mul t117 4647714815446351872)))) (⟨#[45]⟩ : ByteArray)) else (clock_Text.j0 k (fint (fop .mul t117 4647714815446351872)) (⟨#[]⟩ : ByteArray))) else (none)) else (none))
theorem clock_Text.mono_l : ∀ k, (∀ y0 y1, LeO (clock_Text.j0 k y0 y1) (clock_Text.j0 (k + 1) y0 y1))
  | 0 => fun _ _ r h => by simp [clock_Text.j0] at h
  | k + 1 => by
    have ih0 := clock_Text.mono_l k
    · intro y0 y1
      unfold clock_Text.j0
      repeat' first
      | (with_reducible exact ih0 _ _)
      | (with_reducible exact LeO.refl _)
      | (with_reducible exact LeO.none _)
      | (with_reducible refine LeO.ite ?_ ?_)
      | (with_reducible refine LeO.bind ?_ (fun _ => ?_))
      | exact ih0 _ _
      | exact LeO.none _
      | refine LeO.ite ?_ ?_
      | refine LeO.bind ?_ (fun _ => ?_)
theorem clock_Text.mono : ∀ a0 k, LeO (clock_Text.f k a0) (clock_Text.f (k + 1) a0) := by
  intro a0 k
  have ih0 := clock_Text.mono_l k
  unfold clock_Text.f
  repeat' first
      | (with_reducible exact ih0 _ _)
      | (with_reducible exact LeO.refl _)
      | (with_reducible exact LeO.none _)
      | (with_reducible refine LeO.ite ?_ ?_)
      | (with_reducible refine LeO.bind ?_ (fun _ => ?_))
      | exact ih0 _ _
      | exact LeO.none _
      | refine LeO.ite ?_ ?_
      | refine LeO.bind ?_ (fun _ => ?_)
set_option maxHeartbeats 8000000 in
set_option maxRecDepth 100000 in
theorem clock_Text.calls (k : Nat) (a0 : Nat) (r : ByteArray) (w : World) (h : clock_Text.f k a0 = some r) (hv : Go.Proofs.YtfmfikodnpnblaaDoor.ClkLib.Vars w) :
    Calls Tryd.prog 37 #[.float .f64 a0] w fun e w' => e = .returned (.string r) ∧ Below w.heap.size w w' := by
  have HVARS := Aside0.mk hv
  have HB := Aside0.mk (Below.refl w.heap.size w)
  have H : ((clock_Fine.f a0).bind fun t117 => (if (fvalid .mul t117 4647714815446351872) = true then (if (fintOk (fop .mul t117 4647714815446351872)) = true then (if (fint (fop .mul t117 4647714815446351872)) < 0 then (clock_Text.j0 k (wrap64 (-(fint (fop .mul t117 4647714815446351872)))) (⟨#[45]⟩ : ByteArray)) else (clock_Text.j0 k (fint (fop .mul t117 4647714815446351872)) (⟨#[]⟩ : ByteArray))) else (none)) else (none))) = some r := h
  clear h
  replace H := Option.bind_eq_some_iff.mp H
  obtain ⟨t117, A20, H⟩ := H
  replace H : (if (fvalid .mul t117 4647714815446351872) = true then (if (fintOk (fop .mul t117 4647714815446351872)) = true then (if (fint (fop .mul t117 4647714815446351872)) < 0 then (clock_Text.j0 k (wrap64 (-(fint (fop .mul t117 4647714815446351872)))) (⟨#[45]⟩ : ByteArray)) else (clock_Text.j0 k (fint (fop .mul t117 4647714815446351872)) (⟨#[]⟩ : ByteArray))) else (none)) else (none)) = some r := H
  have A2 := Aside0.mk A20
  clear A20
  by_cases c3 : (fvalid .mul t117 4647714815446351872) = true
  · rw [if_pos c3] at H
    have c3b0 := eq_true c3
    have c3b1 : decide ((fvalid .mul t117 4647714815446351872) = true) = true := decide_eq_true c3
    clear c3
    by_cases c4 : (fintOk (fop .mul t117 4647714815446351872)) = true
    · rw [if_pos c4] at H
      have c4b0 := eq_true c4
      have c4b1 : decide ((fintOk (fop .mul t117 4647714815446351872)) = true) = true := decide_eq_true c4
      clear c4
      have HC5 := Aside0.mk H
      clear H
      go_enter Tryd.func37, Tryd.ntmps37
      go_upto_if 12 with (first | ((with_reducible refine gate_callee (f := 35) rfl ?_); refine goesL_ (some 8) rfl rfl Tryd.func35 (by kernel_rfl) rfl #[.float .f64 a0] rfl (by (try simp only [List.map_toArray, List.map_cons, List.map_nil]); first | done | rfl | (simp only [List.length_drop, List.length_take]; rfl)) ?_; (with_reducible refine (clock_Fine.calls a0 t117 _ A2.out).mono ?_); rintro e w6 ⟨rfl, hb⟩; refine ⟨_, rfl, ?_⟩; have n0_ := Aside0.mk (below_step (by repeat (first | (with_reducible first | exact HB.out | apply below_alloc | apply pw_below_drewN | apply below_drew1) | exact HB.out)) hb); clear HB; have HB := n0_; clear n0_; (try clear hb); (try clear hb2); (try clear hk); (try clear hi)))
      (try simp only [Act.put, List.setIfInBounds_toArray, List.set_cons_zero, List.set_cons_succ])
      go_cut [3, 4] (fun v3 v4 wc => ∃ (kq : Nat) (x3_4 : Int) (x4_4 : ByteArray), v3 = .int .i64 x3_4 ∧ v4 = .string x4_4 ∧ Aside0 (clock_Text.j0 kq x3_4 x4_4 = some r) ∧ Aside0 (kq ≤ k) ∧ Aside0 (Below w.heap.size w wc))
      case first =>
        have H := HC5.out
        clear HC5
        by_cases c7 : (fint (fop .mul t117 4647714815446351872)) < 0
        · rw [if_pos c7] at H
          have c7b0 : decide ((fint (fop .mul t117 4647714815446351872)) < 0) = true := decide_eq_true c7
          clear c7
          (first | rw [c7b0] | (simp only [i64_w, i32_w]; rw [c7b0]) | rw [c7b1] | skip)
          have H' := Aside0.mk H
          clear H
          go_wp2
          go_meet
          case rel => exact ⟨_, (wrap64 (-(fint (fop .mul t117 4647714815446351872)))), ((⟨#[45]⟩ : ByteArray)), (by first | rfl | (simp; done) | (simp [*]; done)), (by first | rfl | (simp; done) | (simp [*]; done)), H', ⟨by first | omega | exact Nat.le_refl _⟩, ⟨by repeat (first | (with_reducible first | exact HB.out | apply below_alloc | apply pw_below_drewN | apply below_drew1) | exact HB.out)⟩⟩
        · rw [if_neg c7] at H
          have c7b0 : decide ((fint (fop .mul t117 4647714815446351872)) < 0) = false := decide_eq_false c7
          clear c7
          (first | rw [c7b0] | (simp only [i64_w, i32_w]; rw [c7b0]) | rw [c7b1] | skip)
          have H' := Aside0.mk H
          clear H
          go_wp2
          go_meet
          case rel => exact ⟨_, (fint (fop .mul t117 4647714815446351872)), ((⟨#[]⟩ : ByteArray)), (by first | rfl | (simp; done) | (simp [*]; done)), (by first | rfl | (simp; done) | (simp [*]; done)), H', ⟨by first | omega | exact Nat.le_refl _⟩, ⟨by repeat (first | (with_reducible first | exact HB.out | apply below_alloc | apply pw_below_drewN | apply below_drew1) | exact HB.out)⟩⟩
      case rest =>
        clear HC5
        try clear p2
        try clear c3
        try clear c3b0
        try clear c3b1
        try clear c4
        try clear c4b0
        try clear c4b1
        try clear p6
        try clear c7
        try clear c7b0
        obtain ⟨kq, x3_4, x4_4, rfl, rfl, HA, HJ4, HB⟩ := hcut
        cases kq with
        | zero => exact absurd HA.out (by simp [clock_Text.j0])
        | succ kj4 =>
          have H := HA.out
          clear HA
          simp only [clock_Text.j0] at H
          replace H := Option.bind_eq_some_iff.mp H
          obtain ⟨t118, A80, H⟩ := H
          replace H : (if x4_4.size + t118.size ≤ 9223372036854775807 then (if (Int.tmod x3_4 512) = 0 then (some (x4_4 ++ t118)) else ((strconv_Itoa.f (wrap64 (1000000000 + (wrap64 ((Int.tmod x3_4 512) * 1953125))))).bind fun t119 => (if 1 ≤ (t119.size : Int) then (if (x4_4 ++ t118).size + 1 ≤ 9223372036854775807 then ((strings_TrimRight.f (t119.extract 1 t119.size) (⟨#[48]⟩ : ByteArray)).bind fun t120 => (if ((x4_4 ++ t118) ++ (⟨#[46]⟩ : ByteArray)).size + t120.size ≤ 9223372036854775807 then (some (((x4_4 ++ t118) ++ (⟨#[46]⟩ : ByteArray)) ++ t120)) else (none))) else (none)) else (none)))) else (none)) = some r := H
          have A8 := Aside0.mk A80
          clear A80
          by_cases c9 : x4_4.size + t118.size ≤ 9223372036854775807
          · rw [if_pos c9] at H
            have c9b0 := eq_true c9
            have c9b1 : decide (x4_4.size + t118.size ≤ 9223372036854775807) = true := decide_eq_true c9
            try have c9b2 : (9223372036854775807 < x4_4.size + t118.size) = False := eq_false (Nat.not_lt.2 c9)
            by_cases c10 : (Int.tmod x3_4 512) = 0
            · rw [if_pos c10] at H
              have c10b0 : ((Int.tmod x3_4 512) == 0) = true := beq_iff_eq.mpr c10
              have c10b1 : ((Int.tmod x3_4 512) != 0) = false := bne_eq_false_iff_eq.mpr c10
              clear c10
              obtain rfl := Option.some.inj H
              go_wp2_with (first | ((with_reducible refine gate_callee (f := 71) rfl ?_); refine goesL_ (some 18) rfl rfl Tryd.func71 (by kernel_rfl) rfl #[.int .i64 (wrap64 (Int.tdiv x3_4 512))] rfl (by (try simp only [List.map_toArray, List.map_cons, List.map_nil]); first | done | rfl | (simp only [List.length_drop, List.length_take]; rfl)) ?_; (with_reducible refine (strconv_Itoa.calls (wrap64 (Int.tdiv x3_4 512)) t118 _ A8.out (Go.Proofs.YtfmfikodnpnblaaDoor.ClkLib.Vars.below HVARS.out (by repeat (first | (with_reducible first | exact HB.out | apply below_alloc | apply pw_below_drewN | apply below_drew1 | refine below_set ?_ (Aside0.out (by assumption))) | exact HB.out)))).mono ?_); rintro e w11 ⟨rfl, hb⟩; refine ⟨_, rfl, ?_⟩; have n0_ := Aside0.mk (below_step (by repeat (first | (with_reducible first | exact HB.out | apply below_alloc | apply pw_below_drewN | apply below_drew1) | exact HB.out)) hb); clear HB; have HB := n0_; clear n0_; (try clear hb); (try clear hb2); (try clear hk); (try clear hi)))
              go_ret
              exact ⟨by first | rfl | (simp only [show ∀ l : List UInt8, (l != []) = (!l.isEmpty) from fun l => by cases l <;> rfl]; rfl) | (simp [errW_none, errW_some] <;> rfl) | (simp [*, errW_none, errW_some] <;> rfl), by repeat (first | (with_reducible first | exact HB.out | apply below_alloc | apply pw_below_drewN | apply below_drew1) | exact HB.out)⟩
            · rw [if_neg c10] at H
              have c10b0 : ((Int.tmod x3_4 512) == 0) = false := beq_eq_false_iff_ne.mpr c10
              have c10b1 : ((Int.tmod x3_4 512) != 0) = true := bne_iff_ne.mpr c10
              replace H := Option.bind_eq_some_iff.mp H
              obtain ⟨t119, A120, H⟩ := H
              replace H : (if 1 ≤ (t119.size : Int) then (if (x4_4 ++ t118).size + 1 ≤ 9223372036854775807 then ((strings_TrimRight.f (t119.extract 1 t119.size) (⟨#[48]⟩ : ByteArray)).bind fun t120 => (if ((x4_4 ++ t118) ++ (⟨#[46]⟩ : ByteArray)).size + t120.size ≤ 9223372036854775807 then (some (((x4_4 ++ t118) ++ (⟨#[46]⟩ : ByteArray)) ++ t120)) else (none))) else (none)) else (none)) = some r := H
              have A12 := Aside0.mk A120
              clear A120
              by_cases c13 : 1 ≤ (t119.size : Int)
              · rw [if_pos c13] at H
                have c13b0 := eq_true c13
                have c13b1 : decide (1 ≤ (t119.size : Int)) = true := decide_eq_true c13
                clear c13
                by_cases c14 : (x4_4 ++ t118).size + 1 ≤ 9223372036854775807
                · rw [if_pos c14] at H
                  have c14b0 := eq_true c14
                  have c14b1 : decide ((x4_4 ++ t118).size + 1 ≤ 9223372036854775807) = true := decide_eq_true c14
                  (try (have c14b1s := c14b1; simp only [ByteArray.size_append] at c14b1s))
                  (try (have c14b1t := c14b1; simp only [ByteArray.size_append, Int.natCast_add, Int.cast_ofNat_Int] at c14b1t))
                  try have c14b2 : (9223372036854775807 < (x4_4 ++ t118).size + 1) = False := eq_false (Nat.not_lt.2 c14)
                  (try (have c14b2s := c14b2; simp only [ByteArray.size_append] at c14b2s))
                  (try (have c14b2t := c14b2; simp only [ByteArray.size_append, Int.natCast_add, Int.cast_ofNat_Int] at c14b2t))
                  replace H := Option.bind_eq_some_iff.mp H
                  obtain ⟨t120, A150, H⟩ := H
                  replace H : (if ((x4_4 ++ t118) ++ (⟨#[46]⟩ : ByteArray)).size + t120.size ≤ 9223372036854775807 then (some (((x4_4 ++ t118) ++ (⟨#[46]⟩ : ByteArray)) ++ t120)) else (none)) = some r := H
                  have A15 := Aside0.mk A150
                  clear A150
                  by_cases c16 : ((x4_4 ++ t118) ++ (⟨#[46]⟩ : ByteArray)).size + t120.size ≤ 9223372036854775807
                  · rw [if_pos c16] at H
                    have c16b0 := eq_true c16
                    have c16b1 : decide (((x4_4 ++ t118) ++ (⟨#[46]⟩ : ByteArray)).size + t120.size ≤ 9223372036854775807) = true := decide_eq_true c16
                    (try (have c16b1s := c16b1; simp only [ByteArray.size_append, show (ByteArray.mk #[46]).size = 1 from rfl] at c16b1s))
                    (try (have c16b1t := c16b1; simp only [ByteArray.size_append, show (ByteArray.mk #[46]).size = 1 from rfl, Int.natCast_add, Int.cast_ofNat_Int] at c16b1t))
                    try have c16b2 : (9223372036854775807 < ((x4_4 ++ t118) ++ (⟨#[46]⟩ : ByteArray)).size + t120.size) = False := eq_false (Nat.not_lt.2 c16)
                    (try (have c16b2s := c16b2; simp only [ByteArray.size_append, show (ByteArray.mk #[46]).size = 1 from rfl] at c16b2s))
                    (try (have c16b2t := c16b2; simp only [ByteArray.size_append, show (ByteArray.mk #[46]).size = 1 from rfl, Int.natCast_add, Int.cast_ofNat_Int] at c16b2t))
                    obtain rfl := Option.some.inj H
                    go_wp2_with (first | ((with_reducible refine gate_callee (f := 71) rfl ?_); refine goesL_ (some 18) rfl rfl Tryd.func71 (by kernel_rfl) rfl #[.int .i64 (wrap64 (Int.tdiv x3_4 512))] rfl (by (try simp only [List.map_toArray, List.map_cons, List.map_nil]); first | done | rfl | (simp only [List.length_drop, List.length_take]; rfl)) ?_; (with_reducible refine (strconv_Itoa.calls (wrap64 (Int.tdiv x3_4 512)) t118 _ A8.out (Go.Proofs.YtfmfikodnpnblaaDoor.ClkLib.Vars.below HVARS.out (by repeat (first | (with_reducible first | exact HB.out | apply below_alloc | apply pw_below_drewN | apply below_drew1 | refine below_set ?_ (Aside0.out (by assumption))) | exact HB.out)))).mono ?_); rintro e w17 ⟨rfl, hb⟩; refine ⟨_, rfl, ?_⟩; have n0_ := Aside0.mk (below_step (by repeat (first | (with_reducible first | exact HB.out | apply below_alloc | apply pw_below_drewN | apply below_drew1) | exact HB.out)) hb); clear HB; have HB := n0_; clear n0_; (try clear hb); (try clear hb2); (try clear hk); (try clear hi)) | ((with_reducible refine gate_callee (f := 71) rfl ?_); refine goesL_ (some 28) rfl rfl Tryd.func71 (by kernel_rfl) rfl #[.int .i64 (wrap64 (1000000000 + (wrap64 ((Int.tmod x3_4 512) * 1953125))))] rfl (by (try simp only [List.map_toArray, List.map_cons, List.map_nil]); first | done | rfl | (simp only [List.length_drop, List.length_take]; rfl)) ?_; (with_reducible refine (strconv_Itoa.calls (wrap64 (1000000000 + (wrap64 ((Int.tmod x3_4 512) * 1953125)))) t119 _ A12.out (Go.Proofs.YtfmfikodnpnblaaDoor.ClkLib.Vars.below HVARS.out (by repeat (first | (with_reducible first | exact HB.out | apply below_alloc | apply pw_below_drewN | apply below_drew1 | refine below_set ?_ (Aside0.out (by assumption))) | exact HB.out)))).mono ?_); rintro e w18 ⟨rfl, hb⟩; refine ⟨_, rfl, ?_⟩; have n0_ := Aside0.mk (below_step (by repeat (first | (with_reducible first | exact HB.out | apply below_alloc | apply pw_below_drewN | apply below_drew1) | exact HB.out)) hb); clear HB; have HB := n0_; clear n0_; (try clear hb); (try clear hb2); (try clear hk); (try clear hi)) | ((with_reducible refine gate_callee (f := 77) rfl ?_); refine goesL_ (some 33) rfl rfl Tryd.func77 (by kernel_rfl) rfl #[.string (t119.extract 1 t119.size), .string (⟨#[48]⟩ : ByteArray)] rfl (by (try simp only [List.map_toArray, List.map_cons, List.map_nil]); first | done | rfl | (simp only [List.length_drop, List.length_take]; rfl)) ?_; (with_reducible refine (strings_TrimRight.calls (t119.extract 1 t119.size) (⟨#[48]⟩ : ByteArray) t120 _ A15.out).mono ?_); rintro e w19 ⟨rfl, hb⟩; refine ⟨_, rfl, ?_⟩; have n0_ := Aside0.mk (below_step (by repeat (first | (with_reducible first | exact HB.out | apply below_alloc | apply pw_below_drewN | apply below_drew1) | exact HB.out)) hb); clear HB; have HB := n0_; clear n0_; (try clear hb); (try clear hb2); (try clear hk); (try clear hi)))
                    go_ret
                    exact ⟨by first | rfl | (simp only [show ∀ l : List UInt8, (l != []) = (!l.isEmpty) from fun l => by cases l <;> rfl]; rfl) | (simp [errW_none, errW_some] <;> rfl) | (simp [*, errW_none, errW_some] <;> rfl), by repeat (first | (with_reducible first | exact HB.out | apply below_alloc | apply pw_below_drewN | apply below_drew1) | exact HB.out)⟩
                  · rw [if_neg c16] at H
                    exact absurd H (by simp)
                · rw [if_neg c14] at H
                  exact absurd H (by simp)
              · rw [if_neg c13] at H
                exact absurd H (by simp)
          · rw [if_neg c9] at H
            exact absurd H (by simp)
    · rw [if_neg c4] at H
      exact absurd H (by simp)
  · rw [if_neg c3] at H
    exact absurd H (by simp)

/-! ### clock_Unix: function 39 -/
def clock_Unix.j0 : Nat → Nat → Bool → Option (Int)
  | 0, _, _ => none
  | k + 1, x0, x3 => if x3 = true then (some 0) else (if (FloatKind.f64.format.order x0 4751297606873776128 == some .gt || FloatKind.f64.format.order x0 4751297606873776128 == some .eq) = true then (some 4294967295) else ((math_Floor.f x0).bind fun t121 => (if (fintOk t121) = true then (some (fint t121)) else (none))))
def clock_Unix.f (k : Nat) (a0 : Nat) : Option (Int) := if (FloatKind.f64.format.order a0 a0 != some .eq) = true then (clock_Unix.j0 k a0 true) else (clock_Unix.j0 k a0 (FloatKind.f64.format.order a0 0 == some .lt))
theorem clock_Unix.mono_l : ∀ k, (∀ y0 y1, LeO (clock_Unix.j0 k y0 y1) (clock_Unix.j0 (k + 1) y0 y1))
  | 0 => fun _ _ r h => by simp [clock_Unix.j0] at h
  | k + 1 => by
    have ih0 := clock_Unix.mono_l k
    · intro y0 y1
      unfold clock_Unix.j0
      repeat' first
      | (with_reducible exact ih0 _ _)
      | (with_reducible exact LeO.refl _)
      | (with_reducible exact LeO.none _)
      | (with_reducible refine LeO.ite ?_ ?_)
      | (with_reducible refine LeO.bind ?_ (fun _ => ?_))
      | exact ih0 _ _
      | exact LeO.none _
      | refine LeO.ite ?_ ?_
      | refine LeO.bind ?_ (fun _ => ?_)
theorem clock_Unix.mono : ∀ a0 k, LeO (clock_Unix.f k a0) (clock_Unix.f (k + 1) a0) := by
  intro a0 k
  have ih0 := clock_Unix.mono_l k
  unfold clock_Unix.f
  repeat' first
      | (with_reducible exact ih0 _ _)
      | (with_reducible exact LeO.refl _)
      | (with_reducible exact LeO.none _)
      | (with_reducible refine LeO.ite ?_ ?_)
      | (with_reducible refine LeO.bind ?_ (fun _ => ?_))
      | exact ih0 _ _
      | exact LeO.none _
      | refine LeO.ite ?_ ?_
      | refine LeO.bind ?_ (fun _ => ?_)
set_option maxHeartbeats 8000000 in
set_option maxRecDepth 100000 in
theorem clock_Unix.calls (k : Nat) (a0 : Nat) (r : Int) (w : World) (h : clock_Unix.f k a0 = some r) :
    Calls Tryd.prog 39 #[.float .f64 a0] w fun e w' => e = .returned (.int .i64 r) ∧ Below w.heap.size w w' := by
  have HB := Aside0.mk (Below.refl w.heap.size w)
  have H : (if (FloatKind.f64.format.order a0 a0 != some .eq) = true then (clock_Unix.j0 k a0 true) else (clock_Unix.j0 k a0 (FloatKind.f64.format.order a0 0 == some .lt))) = some r := h
  clear h
  have HC2 := Aside0.mk H
  clear H
  go_enter Tryd.func39, Tryd.ntmps39
  go_upto_region 1 with (fail)
  go_cut [3] (fun v3 wc => ∃ (kq : Nat) (x3_1 : Bool), v3 = .bool x3_1 ∧ Aside0 (clock_Unix.j0 kq a0 x3_1 = some r) ∧ Aside0 (kq ≤ k) ∧ Aside0 (Below w.heap.size w wc))
  case first =>
    have H := HC2.out
    clear HC2
    by_cases c3 : (FloatKind.f64.format.order a0 a0 != some .eq) = true
    · rw [if_pos c3] at H
      have c3b0 : (FloatKind.f64.format.order a0 a0 != some .eq) = true := c3
      (try (have c3b1 : decide (FloatKind.f64.format.order a0 a0 = some .eq) = false := by simpa using c3))
      (try (have c3b2 : (FloatKind.f64.format.order a0 a0 == some .eq) = false := by simpa using c3))
      (try (have c3b3 : ¬ (FloatKind.f64.format.order a0 a0 = some .eq) := by simpa using c3))
      clear c3
      (first | rw [c3b0] | (simp only [i64_w, i32_w]; rw [c3b0]) | rw [c3b1] | skip)
      have H' := Aside0.mk H
      clear H
      go_wp2
      go_meet
      case rel => exact ⟨_, (true), (by first | rfl | (simp; done) | (simp [*]; done)), H', ⟨by first | omega | exact Nat.le_refl _⟩, ⟨by repeat (first | (with_reducible first | exact HB.out | apply below_alloc | apply pw_below_drewN | apply below_drew1) | exact HB.out)⟩⟩
    · rw [if_neg c3] at H
      have c3b0 : (FloatKind.f64.format.order a0 a0 != some .eq) = false := by simpa using c3
      (try (have c3b1 : decide (FloatKind.f64.format.order a0 a0 = some .eq) = true := by simpa using c3))
      (try (have c3b2 : (FloatKind.f64.format.order a0 a0 == some .eq) = true := by simpa using c3))
      clear c3
      (first | rw [c3b0] | (simp only [i64_w, i32_w]; rw [c3b0]) | rw [c3b1] | skip)
      have H' := Aside0.mk H
      clear H
      go_wp2
      go_meet
      case rel => exact ⟨_, ((FloatKind.f64.format.order a0 0 == some .lt)), (by first | rfl | (simp; done) | (simp [*]; done)), H', ⟨by first | omega | exact Nat.le_refl _⟩, ⟨by repeat (first | (with_reducible first | exact HB.out | apply below_alloc | apply pw_below_drewN | apply below_drew1) | exact HB.out)⟩⟩
  case rest =>
    clear HC2
    try clear p2
    try clear c3
    try clear c3b0
    try clear c3b1
    try clear c3b2
    obtain ⟨kq, x3_1, rfl, HA, HJ1, HB⟩ := hcut
    cases kq with
    | zero => exact absurd HA.out (by simp [clock_Unix.j0])
    | succ kj1 =>
      have H := HA.out
      clear HA
      simp only [clock_Unix.j0] at H
      by_cases c4 : x3_1 = true
      · subst c4
        have H1 : (some 0) = some r := by rw [if_pos rfl] at H; exact H
        clear H
        have H := H1
        clear H1
        obtain rfl := Option.some.inj H
        go_wp2
        go_ret
        exact ⟨by first | rfl | (simp only [show ∀ l : List UInt8, (l != []) = (!l.isEmpty) from fun l => by cases l <;> rfl]; rfl) | (simp [errW_none, errW_some] <;> rfl) | (simp [*, errW_none, errW_some] <;> rfl), by repeat (first | (with_reducible first | exact HB.out | apply below_alloc | apply pw_below_drewN | apply below_drew1) | exact HB.out)⟩
      · replace c4 := Bool.eq_false_iff.mpr c4
        subst c4
        have H1 : (if (FloatKind.f64.format.order a0 4751297606873776128 == some .gt || FloatKind.f64.format.order a0 4751297606873776128 == some .eq) = true then (some 4294967295) else ((math_Floor.f a0).bind fun t121 => (if (fintOk t121) = true then (some (fint t121)) else (none)))) = some r := by rw [if_neg (show ¬ (false = true) by decide)] at H; exact H
        clear H
        have H := H1
        clear H1
        by_cases c5 : (FloatKind.f64.format.order a0 4751297606873776128 == some .gt || FloatKind.f64.format.order a0 4751297606873776128 == some .eq) = true
        · rw [if_pos c5] at H
          have c5b0 : (FloatKind.f64.format.order a0 4751297606873776128 == some .gt || FloatKind.f64.format.order a0 4751297606873776128 == some .eq) = true := c5
          have c5b7 : (!(FloatKind.f64.format.order a0 4751297606873776128 == some .gt) && !(FloatKind.f64.format.order a0 4751297606873776128 == some .eq)) = false := by rw [← Bool.not_or, c5b0]; rfl
          (try (have c5b1 : decide (FloatKind.f64.format.order a0 4751297606873776128 = some .gt || FloatKind.f64.format.order a0 4751297606873776128 == some .eq) = true := by simpa using c5))
          (try (have c5b2 : (FloatKind.f64.format.order a0 4751297606873776128 == some .gt || FloatKind.f64.format.order a0 4751297606873776128 == some .eq) = true := by simpa using c5))
          clear c5
          obtain rfl := Option.some.inj H
          go_wp2
          go_ret
          exact ⟨by first | rfl | (simp only [show ∀ l : List UInt8, (l != []) = (!l.isEmpty) from fun l => by cases l <;> rfl]; rfl) | (simp [errW_none, errW_some] <;> rfl) | (simp [*, errW_none, errW_some] <;> rfl), by repeat (first | (with_reducible first | exact HB.out | apply below_alloc | apply pw_below_drewN | apply below_drew1) | exact HB.out)⟩
        · rw [if_neg c5] at H
          have c5b0 : (FloatKind.f64.format.order a0 4751297606873776128 == some .gt || FloatKind.f64.format.order a0 4751297606873776128 == some .eq) = false := by simpa using c5
          have c5b7 : (!(FloatKind.f64.format.order a0 4751297606873776128 == some .gt) && !(FloatKind.f64.format.order a0 4751297606873776128 == some .eq)) = true := by rw [← Bool.not_or, c5b0]; rfl
          (try (have c5b1 : decide (FloatKind.f64.format.order a0 4751297606873776128 = some .gt || FloatKind.f64.format.order a0 4751297606873776128 == some .eq) = false := by simpa using c5))
          (try (have c5b2 : (FloatKind.f64.format.order a0 4751297606873776128 == some .gt || FloatKind.f64.format.order a0 4751297606873776128 == some .eq) = false := by simpa using c5))
          (try (have c5b3 : ¬ (FloatKind.f64.format.order a0 4751297606873776128 = some .gt || FloatKind.f64.format.order a0 4751297606873776128 == some .eq) := by simpa using c5))
          clear c5
          replace H := Option.bind_eq_some_iff.mp H
          obtain ⟨t121, A60, H⟩ := H
          replace H : (if (fintOk t121) = true then (some (fint t121)) else (none)) = some r := H
          have A6 := Aside0.mk A60
          clear A60
          by_cases c7 : (fintOk t121) = true
          · rw [if_pos c7] at H
            have c7b0 := eq_true c7
            have c7b1 : decide ((fintOk t121) = true) = true := decide_eq_true c7
            clear c7
            obtain rfl := Option.some.inj H
            go_wp2_with (first | ((with_reducible refine gate_callee (f := 70) rfl ?_); refine goesL_ (some 15) rfl rfl Tryd.func70 (by kernel_rfl) rfl #[.float .f64 a0] rfl (by (try simp only [List.map_toArray, List.map_cons, List.map_nil]); first | done | rfl | (simp only [List.length_drop, List.length_take]; rfl)) ?_; (with_reducible refine (math_Floor.calls a0 t121 _ A6.out).mono ?_); rintro e w8 ⟨rfl, hb⟩; refine ⟨_, rfl, ?_⟩; have n0_ := Aside0.mk (below_step (by repeat (first | (with_reducible first | exact HB.out | apply below_alloc | apply pw_below_drewN | apply below_drew1) | exact HB.out)) hb); clear HB; have HB := n0_; clear n0_; (try clear hb); (try clear hb2); (try clear hk); (try clear hi)))
            go_ret
            exact ⟨by first | rfl | (simp only [show ∀ l : List UInt8, (l != []) = (!l.isEmpty) from fun l => by cases l <;> rfl]; rfl) | (simp [errW_none, errW_some] <;> rfl) | (simp [*, errW_none, errW_some] <;> rfl), by repeat (first | (with_reducible first | exact HB.out | apply below_alloc | apply pw_below_drewN | apply below_drew1) | exact HB.out)⟩
          · rw [if_neg c7] at H
            exact absurd H (by simp)

-- function 45 (clock_Date): by hand

/-! ### clock_Dos: function 40 -/
def clock_Dos.f (k : Nat) (a0 : Nat) : Option (Int) := if (FloatKind.f64.format.order a0 a0 != some .eq) = true then (some 0) else (if (FloatKind.f64.format.order a0 4734073370679705600 == some .lt) = true then ((clock_Date.f k 315532800).bind fun bt122 => (some (Go.bits .or .i64 (Go.bits .or .i64 (Go.bits .or .i64 (wrap64 ((Go.bits .or .i64 (Go.bits .or .i64 (wrap64 ((wrap64 (bt122.1 - 1980)) * 512)) (wrap64 (bt122.2.1 * 32))) bt122.2.2.1) * 65536)) (wrap64 (bt122.2.2.2.1 * 2048))) (wrap64 (bt122.2.2.2.2.1 * 32))) (wrap64 (Int.tdiv bt122.2.2.2.2.2 2))))) else (if (FloatKind.f64.format.order a0 4751360366145961984 == some .gt || FloatKind.f64.format.order a0 4751360366145961984 == some .eq) = true then ((clock_Date.f k 4354819198).bind fun bt129 => (some (Go.bits .or .i64 (Go.bits .or .i64 (Go.bits .or .i64 (wrap64 ((Go.bits .or .i64 (Go.bits .or .i64 (wrap64 ((wrap64 (bt129.1 - 1980)) * 512)) (wrap64 (bt129.2.1 * 32))) bt129.2.2.1) * 65536)) (wrap64 (bt129.2.2.2.1 * 2048))) (wrap64 (bt129.2.2.2.2.1 * 32))) (wrap64 (Int.tdiv bt129.2.2.2.2.2 2))))) else ((math_Floor.f a0).bind fun t136 => (if (fintOk t136) = true then ((clock_Date.f k (fint t136)).bind fun bt137 => (some (Go.bits .or .i64 (Go.bits .or .i64 (Go.bits .or .i64 (wrap64 ((Go.bits .or .i64 (Go.bits .or .i64 (wrap64 ((wrap64 (bt137.1 - 1980)) * 512)) (wrap64 (bt137.2.1 * 32))) bt137.2.2.1) * 65536)) (wrap64 (bt137.2.2.2.1 * 2048))) (wrap64 (bt137.2.2.2.2.1 * 32))) (wrap64 (Int.tdiv bt137.2.2.2.2.2 2))))) else (none)))))
theorem clock_Dos.mono : ∀ a0 k, LeO (clock_Dos.f k a0) (clock_Dos.f (k + 1) a0) := by
  intro a0 k
  unfold clock_Dos.f
  repeat' first
      | (with_reducible exact clock_Date.mono _ _)
      | (with_reducible exact LeO.refl _)
      | (with_reducible exact LeO.none _)
      | (with_reducible refine LeO.ite ?_ ?_)
      | (with_reducible refine LeO.bind ?_ (fun _ => ?_))
      | exact clock_Date.mono _ _
      | exact LeO.none _
      | refine LeO.ite ?_ ?_
      | refine LeO.bind ?_ (fun _ => ?_)
set_option maxHeartbeats 8000000 in
set_option maxRecDepth 100000 in
theorem clock_Dos.calls (k : Nat) (a0 : Nat) (r : Int) (w : World) (h : clock_Dos.f k a0 = some r) :
    Calls Tryd.prog 40 #[.float .f64 a0] w fun e w' => e = .returned (.int .i64 r) ∧ Below w.heap.size w w' := by
  have hu59 := Tryd.underlying59
  have HB := Aside0.mk (Below.refl w.heap.size w)
  have H : (if (FloatKind.f64.format.order a0 a0 != some .eq) = true then (some 0) else (if (FloatKind.f64.format.order a0 4734073370679705600 == some .lt) = true then ((clock_Date.f k 315532800).bind fun bt122 => (some (Go.bits .or .i64 (Go.bits .or .i64 (Go.bits .or .i64 (wrap64 ((Go.bits .or .i64 (Go.bits .or .i64 (wrap64 ((wrap64 (bt122.1 - 1980)) * 512)) (wrap64 (bt122.2.1 * 32))) bt122.2.2.1) * 65536)) (wrap64 (bt122.2.2.2.1 * 2048))) (wrap64 (bt122.2.2.2.2.1 * 32))) (wrap64 (Int.tdiv bt122.2.2.2.2.2 2))))) else (if (FloatKind.f64.format.order a0 4751360366145961984 == some .gt || FloatKind.f64.format.order a0 4751360366145961984 == some .eq) = true then ((clock_Date.f k 4354819198).bind fun bt129 => (some (Go.bits .or .i64 (Go.bits .or .i64 (Go.bits .or .i64 (wrap64 ((Go.bits .or .i64 (Go.bits .or .i64 (wrap64 ((wrap64 (bt129.1 - 1980)) * 512)) (wrap64 (bt129.2.1 * 32))) bt129.2.2.1) * 65536)) (wrap64 (bt129.2.2.2.1 * 2048))) (wrap64 (bt129.2.2.2.2.1 * 32))) (wrap64 (Int.tdiv bt129.2.2.2.2.2 2))))) else ((math_Floor.f a0).bind fun t136 => (if (fintOk t136) = true then ((clock_Date.f k (fint t136)).bind fun bt137 => (some (Go.bits .or .i64 (Go.bits .or .i64 (Go.bits .or .i64 (wrap64 ((Go.bits .or .i64 (Go.bits .or .i64 (wrap64 ((wrap64 (bt137.1 - 1980)) * 512)) (wrap64 (bt137.2.1 * 32))) bt137.2.2.1) * 65536)) (wrap64 (bt137.2.2.2.1 * 2048))) (wrap64 (bt137.2.2.2.2.1 * 32))) (wrap64 (Int.tdiv bt137.2.2.2.2.2 2))))) else (none)))))) = some r := h
  clear h
  by_cases c2 : (FloatKind.f64.format.order a0 a0 != some .eq) = true
  · rw [if_pos c2] at H
    have c2b0 : (FloatKind.f64.format.order a0 a0 != some .eq) = true := c2
    (try (have c2b1 : decide (FloatKind.f64.format.order a0 a0 = some .eq) = false := by simpa using c2))
    (try (have c2b2 : (FloatKind.f64.format.order a0 a0 == some .eq) = false := by simpa using c2))
    (try (have c2b3 : ¬ (FloatKind.f64.format.order a0 a0 = some .eq) := by simpa using c2))
    clear c2
    obtain rfl := Option.some.inj H
    go_enter Tryd.func40, Tryd.ntmps40
    go_wp2
    go_ret
    exact ⟨by first | rfl | (simp only [show ∀ l : List UInt8, (l != []) = (!l.isEmpty) from fun l => by cases l <;> rfl]; rfl) | (simp [errW_none, errW_some] <;> rfl) | (simp [*, errW_none, errW_some] <;> rfl), by repeat (first | (with_reducible first | exact HB.out | apply below_alloc | apply pw_below_drewN | apply below_drew1) | exact HB.out)⟩
  · rw [if_neg c2] at H
    have c2b0 : (FloatKind.f64.format.order a0 a0 != some .eq) = false := by simpa using c2
    (try (have c2b1 : decide (FloatKind.f64.format.order a0 a0 = some .eq) = true := by simpa using c2))
    (try (have c2b2 : (FloatKind.f64.format.order a0 a0 == some .eq) = true := by simpa using c2))
    clear c2
    by_cases c3 : (FloatKind.f64.format.order a0 4734073370679705600 == some .lt) = true
    · rw [if_pos c3] at H
      have c3b0 : (FloatKind.f64.format.order a0 4734073370679705600 == some .lt) = true := c3
      (try (have c3b1 : decide (FloatKind.f64.format.order a0 4734073370679705600 = some .lt) = true := by simpa using c3))
      (try (have c3b2 : (FloatKind.f64.format.order a0 4734073370679705600 == some .lt) = true := by simpa using c3))
      clear c3
      replace H := Option.bind_eq_some_iff.mp H
      obtain ⟨⟨t122, t123, t124, t125, t126, t127⟩, A40, H⟩ := H
      replace H : (some (Go.bits .or .i64 (Go.bits .or .i64 (Go.bits .or .i64 (wrap64 ((Go.bits .or .i64 (Go.bits .or .i64 (wrap64 ((wrap64 (t122 - 1980)) * 512)) (wrap64 (t123 * 32))) t124) * 65536)) (wrap64 (t125 * 2048))) (wrap64 (t126 * 32))) (wrap64 (Int.tdiv t127 2)))) = some r := H
      have A4 := Aside0.mk A40
      clear A40
      obtain rfl := Option.some.inj H
      go_enter Tryd.func40, Tryd.ntmps40
      go_wp2_with (first | ((with_reducible refine gate_callee (f := 45) rfl ?_); refine goesL_ (some 19) rfl rfl Tryd.func45 (by kernel_rfl) rfl #[.int .i64 315532800] rfl (by (try simp only [List.map_toArray, List.map_cons, List.map_nil]); first | done | rfl | (simp only [List.length_drop, List.length_take]; rfl)) ?_; (with_reducible refine (clock_Date.calls k 315532800 t122 t123 t124 t125 t126 t127 _ A4.out).mono ?_); rintro e w5 ⟨rfl, hb⟩; refine ⟨_, rfl, ?_⟩; have n0_ := Aside0.mk (below_step (by repeat (first | (with_reducible first | exact HB.out | apply below_alloc | apply pw_below_drewN | apply below_drew1) | exact HB.out)) hb); clear HB; have HB := n0_; clear n0_; (try clear hb); (try clear hb2); (try clear hk); (try clear hi)) | ((with_reducible refine gate_dst (N := 4) rfl ?_); refine box_event ?hg (N := 4) ?hd (cs := #[.int .i64 0, .int .i64 0, .int .i64 0, .int .i64 0, .int .i64 0, .int .i64 0]) (t := 59) ?hr ?_; (case hd => rfl); (case hg => rfl); (case hr => first | (go_simp; done) | (go_simp; rfl)); intro gb128 hg w6 hbox hb; have n0_ := Aside0.mk (below_step (by repeat (first | (with_reducible first | exact HB.out | apply below_alloc | apply pw_below_drewN | apply below_drew1) | exact HB.out)) hb); have n1_ := Aside0.mk (hbox); have n2_ := Aside0.mk ((by rw [hg]; exact (below_size (by repeat (first | (with_reducible first | exact HB.out | apply below_alloc | apply pw_below_drewN | apply below_drew1) | exact HB.out))) : w.heap.size ≤ gb128)); have n3_ := Aside0.mk ((by rw [hg]; exact (below_size (by repeat (first | (with_reducible first | exact HB.out | apply below_alloc | apply pw_below_drewN | apply below_drew1) | exact HB.out))) : w.heap.size ≤ gb128)); clear HB; have HB := n0_; have BK128 := n1_; have GW128 := n2_; have GE128 := n3_; clear n0_ n1_ n2_ n3_; clear hb hbox hg; have hcz7_0 : w6.cell? ⟨gb128, 0, none⟩ = some (.int .i64 0) := (blk_cell BK128.out 0).trans rfl; have hcz7_1 : w6.cell? ⟨gb128, 1, none⟩ = some (.int .i64 0) := (blk_cell BK128.out 1).trans rfl; have hcz7_2 : w6.cell? ⟨gb128, 2, none⟩ = some (.int .i64 0) := (blk_cell BK128.out 2).trans rfl; have hcz7_3 : w6.cell? ⟨gb128, 3, none⟩ = some (.int .i64 0) := (blk_cell BK128.out 3).trans rfl; have hcz7_4 : w6.cell? ⟨gb128, 4, none⟩ = some (.int .i64 0) := (blk_cell BK128.out 4).trans rfl; have hcz7_5 : w6.cell? ⟨gb128, 5, none⟩ = some (.int .i64 0) := (blk_cell BK128.out 5).trans rfl; have hfz7_0 := blk_frozen BK128.out 0; have hfz7_1 := blk_frozen BK128.out 1; have hfz7_2 := blk_frozen BK128.out 2; have hfz7_3 := blk_frozen BK128.out 3; have hfz7_4 := blk_frozen BK128.out 4; have hfz7_5 := blk_frozen BK128.out 5))
      go_ret
      exact ⟨by first | rfl | (simp only [show ∀ l : List UInt8, (l != []) = (!l.isEmpty) from fun l => by cases l <;> rfl]; rfl) | (simp [errW_none, errW_some] <;> rfl) | (simp [*, errW_none, errW_some] <;> rfl), by repeat (first | (with_reducible first | exact HB.out | apply below_alloc | apply pw_below_drewN | apply below_drew1 | refine below_set ?_ GE128.out) | exact HB.out)⟩
    · rw [if_neg c3] at H
      have c3b0 : (FloatKind.f64.format.order a0 4734073370679705600 == some .lt) = false := by simpa using c3
      (try (have c3b1 : decide (FloatKind.f64.format.order a0 4734073370679705600 = some .lt) = false := by simpa using c3))
      (try (have c3b2 : (FloatKind.f64.format.order a0 4734073370679705600 == some .lt) = false := by simpa using c3))
      (try (have c3b3 : ¬ (FloatKind.f64.format.order a0 4734073370679705600 = some .lt) := by simpa using c3))
      clear c3
      by_cases c8 : (FloatKind.f64.format.order a0 4751360366145961984 == some .gt || FloatKind.f64.format.order a0 4751360366145961984 == some .eq) = true
      · rw [if_pos c8] at H
        have c8b0 : (FloatKind.f64.format.order a0 4751360366145961984 == some .gt || FloatKind.f64.format.order a0 4751360366145961984 == some .eq) = true := c8
        have c8b7 : (!(FloatKind.f64.format.order a0 4751360366145961984 == some .gt) && !(FloatKind.f64.format.order a0 4751360366145961984 == some .eq)) = false := by rw [← Bool.not_or, c8b0]; rfl
        (try (have c8b1 : decide (FloatKind.f64.format.order a0 4751360366145961984 = some .gt || FloatKind.f64.format.order a0 4751360366145961984 == some .eq) = true := by simpa using c8))
        (try (have c8b2 : (FloatKind.f64.format.order a0 4751360366145961984 == some .gt || FloatKind.f64.format.order a0 4751360366145961984 == some .eq) = true := by simpa using c8))
        clear c8
        replace H := Option.bind_eq_some_iff.mp H
        obtain ⟨⟨t129, t130, t131, t132, t133, t134⟩, A90, H⟩ := H
        replace H : (some (Go.bits .or .i64 (Go.bits .or .i64 (Go.bits .or .i64 (wrap64 ((Go.bits .or .i64 (Go.bits .or .i64 (wrap64 ((wrap64 (t129 - 1980)) * 512)) (wrap64 (t130 * 32))) t131) * 65536)) (wrap64 (t132 * 2048))) (wrap64 (t133 * 32))) (wrap64 (Int.tdiv t134 2)))) = some r := H
        have A9 := Aside0.mk A90
        clear A90
        obtain rfl := Option.some.inj H
        go_enter Tryd.func40, Tryd.ntmps40
        go_wp2_with (first | ((with_reducible refine gate_callee (f := 45) rfl ?_); refine goesL_ (some 19) rfl rfl Tryd.func45 (by kernel_rfl) rfl #[.int .i64 4354819198] rfl (by (try simp only [List.map_toArray, List.map_cons, List.map_nil]); first | done | rfl | (simp only [List.length_drop, List.length_take]; rfl)) ?_; (with_reducible refine (clock_Date.calls k 4354819198 t129 t130 t131 t132 t133 t134 _ A9.out).mono ?_); rintro e w10 ⟨rfl, hb⟩; refine ⟨_, rfl, ?_⟩; have n0_ := Aside0.mk (below_step (by repeat (first | (with_reducible first | exact HB.out | apply below_alloc | apply pw_below_drewN | apply below_drew1) | exact HB.out)) hb); clear HB; have HB := n0_; clear n0_; (try clear hb); (try clear hb2); (try clear hk); (try clear hi)) | ((with_reducible refine gate_dst (N := 4) rfl ?_); refine box_event ?hg (N := 4) ?hd (cs := #[.int .i64 0, .int .i64 0, .int .i64 0, .int .i64 0, .int .i64 0, .int .i64 0]) (t := 59) ?hr ?_; (case hd => rfl); (case hg => rfl); (case hr => first | (go_simp; done) | (go_simp; rfl)); intro gb135 hg w11 hbox hb; have n0_ := Aside0.mk (below_step (by repeat (first | (with_reducible first | exact HB.out | apply below_alloc | apply pw_below_drewN | apply below_drew1) | exact HB.out)) hb); have n1_ := Aside0.mk (hbox); have n2_ := Aside0.mk ((by rw [hg]; exact (below_size (by repeat (first | (with_reducible first | exact HB.out | apply below_alloc | apply pw_below_drewN | apply below_drew1) | exact HB.out))) : w.heap.size ≤ gb135)); have n3_ := Aside0.mk ((by rw [hg]; exact (below_size (by repeat (first | (with_reducible first | exact HB.out | apply below_alloc | apply pw_below_drewN | apply below_drew1) | exact HB.out))) : w.heap.size ≤ gb135)); clear HB; have HB := n0_; have BK135 := n1_; have GW135 := n2_; have GE135 := n3_; clear n0_ n1_ n2_ n3_; clear hb hbox hg; have hcz12_0 : w11.cell? ⟨gb135, 0, none⟩ = some (.int .i64 0) := (blk_cell BK135.out 0).trans rfl; have hcz12_1 : w11.cell? ⟨gb135, 1, none⟩ = some (.int .i64 0) := (blk_cell BK135.out 1).trans rfl; have hcz12_2 : w11.cell? ⟨gb135, 2, none⟩ = some (.int .i64 0) := (blk_cell BK135.out 2).trans rfl; have hcz12_3 : w11.cell? ⟨gb135, 3, none⟩ = some (.int .i64 0) := (blk_cell BK135.out 3).trans rfl; have hcz12_4 : w11.cell? ⟨gb135, 4, none⟩ = some (.int .i64 0) := (blk_cell BK135.out 4).trans rfl; have hcz12_5 : w11.cell? ⟨gb135, 5, none⟩ = some (.int .i64 0) := (blk_cell BK135.out 5).trans rfl; have hfz12_0 := blk_frozen BK135.out 0; have hfz12_1 := blk_frozen BK135.out 1; have hfz12_2 := blk_frozen BK135.out 2; have hfz12_3 := blk_frozen BK135.out 3; have hfz12_4 := blk_frozen BK135.out 4; have hfz12_5 := blk_frozen BK135.out 5))
        go_ret
        exact ⟨by first | rfl | (simp only [show ∀ l : List UInt8, (l != []) = (!l.isEmpty) from fun l => by cases l <;> rfl]; rfl) | (simp [errW_none, errW_some] <;> rfl) | (simp [*, errW_none, errW_some] <;> rfl), by repeat (first | (with_reducible first | exact HB.out | apply below_alloc | apply pw_below_drewN | apply below_drew1 | refine below_set ?_ GE135.out) | exact HB.out)⟩
      · rw [if_neg c8] at H
        have c8b0 : (FloatKind.f64.format.order a0 4751360366145961984 == some .gt || FloatKind.f64.format.order a0 4751360366145961984 == some .eq) = false := by simpa using c8
        have c8b7 : (!(FloatKind.f64.format.order a0 4751360366145961984 == some .gt) && !(FloatKind.f64.format.order a0 4751360366145961984 == some .eq)) = true := by rw [← Bool.not_or, c8b0]; rfl
        (try (have c8b1 : decide (FloatKind.f64.format.order a0 4751360366145961984 = some .gt || FloatKind.f64.format.order a0 4751360366145961984 == some .eq) = false := by simpa using c8))
        (try (have c8b2 : (FloatKind.f64.format.order a0 4751360366145961984 == some .gt || FloatKind.f64.format.order a0 4751360366145961984 == some .eq) = false := by simpa using c8))
        (try (have c8b3 : ¬ (FloatKind.f64.format.order a0 4751360366145961984 = some .gt || FloatKind.f64.format.order a0 4751360366145961984 == some .eq) := by simpa using c8))
        clear c8
        replace H := Option.bind_eq_some_iff.mp H
        obtain ⟨t136, A130, H⟩ := H
        replace H : (if (fintOk t136) = true then ((clock_Date.f k (fint t136)).bind fun bt137 => (some (Go.bits .or .i64 (Go.bits .or .i64 (Go.bits .or .i64 (wrap64 ((Go.bits .or .i64 (Go.bits .or .i64 (wrap64 ((wrap64 (bt137.1 - 1980)) * 512)) (wrap64 (bt137.2.1 * 32))) bt137.2.2.1) * 65536)) (wrap64 (bt137.2.2.2.1 * 2048))) (wrap64 (bt137.2.2.2.2.1 * 32))) (wrap64 (Int.tdiv bt137.2.2.2.2.2 2))))) else (none)) = some r := H
        have A13 := Aside0.mk A130
        clear A130
        by_cases c14 : (fintOk t136) = true
        · rw [if_pos c14] at H
          have c14b0 := eq_true c14
          have c14b1 : decide ((fintOk t136) = true) = true := decide_eq_true c14
          clear c14
          replace H := Option.bind_eq_some_iff.mp H
          obtain ⟨⟨t137, t138, t139, t140, t141, t142⟩, A150, H⟩ := H
          replace H : (some (Go.bits .or .i64 (Go.bits .or .i64 (Go.bits .or .i64 (wrap64 ((Go.bits .or .i64 (Go.bits .or .i64 (wrap64 ((wrap64 (t137 - 1980)) * 512)) (wrap64 (t138 * 32))) t139) * 65536)) (wrap64 (t140 * 2048))) (wrap64 (t141 * 32))) (wrap64 (Int.tdiv t142 2)))) = some r := H
          have A15 := Aside0.mk A150
          clear A150
          obtain rfl := Option.some.inj H
          go_enter Tryd.func40, Tryd.ntmps40
          go_wp2_with (first | ((with_reducible refine gate_callee (f := 70) rfl ?_); refine goesL_ (some 6) rfl rfl Tryd.func70 (by kernel_rfl) rfl #[.float .f64 a0] rfl (by (try simp only [List.map_toArray, List.map_cons, List.map_nil]); first | done | rfl | (simp only [List.length_drop, List.length_take]; rfl)) ?_; (with_reducible refine (math_Floor.calls a0 t136 _ A13.out).mono ?_); rintro e w16 ⟨rfl, hb⟩; refine ⟨_, rfl, ?_⟩; have n0_ := Aside0.mk (below_step (by repeat (first | (with_reducible first | exact HB.out | apply below_alloc | apply pw_below_drewN | apply below_drew1) | exact HB.out)) hb); clear HB; have HB := n0_; clear n0_; (try clear hb); (try clear hb2); (try clear hk); (try clear hi)) | ((with_reducible refine gate_callee (f := 45) rfl ?_); refine goesL_ (some 19) rfl rfl Tryd.func45 (by kernel_rfl) rfl #[.int .i64 (fint t136)] rfl (by (try simp only [List.map_toArray, List.map_cons, List.map_nil]); first | done | rfl | (simp only [List.length_drop, List.length_take]; rfl)) ?_; (with_reducible refine (clock_Date.calls k (fint t136) t137 t138 t139 t140 t141 t142 _ A15.out).mono ?_); rintro e w17 ⟨rfl, hb⟩; refine ⟨_, rfl, ?_⟩; have n0_ := Aside0.mk (below_step (by repeat (first | (with_reducible first | exact HB.out | apply below_alloc | apply pw_below_drewN | apply below_drew1) | exact HB.out)) hb); clear HB; have HB := n0_; clear n0_; (try clear hb); (try clear hb2); (try clear hk); (try clear hi)) | ((with_reducible refine gate_dst (N := 4) rfl ?_); refine box_event ?hg (N := 4) ?hd (cs := #[.int .i64 0, .int .i64 0, .int .i64 0, .int .i64 0, .int .i64 0, .int .i64 0]) (t := 59) ?hr ?_; (case hd => rfl); (case hg => rfl); (case hr => first | (go_simp; done) | (go_simp; rfl)); intro gb143 hg w18 hbox hb; have n0_ := Aside0.mk (below_step (by repeat (first | (with_reducible first | exact HB.out | apply below_alloc | apply pw_below_drewN | apply below_drew1) | exact HB.out)) hb); have n1_ := Aside0.mk (hbox); have n2_ := Aside0.mk ((by rw [hg]; exact (below_size (by repeat (first | (with_reducible first | exact HB.out | apply below_alloc | apply pw_below_drewN | apply below_drew1) | exact HB.out))) : w.heap.size ≤ gb143)); have n3_ := Aside0.mk ((by rw [hg]; exact (below_size (by repeat (first | (with_reducible first | exact HB.out | apply below_alloc | apply pw_below_drewN | apply below_drew1) | exact HB.out))) : w.heap.size ≤ gb143)); clear HB; have HB := n0_; have BK143 := n1_; have GW143 := n2_; have GE143 := n3_; clear n0_ n1_ n2_ n3_; clear hb hbox hg; have hcz19_0 : w18.cell? ⟨gb143, 0, none⟩ = some (.int .i64 0) := (blk_cell BK143.out 0).trans rfl; have hcz19_1 : w18.cell? ⟨gb143, 1, none⟩ = some (.int .i64 0) := (blk_cell BK143.out 1).trans rfl; have hcz19_2 : w18.cell? ⟨gb143, 2, none⟩ = some (.int .i64 0) := (blk_cell BK143.out 2).trans rfl; have hcz19_3 : w18.cell? ⟨gb143, 3, none⟩ = some (.int .i64 0) := (blk_cell BK143.out 3).trans rfl; have hcz19_4 : w18.cell? ⟨gb143, 4, none⟩ = some (.int .i64 0) := (blk_cell BK143.out 4).trans rfl; have hcz19_5 : w18.cell? ⟨gb143, 5, none⟩ = some (.int .i64 0) := (blk_cell BK143.out 5).trans rfl; have hfz19_0 := blk_frozen BK143.out 0; have hfz19_1 := blk_frozen BK143.out 1; have hfz19_2 := blk_frozen BK143.out 2; have hfz19_3 := blk_frozen BK143.out 3; have hfz19_4 := blk_frozen BK143.out 4; have hfz19_5 := blk_frozen BK143.out 5))
          go_ret
          exact ⟨by first | rfl | (simp only [show ∀ l : List UInt8, (l != []) = (!l.isEmpty) from fun l => by cases l <;> rfl]; rfl) | (simp [errW_none, errW_some] <;> rfl) | (simp [*, errW_none, errW_some] <;> rfl), by repeat (first | (with_reducible first | exact HB.out | apply below_alloc | apply pw_below_drewN | apply below_drew1 | refine below_set ?_ GE143.out) | exact HB.out)⟩
        · rw [if_neg c14] at H
          exact absurd H (by simp)

-- function 81 (clock_down): by hand

/-! ### clock_days: function 78 -/
def clock_days.f (a0 : Int) (a1 : Int) (a2 : Int) : Option (Int) := if a1 ≤ 2 then ((clock_down.f (wrap64 (a0 - 1)) 400).bind fun bt144 => (some (wrap64 ((wrap64 ((wrap64 ((wrap64 ((wrap64 ((wrap64 (bt144.1 * 146097)) + (wrap64 (bt144.2 * 365)))) + (wrap64 (Int.tdiv bt144.2 4)))) - (wrap64 (Int.tdiv bt144.2 100)))) + (wrap64 ((wrap64 ((wrap64 (Int.tdiv (wrap64 ((wrap64 (153 * (Int.tmod (wrap64 (a1 + 9)) 12))) + 2)) 5)) + a2)) - 1)))) - 719468)))) else ((clock_down.f a0 400).bind fun bt146 => (some (wrap64 ((wrap64 ((wrap64 ((wrap64 ((wrap64 ((wrap64 (bt146.1 * 146097)) + (wrap64 (bt146.2 * 365)))) + (wrap64 (Int.tdiv bt146.2 4)))) - (wrap64 (Int.tdiv bt146.2 100)))) + (wrap64 ((wrap64 ((wrap64 (Int.tdiv (wrap64 ((wrap64 (153 * (Int.tmod (wrap64 (a1 + 9)) 12))) + 2)) 5)) + a2)) - 1)))) - 719468))))
set_option maxHeartbeats 8000000 in
set_option maxRecDepth 100000 in
theorem clock_days.calls (a0 : Int) (a1 : Int) (a2 : Int) (r : Int) (w : World) (h : clock_days.f a0 a1 a2 = some r) :
    Calls Tryd.prog 78 #[.int .i64 a0, .int .i64 a1, .int .i64 a2] w fun e w' => e = .returned (.int .i64 r) ∧ Drawn0 w w' := by
  have H : (if a1 ≤ 2 then ((clock_down.f (wrap64 (a0 - 1)) 400).bind fun bt144 => (some (wrap64 ((wrap64 ((wrap64 ((wrap64 ((wrap64 ((wrap64 (bt144.1 * 146097)) + (wrap64 (bt144.2 * 365)))) + (wrap64 (Int.tdiv bt144.2 4)))) - (wrap64 (Int.tdiv bt144.2 100)))) + (wrap64 ((wrap64 ((wrap64 (Int.tdiv (wrap64 ((wrap64 (153 * (Int.tmod (wrap64 (a1 + 9)) 12))) + 2)) 5)) + a2)) - 1)))) - 719468)))) else ((clock_down.f a0 400).bind fun bt146 => (some (wrap64 ((wrap64 ((wrap64 ((wrap64 ((wrap64 ((wrap64 (bt146.1 * 146097)) + (wrap64 (bt146.2 * 365)))) + (wrap64 (Int.tdiv bt146.2 4)))) - (wrap64 (Int.tdiv bt146.2 100)))) + (wrap64 ((wrap64 ((wrap64 (Int.tdiv (wrap64 ((wrap64 (153 * (Int.tmod (wrap64 (a1 + 9)) 12))) + 2)) 5)) + a2)) - 1)))) - 719468))))) = some r := h
  clear h
  by_cases c4 : a1 ≤ 2
  · rw [if_pos c4] at H
    have c4b0 : decide (a1 ≤ 2) = true := decide_eq_true c4
    clear c4
    replace H := Option.bind_eq_some_iff.mp H
    obtain ⟨⟨t144, t145⟩, A50, H⟩ := H
    replace H : (some (wrap64 ((wrap64 ((wrap64 ((wrap64 ((wrap64 ((wrap64 (t144 * 146097)) + (wrap64 (t145 * 365)))) + (wrap64 (Int.tdiv t145 4)))) - (wrap64 (Int.tdiv t145 100)))) + (wrap64 ((wrap64 ((wrap64 (Int.tdiv (wrap64 ((wrap64 (153 * (Int.tmod (wrap64 (a1 + 9)) 12))) + 2)) 5)) + a2)) - 1)))) - 719468))) = some r := H
    have A5 := Aside0.mk A50
    clear A50
    obtain rfl := Option.some.inj H
    go_enter Tryd.func78, Tryd.ntmps78
    go_wp2_with (first | ((with_reducible refine gate_callee (f := 81) rfl ?_); refine goesL_ (some 16) rfl rfl Tryd.func81 (by kernel_rfl) rfl #[.int .i64 (wrap64 (a0 - 1)), .int .i64 400] rfl (by (try simp only [List.map_toArray, List.map_cons, List.map_nil]); first | done | rfl | (simp only [List.length_drop, List.length_take]; rfl)) ?_; (with_reducible refine (clock_down.calls (wrap64 (a0 - 1)) 400 t144 t145 _ A5.out).mono ?_); rintro e w' ⟨rfl, ⟨nd, rfl⟩⟩; refine ⟨_, rfl, ?_⟩))
    go_ret
    exact ⟨by first | rfl | (simp only [show ∀ l : List UInt8, (l != []) = (!l.isEmpty) from fun l => by cases l <;> rfl]; rfl) | (simp; done) | (simp [*]; done), by repeat (first | exact Drawn0.refl _ | apply Drawn0.step)⟩
  · rw [if_neg c4] at H
    have c4b0 : decide (a1 ≤ 2) = false := decide_eq_false c4
    clear c4
    replace H := Option.bind_eq_some_iff.mp H
    obtain ⟨⟨t146, t147⟩, A60, H⟩ := H
    replace H : (some (wrap64 ((wrap64 ((wrap64 ((wrap64 ((wrap64 ((wrap64 (t146 * 146097)) + (wrap64 (t147 * 365)))) + (wrap64 (Int.tdiv t147 4)))) - (wrap64 (Int.tdiv t147 100)))) + (wrap64 ((wrap64 ((wrap64 (Int.tdiv (wrap64 ((wrap64 (153 * (Int.tmod (wrap64 (a1 + 9)) 12))) + 2)) 5)) + a2)) - 1)))) - 719468))) = some r := H
    have A6 := Aside0.mk A60
    clear A60
    obtain rfl := Option.some.inj H
    go_enter Tryd.func78, Tryd.ntmps78
    go_wp2_with (first | ((with_reducible refine gate_callee (f := 81) rfl ?_); refine goesL_ (some 16) rfl rfl Tryd.func81 (by kernel_rfl) rfl #[.int .i64 a0, .int .i64 400] rfl (by (try simp only [List.map_toArray, List.map_cons, List.map_nil]); first | done | rfl | (simp only [List.length_drop, List.length_take]; rfl)) ?_; (with_reducible refine (clock_down.calls a0 400 t146 t147 _ A6.out).mono ?_); rintro e w' ⟨rfl, ⟨nd, rfl⟩⟩; refine ⟨_, rfl, ?_⟩))
    go_ret
    exact ⟨by first | rfl | (simp only [show ∀ l : List UInt8, (l != []) = (!l.isEmpty) from fun l => by cases l <;> rfl]; rfl) | (simp; done) | (simp [*]; done), by repeat (first | exact Drawn0.refl _ | apply Drawn0.step)⟩

/-! ### clock_Days: function 41 -/
def clock_Days.f (a0 : Int) (a1 : Int) (a2 : Int) : Option (Int) := if a0 < (-100000) then (some 0) else (if a0 > 100000 then (some 0) else (if a1 < 1 then (some 0) else (if a1 > 12 then (some 0) else (if a2 < 1 then (some 0) else (if a2 > 31 then (some 0) else ((clock_days.f a0 a1 a2).bind fun t148 => (some t148)))))))
set_option maxHeartbeats 8000000 in
set_option maxRecDepth 100000 in
theorem clock_Days.calls (a0 : Int) (a1 : Int) (a2 : Int) (r : Int) (w : World) (h : clock_Days.f a0 a1 a2 = some r) :
    Calls Tryd.prog 41 #[.int .i64 a0, .int .i64 a1, .int .i64 a2] w fun e w' => e = .returned (.int .i64 r) ∧ Drawn0 w w' := by
  have H : (if a0 < (-100000) then (some 0) else (if a0 > 100000 then (some 0) else (if a1 < 1 then (some 0) else (if a1 > 12 then (some 0) else (if a2 < 1 then (some 0) else (if a2 > 31 then (some 0) else ((clock_days.f a0 a1 a2).bind fun t148 => (some t148)))))))) = some r := h
  clear h
  by_cases c4 : a0 < (-100000)
  · rw [if_pos c4] at H
    have c4b0 : decide (a0 < (-100000)) = true := decide_eq_true c4
    clear c4
    obtain rfl := Option.some.inj H
    go_enter Tryd.func41, Tryd.ntmps41
    go_wp2
    go_ret
    exact ⟨by first | rfl | (simp only [show ∀ l : List UInt8, (l != []) = (!l.isEmpty) from fun l => by cases l <;> rfl]; rfl) | (simp; done) | (simp [*]; done), by repeat (first | exact Drawn0.refl _ | apply Drawn0.step)⟩
  · rw [if_neg c4] at H
    have c4b0 : decide (a0 < (-100000)) = false := decide_eq_false c4
    clear c4
    by_cases c5 : a0 > 100000
    · rw [if_pos c5] at H
      have c5b0 : decide (100000 < a0) = true := decide_eq_true c5
      clear c5
      obtain rfl := Option.some.inj H
      go_enter Tryd.func41, Tryd.ntmps41
      go_wp2
      go_ret
      exact ⟨by first | rfl | (simp only [show ∀ l : List UInt8, (l != []) = (!l.isEmpty) from fun l => by cases l <;> rfl]; rfl) | (simp; done) | (simp [*]; done), by repeat (first | exact Drawn0.refl _ | apply Drawn0.step)⟩
    · rw [if_neg c5] at H
      have c5b0 : decide (100000 < a0) = false := decide_eq_false c5
      clear c5
      by_cases c6 : a1 < 1
      · rw [if_pos c6] at H
        have c6b0 : decide (a1 < 1) = true := decide_eq_true c6
        clear c6
        obtain rfl := Option.some.inj H
        go_enter Tryd.func41, Tryd.ntmps41
        go_wp2
        go_ret
        exact ⟨by first | rfl | (simp only [show ∀ l : List UInt8, (l != []) = (!l.isEmpty) from fun l => by cases l <;> rfl]; rfl) | (simp; done) | (simp [*]; done), by repeat (first | exact Drawn0.refl _ | apply Drawn0.step)⟩
      · rw [if_neg c6] at H
        have c6b0 : decide (a1 < 1) = false := decide_eq_false c6
        clear c6
        by_cases c7 : a1 > 12
        · rw [if_pos c7] at H
          have c7b0 : decide (12 < a1) = true := decide_eq_true c7
          clear c7
          obtain rfl := Option.some.inj H
          go_enter Tryd.func41, Tryd.ntmps41
          go_wp2
          go_ret
          exact ⟨by first | rfl | (simp only [show ∀ l : List UInt8, (l != []) = (!l.isEmpty) from fun l => by cases l <;> rfl]; rfl) | (simp; done) | (simp [*]; done), by repeat (first | exact Drawn0.refl _ | apply Drawn0.step)⟩
        · rw [if_neg c7] at H
          have c7b0 : decide (12 < a1) = false := decide_eq_false c7
          clear c7
          by_cases c8 : a2 < 1
          · rw [if_pos c8] at H
            have c8b0 : decide (a2 < 1) = true := decide_eq_true c8
            clear c8
            obtain rfl := Option.some.inj H
            go_enter Tryd.func41, Tryd.ntmps41
            go_wp2
            go_ret
            exact ⟨by first | rfl | (simp only [show ∀ l : List UInt8, (l != []) = (!l.isEmpty) from fun l => by cases l <;> rfl]; rfl) | (simp; done) | (simp [*]; done), by repeat (first | exact Drawn0.refl _ | apply Drawn0.step)⟩
          · rw [if_neg c8] at H
            have c8b0 : decide (a2 < 1) = false := decide_eq_false c8
            clear c8
            by_cases c9 : a2 > 31
            · rw [if_pos c9] at H
              have c9b0 : decide (31 < a2) = true := decide_eq_true c9
              clear c9
              obtain rfl := Option.some.inj H
              go_enter Tryd.func41, Tryd.ntmps41
              go_wp2
              go_ret
              exact ⟨by first | rfl | (simp only [show ∀ l : List UInt8, (l != []) = (!l.isEmpty) from fun l => by cases l <;> rfl]; rfl) | (simp; done) | (simp [*]; done), by repeat (first | exact Drawn0.refl _ | apply Drawn0.step)⟩
            · rw [if_neg c9] at H
              have c9b0 : decide (31 < a2) = false := decide_eq_false c9
              clear c9
              replace H := Option.bind_eq_some_iff.mp H
              obtain ⟨t148, A100, H⟩ := H
              replace H : (some t148) = some r := H
              have A10 := Aside0.mk A100
              clear A100
              obtain rfl := Option.some.inj H
              go_enter Tryd.func41, Tryd.ntmps41
              go_wp2_with (first | ((with_reducible refine gate_callee (f := 78) rfl ?_); refine goesL_ (some 32) rfl rfl Tryd.func78 (by kernel_rfl) rfl #[.int .i64 a0, .int .i64 a1, .int .i64 a2] rfl (by (try simp only [List.map_toArray, List.map_cons, List.map_nil]); first | done | rfl | (simp only [List.length_drop, List.length_take]; rfl)) ?_; (with_reducible refine (clock_days.calls a0 a1 a2 t148 _ A10.out).mono ?_); rintro e w' ⟨rfl, ⟨nd, rfl⟩⟩; refine ⟨_, rfl, ?_⟩))
              go_ret
              exact ⟨by first | rfl | (simp only [show ∀ l : List UInt8, (l != []) = (!l.isEmpty) from fun l => by cases l <;> rfl]; rfl) | (simp; done) | (simp [*]; done), by repeat (first | exact Drawn0.refl _ | apply Drawn0.step)⟩

-- function 54 (math_NaN): by hand

/-! ### clock_FromUnix: function 47 -/
def clock_FromUnix.f (a0 : Int) : Option (Nat) := if a0 < 1 then ((math_NaN.f).bind fun t149 => (some t149)) else (if a0 > 4294967295 then ((math_NaN.f).bind fun t150 => (some t150)) else (some (floatOfInt .f64 a0)))
set_option maxHeartbeats 8000000 in
set_option maxRecDepth 100000 in
theorem clock_FromUnix.calls (a0 : Int) (r : Nat) (w : World) (h : clock_FromUnix.f a0 = some r) :
    Calls Tryd.prog 47 #[.int .i64 a0] w fun e w' => e = .returned (.float .f64 r) ∧ Below w.heap.size w w' := by
  have HB := Aside0.mk (Below.refl w.heap.size w)
  have H : (if a0 < 1 then ((math_NaN.f).bind fun t149 => (some t149)) else (if a0 > 4294967295 then ((math_NaN.f).bind fun t150 => (some t150)) else (some (floatOfInt .f64 a0)))) = some r := h
  clear h
  by_cases c2 : a0 < 1
  · rw [if_pos c2] at H
    have c2b0 : decide (a0 < 1) = true := decide_eq_true c2
    clear c2
    replace H := Option.bind_eq_some_iff.mp H
    obtain ⟨t149, A30, H⟩ := H
    replace H : (some t149) = some r := H
    have A3 := Aside0.mk A30
    clear A30
    obtain rfl := Option.some.inj H
    go_enter Tryd.func47, Tryd.ntmps47
    go_wp2_with (first | ((with_reducible refine gate_callee (f := 54) rfl ?_); refine goesL_ (some 9) rfl rfl Tryd.func54 (by kernel_rfl) rfl #[] rfl (by (try simp only [List.map_toArray, List.map_cons, List.map_nil]); first | done | rfl | (simp only [List.length_drop, List.length_take]; rfl)) ?_; (with_reducible refine (math_NaN.calls  t149 _ A3.out).mono ?_); rintro e w4 ⟨rfl, hb⟩; refine ⟨_, rfl, ?_⟩; have n0_ := Aside0.mk (below_step (by repeat (first | (with_reducible first | exact HB.out | apply below_alloc | apply pw_below_drewN | apply below_drew1) | exact HB.out)) hb); clear HB; have HB := n0_; clear n0_; (try clear hb); (try clear hb2); (try clear hk); (try clear hi)))
    go_ret
    exact ⟨by first | rfl | (simp only [show ∀ l : List UInt8, (l != []) = (!l.isEmpty) from fun l => by cases l <;> rfl]; rfl) | (simp [errW_none, errW_some] <;> rfl) | (simp [*, errW_none, errW_some] <;> rfl), by repeat (first | (with_reducible first | exact HB.out | apply below_alloc | apply pw_below_drewN | apply below_drew1) | exact HB.out)⟩
  · rw [if_neg c2] at H
    have c2b0 : decide (a0 < 1) = false := decide_eq_false c2
    clear c2
    by_cases c5 : a0 > 4294967295
    · rw [if_pos c5] at H
      have c5b0 : decide (4294967295 < a0) = true := decide_eq_true c5
      clear c5
      replace H := Option.bind_eq_some_iff.mp H
      obtain ⟨t150, A60, H⟩ := H
      replace H : (some t150) = some r := H
      have A6 := Aside0.mk A60
      clear A60
      obtain rfl := Option.some.inj H
      go_enter Tryd.func47, Tryd.ntmps47
      go_wp2_with (first | ((with_reducible refine gate_callee (f := 54) rfl ?_); refine goesL_ (some 9) rfl rfl Tryd.func54 (by kernel_rfl) rfl #[] rfl (by (try simp only [List.map_toArray, List.map_cons, List.map_nil]); first | done | rfl | (simp only [List.length_drop, List.length_take]; rfl)) ?_; (with_reducible refine (math_NaN.calls  t150 _ A6.out).mono ?_); rintro e w7 ⟨rfl, hb⟩; refine ⟨_, rfl, ?_⟩; have n0_ := Aside0.mk (below_step (by repeat (first | (with_reducible first | exact HB.out | apply below_alloc | apply pw_below_drewN | apply below_drew1) | exact HB.out)) hb); clear HB; have HB := n0_; clear n0_; (try clear hb); (try clear hb2); (try clear hk); (try clear hi)))
      go_ret
      exact ⟨by first | rfl | (simp only [show ∀ l : List UInt8, (l != []) = (!l.isEmpty) from fun l => by cases l <;> rfl]; rfl) | (simp [errW_none, errW_some] <;> rfl) | (simp [*, errW_none, errW_some] <;> rfl), by repeat (first | (with_reducible first | exact HB.out | apply below_alloc | apply pw_below_drewN | apply below_drew1) | exact HB.out)⟩
    · rw [if_neg c5] at H
      have c5b0 : decide (4294967295 < a0) = false := decide_eq_false c5
      clear c5
      obtain rfl := Option.some.inj H
      go_enter Tryd.func47, Tryd.ntmps47
      go_wp2
      go_ret
      exact ⟨by first | rfl | (simp only [show ∀ l : List UInt8, (l != []) = (!l.isEmpty) from fun l => by cases l <;> rfl]; rfl) | (simp [errW_none, errW_some] <;> rfl) | (simp [*, errW_none, errW_some] <;> rfl), by repeat (first | (with_reducible first | exact HB.out | apply below_alloc | apply pw_below_drewN | apply below_drew1) | exact HB.out)⟩

/-! ### clock_Same: function 72 -/
def clock_Same.f (a0 : Nat) (a1 : Nat) : Option (Bool) := if (FloatKind.f64.format.order a0 a1 == some .eq) = true then (some true) else (if (FloatKind.f64.format.order a0 a0 != some .eq) = true then (some (FloatKind.f64.format.order a1 a1 != some .eq)) else (some false))
set_option maxHeartbeats 8000000 in
set_option maxRecDepth 100000 in
theorem clock_Same.calls (a0 : Nat) (a1 : Nat) (r : Bool) (w : World) (h : clock_Same.f a0 a1 = some r) :
    Calls Tryd.prog 72 #[.float .f64 a0, .float .f64 a1] w fun e w' => e = .returned (.bool r) ∧ Drawn0 w w' := by
  have H : (if (FloatKind.f64.format.order a0 a1 == some .eq) = true then (some true) else (if (FloatKind.f64.format.order a0 a0 != some .eq) = true then (some (FloatKind.f64.format.order a1 a1 != some .eq)) else (some false))) = some r := h
  clear h
  by_cases c3 : (FloatKind.f64.format.order a0 a1 == some .eq) = true
  · rw [if_pos c3] at H
    have c3b0 : (FloatKind.f64.format.order a0 a1 == some .eq) = true := c3
    (try (have c3b1 : decide (FloatKind.f64.format.order a0 a1 = some .eq) = true := by simpa using c3))
    (try (have c3b2 : (FloatKind.f64.format.order a0 a1 == some .eq) = true := by simpa using c3))
    clear c3
    obtain rfl := Option.some.inj H
    go_enter Tryd.func72, Tryd.ntmps72
    go_wp2
    go_ret
    exact ⟨by first | rfl | (simp only [show ∀ l : List UInt8, (l != []) = (!l.isEmpty) from fun l => by cases l <;> rfl]; rfl) | (simp; done) | (simp [*]; done), by repeat (first | exact Drawn0.refl _ | apply Drawn0.step)⟩
  · rw [if_neg c3] at H
    have c3b0 : (FloatKind.f64.format.order a0 a1 == some .eq) = false := by simpa using c3
    (try (have c3b1 : decide (FloatKind.f64.format.order a0 a1 = some .eq) = false := by simpa using c3))
    (try (have c3b2 : (FloatKind.f64.format.order a0 a1 == some .eq) = false := by simpa using c3))
    (try (have c3b3 : ¬ (FloatKind.f64.format.order a0 a1 = some .eq) := by simpa using c3))
    clear c3
    by_cases c4 : (FloatKind.f64.format.order a0 a0 != some .eq) = true
    · rw [if_pos c4] at H
      have c4b0 : (FloatKind.f64.format.order a0 a0 != some .eq) = true := c4
      (try (have c4b1 : decide (FloatKind.f64.format.order a0 a0 = some .eq) = false := by simpa using c4))
      (try (have c4b2 : (FloatKind.f64.format.order a0 a0 == some .eq) = false := by simpa using c4))
      (try (have c4b3 : ¬ (FloatKind.f64.format.order a0 a0 = some .eq) := by simpa using c4))
      clear c4
      obtain rfl := Option.some.inj H
      go_enter Tryd.func72, Tryd.ntmps72
      go_wp2
      go_ret
      exact ⟨by first | rfl | (simp only [show ∀ l : List UInt8, (l != []) = (!l.isEmpty) from fun l => by cases l <;> rfl]; rfl) | (simp; done) | (simp [*]; done), by repeat (first | exact Drawn0.refl _ | apply Drawn0.step)⟩
    · rw [if_neg c4] at H
      have c4b0 : (FloatKind.f64.format.order a0 a0 != some .eq) = false := by simpa using c4
      (try (have c4b1 : decide (FloatKind.f64.format.order a0 a0 = some .eq) = true := by simpa using c4))
      (try (have c4b2 : (FloatKind.f64.format.order a0 a0 == some .eq) = true := by simpa using c4))
      clear c4
      obtain rfl := Option.some.inj H
      go_enter Tryd.func72, Tryd.ntmps72
      go_wp2
      go_ret
      exact ⟨by first | rfl | (simp only [show ∀ l : List UInt8, (l != []) = (!l.isEmpty) from fun l => by cases l <;> rfl]; rfl) | (simp; done) | (simp [*]; done), by repeat (first | exact Drawn0.refl _ | apply Drawn0.step)⟩

/-! ### stevedorelaw4_same: function 34 -/
def stevedorelaw4_same.f (a0 : Nat) (a1 : Nat) : Option (Bool) := if (FloatKind.f64.format.order a0 a0 != some .eq) = true then (if (FloatKind.f64.format.order a1 a1 != some .eq) = true then (some true) else (if (FloatKind.f64.format.order a0 a1 == some .eq) = true then (if (FloatKind.f64.format.order a0 0 != some .eq) = true then (some true) else (if (fvalid .quo 4607182418800017408 a0) = true then (if (fvalid .quo 4607182418800017408 a1) = true then (some (FloatKind.f64.format.order (fop .quo 4607182418800017408 a0) (fop .quo 4607182418800017408 a1) == some .eq)) else (none)) else (none))) else (some false))) else (if (FloatKind.f64.format.order a0 a1 == some .eq) = true then (if (FloatKind.f64.format.order a0 0 != some .eq) = true then (some true) else (if (fvalid .quo 4607182418800017408 a0) = true then (if (fvalid .quo 4607182418800017408 a1) = true then (some (FloatKind.f64.format.order (fop .quo 4607182418800017408 a0) (fop .quo 4607182418800017408 a1) == some .eq)) else (none)) else (none))) else (some false))
set_option maxHeartbeats 8000000 in
set_option maxRecDepth 100000 in
theorem stevedorelaw4_same.calls (a0 : Nat) (a1 : Nat) (r : Bool) (w : World) (h : stevedorelaw4_same.f a0 a1 = some r) :
    Calls Tryd.prog 34 #[.float .f64 a0, .float .f64 a1] w fun e w' => e = .returned (.bool r) ∧ Drawn0 w w' := by
  have H : (if (FloatKind.f64.format.order a0 a0 != some .eq) = true then (if (FloatKind.f64.format.order a1 a1 != some .eq) = true then (some true) else (if (FloatKind.f64.format.order a0 a1 == some .eq) = true then (if (FloatKind.f64.format.order a0 0 != some .eq) = true then (some true) else (if (fvalid .quo 4607182418800017408 a0) = true then (if (fvalid .quo 4607182418800017408 a1) = true then (some (FloatKind.f64.format.order (fop .quo 4607182418800017408 a0) (fop .quo 4607182418800017408 a1) == some .eq)) else (none)) else (none))) else (some false))) else (if (FloatKind.f64.format.order a0 a1 == some .eq) = true then (if (FloatKind.f64.format.order a0 0 != some .eq) = true then (some true) else (if (fvalid .quo 4607182418800017408 a0) = true then (if (fvalid .quo 4607182418800017408 a1) = true then (some (FloatKind.f64.format.order (fop .quo 4607182418800017408 a0) (fop .quo 4607182418800017408 a1) == some .eq)) else (none)) else (none))) else (some false))) = some r := h
  clear h
  by_cases c3 : (FloatKind.f64.format.order a0 a0 != some .eq) = true
  · rw [if_pos c3] at H
    have c3b0 : (FloatKind.f64.format.order a0 a0 != some .eq) = true := c3
    (try (have c3b1 : decide (FloatKind.f64.format.order a0 a0 = some .eq) = false := by simpa using c3))
    (try (have c3b2 : (FloatKind.f64.format.order a0 a0 == some .eq) = false := by simpa using c3))
    (try (have c3b3 : ¬ (FloatKind.f64.format.order a0 a0 = some .eq) := by simpa using c3))
    clear c3
    by_cases c4 : (FloatKind.f64.format.order a1 a1 != some .eq) = true
    · rw [if_pos c4] at H
      have c4b0 : (FloatKind.f64.format.order a1 a1 != some .eq) = true := c4
      (try (have c4b1 : decide (FloatKind.f64.format.order a1 a1 = some .eq) = false := by simpa using c4))
      (try (have c4b2 : (FloatKind.f64.format.order a1 a1 == some .eq) = false := by simpa using c4))
      (try (have c4b3 : ¬ (FloatKind.f64.format.order a1 a1 = some .eq) := by simpa using c4))
      clear c4
      obtain rfl := Option.some.inj H
      go_enter Tryd.func34, Tryd.ntmps34
      go_wp2
      go_ret
      exact ⟨by first | rfl | (simp only [show ∀ l : List UInt8, (l != []) = (!l.isEmpty) from fun l => by cases l <;> rfl]; rfl) | (simp; done) | (simp [*]; done), by repeat (first | exact Drawn0.refl _ | apply Drawn0.step)⟩
    · rw [if_neg c4] at H
      have c4b0 : (FloatKind.f64.format.order a1 a1 != some .eq) = false := by simpa using c4
      (try (have c4b1 : decide (FloatKind.f64.format.order a1 a1 = some .eq) = true := by simpa using c4))
      (try (have c4b2 : (FloatKind.f64.format.order a1 a1 == some .eq) = true := by simpa using c4))
      clear c4
      by_cases c5 : (FloatKind.f64.format.order a0 a1 == some .eq) = true
      · rw [if_pos c5] at H
        have c5b0 : (FloatKind.f64.format.order a0 a1 == some .eq) = true := c5
        (try (have c5b1 : decide (FloatKind.f64.format.order a0 a1 = some .eq) = true := by simpa using c5))
        (try (have c5b2 : (FloatKind.f64.format.order a0 a1 == some .eq) = true := by simpa using c5))
        clear c5
        by_cases c6 : (FloatKind.f64.format.order a0 0 != some .eq) = true
        · rw [if_pos c6] at H
          have c6b0 : (FloatKind.f64.format.order a0 0 != some .eq) = true := c6
          (try (have c6b1 : decide (FloatKind.f64.format.order a0 0 = some .eq) = false := by simpa using c6))
          (try (have c6b2 : (FloatKind.f64.format.order a0 0 == some .eq) = false := by simpa using c6))
          (try (have c6b3 : ¬ (FloatKind.f64.format.order a0 0 = some .eq) := by simpa using c6))
          clear c6
          obtain rfl := Option.some.inj H
          go_enter Tryd.func34, Tryd.ntmps34
          go_wp2
          go_ret
          exact ⟨by first | rfl | (simp only [show ∀ l : List UInt8, (l != []) = (!l.isEmpty) from fun l => by cases l <;> rfl]; rfl) | (simp; done) | (simp [*]; done), by repeat (first | exact Drawn0.refl _ | apply Drawn0.step)⟩
        · rw [if_neg c6] at H
          have c6b0 : (FloatKind.f64.format.order a0 0 != some .eq) = false := by simpa using c6
          (try (have c6b1 : decide (FloatKind.f64.format.order a0 0 = some .eq) = true := by simpa using c6))
          (try (have c6b2 : (FloatKind.f64.format.order a0 0 == some .eq) = true := by simpa using c6))
          clear c6
          by_cases c7 : (fvalid .quo 4607182418800017408 a0) = true
          · rw [if_pos c7] at H
            have c7b0 := eq_true c7
            have c7b1 : decide ((fvalid .quo 4607182418800017408 a0) = true) = true := decide_eq_true c7
            clear c7
            by_cases c8 : (fvalid .quo 4607182418800017408 a1) = true
            · rw [if_pos c8] at H
              have c8b0 := eq_true c8
              have c8b1 : decide ((fvalid .quo 4607182418800017408 a1) = true) = true := decide_eq_true c8
              clear c8
              obtain rfl := Option.some.inj H
              go_enter Tryd.func34, Tryd.ntmps34
              go_wp2
              go_ret
              exact ⟨by first | rfl | (simp only [show ∀ l : List UInt8, (l != []) = (!l.isEmpty) from fun l => by cases l <;> rfl]; rfl) | (simp; done) | (simp [*]; done), by repeat (first | exact Drawn0.refl _ | apply Drawn0.step)⟩
            · rw [if_neg c8] at H
              exact absurd H (by simp)
          · rw [if_neg c7] at H
            exact absurd H (by simp)
      · rw [if_neg c5] at H
        have c5b0 : (FloatKind.f64.format.order a0 a1 == some .eq) = false := by simpa using c5
        (try (have c5b1 : decide (FloatKind.f64.format.order a0 a1 = some .eq) = false := by simpa using c5))
        (try (have c5b2 : (FloatKind.f64.format.order a0 a1 == some .eq) = false := by simpa using c5))
        (try (have c5b3 : ¬ (FloatKind.f64.format.order a0 a1 = some .eq) := by simpa using c5))
        clear c5
        obtain rfl := Option.some.inj H
        go_enter Tryd.func34, Tryd.ntmps34
        go_wp2
        go_ret
        exact ⟨by first | rfl | (simp only [show ∀ l : List UInt8, (l != []) = (!l.isEmpty) from fun l => by cases l <;> rfl]; rfl) | (simp; done) | (simp [*]; done), by repeat (first | exact Drawn0.refl _ | apply Drawn0.step)⟩
  · rw [if_neg c3] at H
    have c3b0 : (FloatKind.f64.format.order a0 a0 != some .eq) = false := by simpa using c3
    (try (have c3b1 : decide (FloatKind.f64.format.order a0 a0 = some .eq) = true := by simpa using c3))
    (try (have c3b2 : (FloatKind.f64.format.order a0 a0 == some .eq) = true := by simpa using c3))
    clear c3
    by_cases c9 : (FloatKind.f64.format.order a0 a1 == some .eq) = true
    · rw [if_pos c9] at H
      have c9b0 : (FloatKind.f64.format.order a0 a1 == some .eq) = true := c9
      (try (have c9b1 : decide (FloatKind.f64.format.order a0 a1 = some .eq) = true := by simpa using c9))
      (try (have c9b2 : (FloatKind.f64.format.order a0 a1 == some .eq) = true := by simpa using c9))
      clear c9
      by_cases c10 : (FloatKind.f64.format.order a0 0 != some .eq) = true
      · rw [if_pos c10] at H
        have c10b0 : (FloatKind.f64.format.order a0 0 != some .eq) = true := c10
        (try (have c10b1 : decide (FloatKind.f64.format.order a0 0 = some .eq) = false := by simpa using c10))
        (try (have c10b2 : (FloatKind.f64.format.order a0 0 == some .eq) = false := by simpa using c10))
        (try (have c10b3 : ¬ (FloatKind.f64.format.order a0 0 = some .eq) := by simpa using c10))
        clear c10
        obtain rfl := Option.some.inj H
        go_enter Tryd.func34, Tryd.ntmps34
        go_wp2
        go_ret
        exact ⟨by first | rfl | (simp only [show ∀ l : List UInt8, (l != []) = (!l.isEmpty) from fun l => by cases l <;> rfl]; rfl) | (simp; done) | (simp [*]; done), by repeat (first | exact Drawn0.refl _ | apply Drawn0.step)⟩
      · rw [if_neg c10] at H
        have c10b0 : (FloatKind.f64.format.order a0 0 != some .eq) = false := by simpa using c10
        (try (have c10b1 : decide (FloatKind.f64.format.order a0 0 = some .eq) = true := by simpa using c10))
        (try (have c10b2 : (FloatKind.f64.format.order a0 0 == some .eq) = true := by simpa using c10))
        clear c10
        by_cases c11 : (fvalid .quo 4607182418800017408 a0) = true
        · rw [if_pos c11] at H
          have c11b0 := eq_true c11
          have c11b1 : decide ((fvalid .quo 4607182418800017408 a0) = true) = true := decide_eq_true c11
          clear c11
          by_cases c12 : (fvalid .quo 4607182418800017408 a1) = true
          · rw [if_pos c12] at H
            have c12b0 := eq_true c12
            have c12b1 : decide ((fvalid .quo 4607182418800017408 a1) = true) = true := decide_eq_true c12
            clear c12
            obtain rfl := Option.some.inj H
            go_enter Tryd.func34, Tryd.ntmps34
            go_wp2
            go_ret
            exact ⟨by first | rfl | (simp only [show ∀ l : List UInt8, (l != []) = (!l.isEmpty) from fun l => by cases l <;> rfl]; rfl) | (simp; done) | (simp [*]; done), by repeat (first | exact Drawn0.refl _ | apply Drawn0.step)⟩
          · rw [if_neg c12] at H
            exact absurd H (by simp)
        · rw [if_neg c11] at H
          exact absurd H (by simp)
    · rw [if_neg c9] at H
      have c9b0 : (FloatKind.f64.format.order a0 a1 == some .eq) = false := by simpa using c9
      (try (have c9b1 : decide (FloatKind.f64.format.order a0 a1 = some .eq) = false := by simpa using c9))
      (try (have c9b2 : (FloatKind.f64.format.order a0 a1 == some .eq) = false := by simpa using c9))
      (try (have c9b3 : ¬ (FloatKind.f64.format.order a0 a1 = some .eq) := by simpa using c9))
      clear c9
      obtain rfl := Option.some.inj H
      go_enter Tryd.func34, Tryd.ntmps34
      go_wp2
      go_ret
      exact ⟨by first | rfl | (simp only [show ∀ l : List UInt8, (l != []) = (!l.isEmpty) from fun l => by cases l <;> rfl]; rfl) | (simp; done) | (simp [*]; done), by repeat (first | exact Drawn0.refl _ | apply Drawn0.step)⟩

end Go.Proofs.YtfmfikodnpnblaaDoor.PClk1

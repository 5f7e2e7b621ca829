-- Written by this repo's gprint.py over the kit's printer, out of the translation. Not trusted: Lean checks it.
import Derived.Test.YtfmfikodnpnblaaDoorWGuard
import Derived.Test.YtfmfikodnpnblaaDoorPRateBackx0
namespace Go.Proofs.YtfmfikodnpnblaaDoor.PRateBack
open Go.RowKit Go.Proofs.YtfmfikodnpnblaaDoorW.PrintWords Go.Proofs.YtfmfikodnpnblaaDoorW.PrintLast Go.Proofs.YtfmfikodnpnblaaDoorW.PrintMore
attribute [local go_sem] max2_int min2_int max_two min_two max_three min_three max_four min_four   -- for this text's walks alone
open Go.Proofs.YtfmfikodnpnblaaDoor.FltNeg Go.Proofs.YtfmfikodnpnblaaDoor.PRate1 Go.Proofs.YtfmfikodnpnblaaDoor.PRateB Go.Proofs.YtfmfikodnpnblaaDoor.RateTold
attribute [local go_sem] fop_run fint_run fofint_run Go.Proofs.YtfmfikodnpnblaaDoor.FltNan.sub_nan_run Go.Proofs.YtfmfikodnpnblaaDoor.FltNan.nanOf_order Go.Proofs.YtfmfikodnpnblaaDoor.FltNeg.fneg_run
set_option linter.unusedVariables false
set_option linter.unusedSimpArgs false

-- function 15 (stevedorelaw36_told): by hand

-- function 27 (stevedoreref35_SameFloat): by hand

-- function 28 (stevedorelaw36_digits): by hand

-- function 29 (rate_Parse): by hand

-- function 30 (rate_Text): by hand

/-! ### stevedorelaw36_RateBack: function 8 -/
mutual
def stevedorelaw36_RateBack.j0 : Nat → Nat → ByteArray → Option (Bool)
  | 0, _, _ => none
  | k + 1, x2, x8 => (rate_Parse.f k x8).bind fun bt103 => (if bt103.2 = 0 then ((rate_Text.f k bt103.1).bind fun t105 => (stevedorelaw36_RateBack.j1 k x2 (t105.toList != x8.toList))) else (stevedorelaw36_RateBack.j1 k x2 true))
def stevedorelaw36_RateBack.j1 : Nat → Nat → Bool → Option (Bool)
  | 0, _, _ => none
  | k + 1, x2, x42 => if x42 = true then (some false) else ((rate_Text.f k x2).bind fun t106 => ((rate_Parse.f k t106).bind fun bt107 => (if (FloatKind.f64.format.order x2 x2 != some .eq) = true then (stevedorelaw36_RateBack.j2 k x2 t106 bt107.1 bt107.2 true) else (if (fvalid .sub x2 x2) = true then (stevedorelaw36_RateBack.j2 k x2 t106 bt107.1 bt107.2 (FloatKind.f64.format.order (fop .sub x2 x2) 0 != some .eq)) else (stevedorelaw36_RateBack.j2 k x2 t106 bt107.1 bt107.2 true)))))
def stevedorelaw36_RateBack.j2 : Nat → Nat → ByteArray → Nat → Int → Bool → Option (Bool)
  | 0, _, _, _, _, _ => none
  | k + 1, x2, x11, x12, x13, x58 => if x58 = true then ((stevedorelaw36_told.f).bind fun t109 => (if t109 = true then (if x13 = 0 then ((stevedoreref35_SameFloat.f x2 x12).bind fun t110 => (some t110)) else (some false)) else (some false))) else (if (FloatKind.f64.format.order x2 4787326403894837248 == some .gt) = true then (stevedorelaw36_RateBack.j3 k x2 x11 x12 x13 true) else (stevedorelaw36_RateBack.j3 k x2 x11 x12 x13 (FloatKind.f64.format.order x2 14010698440749613056 == some .lt)))
def stevedorelaw36_RateBack.j3 : Nat → Nat → ByteArray → Nat → Int → Bool → Option (Bool)
  | 0, _, _, _, _, _ => none
  | k + 1, x2, x11, x12, x13, x74 => if x74 = true then ((stevedorelaw36_told.f).bind fun t111 => (some t111)) else (if (fvalid .sub x12 x2) = true then ((stevedorelaw36_told.f).bind fun t112 => (if t112 = true then (if x13 = 0 then ((rate_Text.f k x12).bind fun t113 => (if t113.toList = x11.toList then (if (FloatKind.f64.format.order (fop .sub x12 x2) 4562254508917369340 == some .lt || FloatKind.f64.format.order (fop .sub x12 x2) 4562254508917369340 == some .eq) = true then (if (FloatKind.f64.format.order (fop .sub x12 x2) 13785626545772145148 == some .gt || FloatKind.f64.format.order (fop .sub x12 x2) 13785626545772145148 == some .eq) = true then (if (FloatKind.f64.format.order x2 0 != some .eq) = true then (some true) else ((stevedoreref35_SameFloat.f x2 x12).bind fun t114 => (some t114))) else (some false)) else (some false)) else (some false))) else (some false)) else (some false))) else (none))
end
def stevedorelaw36_RateBack.f (k : Nat) (a0 : Int) (a1 : Bool) (a2 : Nat) : Option (Bool) := (stevedorelaw36_digits.f k (wrap64 (Int.tdiv (Go.bits .and .i64 a0 1125899906842623) 1000))).bind fun t101 => (if t101.size + 1 ≤ 9223372036854775807 then ((stevedorelaw36_digits.f k (wrap64 (1000 + (Int.tmod (Go.bits .and .i64 a0 1125899906842623) 1000)))).bind fun t102 => (if 1 ≤ (t102.size : Int) then (if (t101 ++ (⟨#[46]⟩ : ByteArray)).size + (t102.extract 1 t102.size).size ≤ 9223372036854775807 then (if a1 = true then (if 1 + ((t101 ++ (⟨#[46]⟩ : ByteArray)) ++ (t102.extract 1 t102.size)).size ≤ 9223372036854775807 then (stevedorelaw36_RateBack.j0 k a2 ((⟨#[45]⟩ : ByteArray) ++ ((t101 ++ (⟨#[46]⟩ : ByteArray)) ++ (t102.extract 1 t102.size)))) else (none)) else (stevedorelaw36_RateBack.j0 k a2 ((t101 ++ (⟨#[46]⟩ : ByteArray)) ++ (t102.extract 1 t102.size)))) else (none)) else (none))) else (none))
theorem stevedorelaw36_RateBack.mono_l : ∀ k, (∀ y0 y1, LeO (stevedorelaw36_RateBack.j0 k y0 y1) (stevedorelaw36_RateBack.j0 (k + 1) y0 y1)) ∧ (∀ y0 y1, LeO (stevedorelaw36_RateBack.j1 k y0 y1) (stevedorelaw36_RateBack.j1 (k + 1) y0 y1)) ∧ (∀ y0 y1 y2 y3 y4, LeO (stevedorelaw36_RateBack.j2 k y0 y1 y2 y3 y4) (stevedorelaw36_RateBack.j2 (k + 1) y0 y1 y2 y3 y4)) ∧ (∀ y0 y1 y2 y3 y4, LeO (stevedorelaw36_RateBack.j3 k y0 y1 y2 y3 y4) (stevedorelaw36_RateBack.j3 (k + 1) y0 y1 y2 y3 y4))
  | 0 => ⟨fun _ _ r h => by simp [stevedorelaw36_RateBack.j0] at h, fun _ _ r h => by simp [stevedorelaw36_RateBack.j1] at h, fun _ _ _ _ _ r h => by simp [stevedorelaw36_RateBack.j2] at h, fun _ _ _ _ _ r h => by simp [stevedorelaw36_RateBack.j3] at h⟩
  | k + 1 => by
    obtain ⟨ih0, ih1, ih2, ih3⟩ := stevedorelaw36_RateBack.mono_l k
    refine ⟨?_, ?_, ?_, ?_⟩
    · intro y0 y1
      unfold stevedorelaw36_RateBack.j0
      repeat' first
      | (with_reducible exact ih0 _ _)
      | (with_reducible exact ih1 _ _)
      | (with_reducible exact ih2 _ _ _ _ _)
      | (with_reducible exact ih3 _ _ _ _ _)
      | (with_reducible exact rate_Parse.mono _ _)
      | (with_reducible exact rate_Text.mono _ _)
      | (with_reducible exact stevedorelaw36_digits.mono _ _)
      | (with_reducible exact LeO.refl _)
      | (with_reducible exact LeO.none _)
      | (with_reducible refine LeO.ite ?_ ?_)
      | (with_reducible refine LeO.bind ?_ (fun _ => ?_))
      | exact ih0 _ _
      | exact ih1 _ _
      | exact ih2 _ _ _ _ _
      | exact ih3 _ _ _ _ _
      | exact rate_Parse.mono _ _
      | exact rate_Text.mono _ _
      | exact stevedorelaw36_digits.mono _ _
      | exact LeO.none _
      | refine LeO.ite ?_ ?_
      | refine LeO.bind ?_ (fun _ => ?_)
    · intro y0 y1
      unfold stevedorelaw36_RateBack.j1
      repeat' first
      | (with_reducible exact ih0 _ _)
      | (with_reducible exact ih1 _ _)
      | (with_reducible exact ih2 _ _ _ _ _)
      | (with_reducible exact ih3 _ _ _ _ _)
      | (with_reducible exact rate_Parse.mono _ _)
      | (with_reducible exact rate_Text.mono _ _)
      | (with_reducible exact stevedorelaw36_digits.mono _ _)
      | (with_reducible exact LeO.refl _)
      | (with_reducible exact LeO.none _)
      | (with_reducible refine LeO.ite ?_ ?_)
      | (with_reducible refine LeO.bind ?_ (fun _ => ?_))
      | exact ih0 _ _
      | exact ih1 _ _
      | exact ih2 _ _ _ _ _
      | exact ih3 _ _ _ _ _
      | exact rate_Parse.mono _ _
      | exact rate_Text.mono _ _
      | exact stevedorelaw36_digits.mono _ _
      | exact LeO.none _
      | refine LeO.ite ?_ ?_
      | refine LeO.bind ?_ (fun _ => ?_)
    · intro y0 y1 y2 y3 y4
      unfold stevedorelaw36_RateBack.j2
      repeat' first
      | (with_reducible exact ih0 _ _)
      | (with_reducible exact ih1 _ _)
      | (with_reducible exact ih2 _ _ _ _ _)
      | (with_reducible exact ih3 _ _ _ _ _)
      | (with_reducible exact rate_Parse.mono _ _)
      | (with_reducible exact rate_Text.mono _ _)
      | (with_reducible exact stevedorelaw36_digits.mono _ _)
      | (with_reducible exact LeO.refl _)
      | (with_reducible exact LeO.none _)
      | (with_reducible refine LeO.ite ?_ ?_)
      | (with_reducible refine LeO.bind ?_ (fun _ => ?_))
      | exact ih0 _ _
      | exact ih1 _ _
      | exact ih2 _ _ _ _ _
      | exact ih3 _ _ _ _ _
      | exact rate_Parse.mono _ _
      | exact rate_Text.mono _ _
      | exact stevedorelaw36_digits.mono _ _
      | exact LeO.none _
      | refine LeO.ite ?_ ?_
      | refine LeO.bind ?_ (fun _ => ?_)
    · intro y0 y1 y2 y3 y4
      unfold stevedorelaw36_RateBack.j3
      repeat' first
      | (with_reducible exact ih0 _ _)
      | (with_reducible exact ih1 _ _)
      | (with_reducible exact ih2 _ _ _ _ _)
      | (with_reducible exact ih3 _ _ _ _ _)
      | (with_reducible exact rate_Parse.mono _ _)
      | (with_reducible exact rate_Text.mono _ _)
      | (with_reducible exact stevedorelaw36_digits.mono _ _)
      | (with_reducible exact LeO.refl _)
      | (with_reducible exact LeO.none _)
      | (with_reducible refine LeO.ite ?_ ?_)
      | (with_reducible refine LeO.bind ?_ (fun _ => ?_))
      | exact ih0 _ _
      | exact ih1 _ _
      | exact ih2 _ _ _ _ _
      | exact ih3 _ _ _ _ _
      | exact rate_Parse.mono _ _
      | exact rate_Text.mono _ _
      | exact stevedorelaw36_digits.mono _ _
      | exact LeO.none _
      | refine LeO.ite ?_ ?_
      | refine LeO.bind ?_ (fun _ => ?_)
theorem stevedorelaw36_RateBack.mono : ∀ a0 a1 a2 k, LeO (stevedorelaw36_RateBack.f k a0 a1 a2) (stevedorelaw36_RateBack.f (k + 1) a0 a1 a2) := by
  intro a0 a1 a2 k
  obtain ⟨ih0, ih1, ih2, ih3⟩ := stevedorelaw36_RateBack.mono_l k
  unfold stevedorelaw36_RateBack.f
  repeat' first
      | (with_reducible exact ih0 _ _)
      | (with_reducible exact ih1 _ _)
      | (with_reducible exact ih2 _ _ _ _ _)
      | (with_reducible exact ih3 _ _ _ _ _)
      | (with_reducible exact rate_Parse.mono _ _)
      | (with_reducible exact rate_Text.mono _ _)
      | (with_reducible exact stevedorelaw36_digits.mono _ _)
      | (with_reducible exact LeO.refl _)
      | (with_reducible exact LeO.none _)
      | (with_reducible refine LeO.ite ?_ ?_)
      | (with_reducible refine LeO.bind ?_ (fun _ => ?_))
      | exact ih0 _ _
      | exact ih1 _ _
      | exact ih2 _ _ _ _ _
      | exact ih3 _ _ _ _ _
      | exact rate_Parse.mono _ _
      | exact rate_Text.mono _ _
      | exact stevedorelaw36_digits.mono _ _
      | exact LeO.none _
      | refine LeO.ite ?_ ?_
      | refine LeO.bind ?_ (fun _ => ?_)
set_option maxHeartbeats 8000000 in
set_option maxRecDepth 100000 in
theorem stevedorelaw36_RateBack.calls (k : Nat) (a0 : Int) (a1 : Bool) (a2 : Nat) (r : Bool) (w : World) (h : stevedorelaw36_RateBack.f k a0 a1 a2 = some r) (hv : Go.Proofs.YtfmfikodnpnblaaDoor.ClkLib.Vars w) :
    Calls Tryd.prog 8 #[.int .i64 a0, .bool a1, .float .f64 a2] w fun e w' => e = .returned (.bool r) ∧ Below w.heap.size w w' := by
  have HVARS := Aside0.mk hv
  have HB := Aside0.mk (Below.refl w.heap.size w)
  have H : ((stevedorelaw36_digits.f k (wrap64 (Int.tdiv (Go.bits .and .i64 a0 1125899906842623) 1000))).bind fun t101 => (if t101.size + 1 ≤ 9223372036854775807 then ((stevedorelaw36_digits.f k (wrap64 (1000 + (Int.tmod (Go.bits .and .i64 a0 1125899906842623) 1000)))).bind fun t102 => (if 1 ≤ (t102.size : Int) then (if (t101 ++ (⟨#[46]⟩ : ByteArray)).size + (t102.extract 1 t102.size).size ≤ 9223372036854775807 then (if a1 = true then (if 1 + ((t101 ++ (⟨#[46]⟩ : ByteArray)) ++ (t102.extract 1 t102.size)).size ≤ 9223372036854775807 then (stevedorelaw36_RateBack.j0 k a2 ((⟨#[45]⟩ : ByteArray) ++ ((t101 ++ (⟨#[46]⟩ : ByteArray)) ++ (t102.extract 1 t102.size)))) else (none)) else (stevedorelaw36_RateBack.j0 k a2 ((t101 ++ (⟨#[46]⟩ : ByteArray)) ++ (t102.extract 1 t102.size)))) else (none)) else (none))) else (none))) = some r := h
  clear h
  replace H := Option.bind_eq_some_iff.mp H
  obtain ⟨t101, A40, H⟩ := H
  replace H : (if t101.size + 1 ≤ 9223372036854775807 then ((stevedorelaw36_digits.f k (wrap64 (1000 + (Int.tmod (Go.bits .and .i64 a0 1125899906842623) 1000)))).bind fun t102 => (if 1 ≤ (t102.size : Int) then (if (t101 ++ (⟨#[46]⟩ : ByteArray)).size + (t102.extract 1 t102.size).size ≤ 9223372036854775807 then (if a1 = true then (if 1 + ((t101 ++ (⟨#[46]⟩ : ByteArray)) ++ (t102.extract 1 t102.size)).size ≤ 9223372036854775807 then (stevedorelaw36_RateBack.j0 k a2 ((⟨#[45]⟩ : ByteArray) ++ ((t101 ++ (⟨#[46]⟩ : ByteArray)) ++ (t102.extract 1 t102.size)))) else (none)) else (stevedorelaw36_RateBack.j0 k a2 ((t101 ++ (⟨#[46]⟩ : ByteArray)) ++ (t102.extract 1 t102.size)))) else (none)) else (none))) else (none)) = some r := H
  have A4 := Aside0.mk A40
  clear A40
  by_cases c5 : t101.size + 1 ≤ 9223372036854775807
  · rw [if_pos c5] at H
    have c5b0 := eq_true c5
    have c5b1 : decide (t101.size + 1 ≤ 9223372036854775807) = true := decide_eq_true c5
    try have c5b2 : (9223372036854775807 < t101.size + 1) = False := eq_false (Nat.not_lt.2 c5)
    replace H := Option.bind_eq_some_iff.mp H
    obtain ⟨t102, A60, H⟩ := H
    replace H : (if 1 ≤ (t102.size : Int) then (if (t101 ++ (⟨#[46]⟩ : ByteArray)).size + (t102.extract 1 t102.size).size ≤ 9223372036854775807 then (if a1 = true then (if 1 + ((t101 ++ (⟨#[46]⟩ : ByteArray)) ++ (t102.extract 1 t102.size)).size ≤ 9223372036854775807 then (stevedorelaw36_RateBack.j0 k a2 ((⟨#[45]⟩ : ByteArray) ++ ((t101 ++ (⟨#[46]⟩ : ByteArray)) ++ (t102.extract 1 t102.size)))) else (none)) else (stevedorelaw36_RateBack.j0 k a2 ((t101 ++ (⟨#[46]⟩ : ByteArray)) ++ (t102.extract 1 t102.size)))) else (none)) else (none)) = some r := H
    have A6 := Aside0.mk A60
    clear A60
    by_cases c7 : 1 ≤ (t102.size : Int)
    · rw [if_pos c7] at H
      have c7b0 := eq_true c7
      have c7b1 : decide (1 ≤ (t102.size : Int)) = true := decide_eq_true c7
      clear c7
      by_cases c8 : (t101 ++ (⟨#[46]⟩ : ByteArray)).size + (t102.extract 1 t102.size).size ≤ 9223372036854775807
      · rw [if_pos c8] at H
        have c8b0 := eq_true c8
        have c8b1 : decide ((t101 ++ (⟨#[46]⟩ : ByteArray)).size + (t102.extract 1 t102.size).size ≤ 9223372036854775807) = true := decide_eq_true c8
        (try (have c8b1s := c8b1; simp only [ByteArray.size_append, ByteArray.size_extract, Nat.min_self, show (ByteArray.mk #[46]).size = 1 from rfl] at c8b1s))
        (try (have c8b1t := c8b1; simp only [ByteArray.size_append, ByteArray.size_extract, Nat.min_self, show (ByteArray.mk #[46]).size = 1 from rfl, Int.natCast_add, Int.cast_ofNat_Int] at c8b1t))
        try have c8b2 : (9223372036854775807 < (t101 ++ (⟨#[46]⟩ : ByteArray)).size + (t102.extract 1 t102.size).size) = False := eq_false (Nat.not_lt.2 c8)
        (try (have c8b2s := c8b2; simp only [ByteArray.size_append, ByteArray.size_extract, Nat.min_self, show (ByteArray.mk #[46]).size = 1 from rfl] at c8b2s))
        (try (have c8b2t := c8b2; simp only [ByteArray.size_append, ByteArray.size_extract, Nat.min_self, show (ByteArray.mk #[46]).size = 1 from rfl, Int.natCast_add, Int.cast_ofNat_Int] at c8b2t))
        have HC9 := Aside0.mk H
        clear H
        go_enter Tryd.func8, Tryd.ntmps8
        go_upto_if 27 with (first | ((with_reducible refine gate_callee (f := 28) rfl ?_); refine goesL_ (some 19) rfl rfl Tryd.func28 (by kernel_rfl) rfl #[.int .i64 (wrap64 (Int.tdiv (Go.bits .and .i64 a0 1125899906842623) 1000))] rfl (by (try simp only [List.map_toArray, List.map_cons, List.map_nil]); first | done | rfl | (simp only [List.length_drop, List.length_take]; rfl)) ?_; (with_reducible refine (stevedorelaw36_digits.calls k (wrap64 (Int.tdiv (Go.bits .and .i64 a0 1125899906842623) 1000)) t101 _ A4.out).mono ?_); rintro e w' ⟨rfl, ⟨nd, rfl⟩⟩; refine ⟨_, rfl, ?_⟩) | ((with_reducible refine gate_callee (f := 28) rfl ?_); refine goesL_ (some 24) rfl rfl Tryd.func28 (by kernel_rfl) rfl #[.int .i64 (wrap64 (1000 + (Int.tmod (Go.bits .and .i64 a0 1125899906842623) 1000)))] rfl (by (try simp only [List.map_toArray, List.map_cons, List.map_nil]); first | done | rfl | (simp only [List.length_drop, List.length_take]; rfl)) ?_; (with_reducible refine (stevedorelaw36_digits.calls k (wrap64 (1000 + (Int.tmod (Go.bits .and .i64 a0 1125899906842623) 1000))) t102 _ A6.out).mono ?_); rintro e w' ⟨rfl, ⟨nd, rfl⟩⟩; refine ⟨_, rfl, ?_⟩))
        (try simp only [Act.put, List.setIfInBounds_toArray, List.set_cons_zero, List.set_cons_succ])
        go_cut [8] (fun v8 wc => ∃ (kq : Nat) (x8_8 : ByteArray), v8 = .string x8_8 ∧ Aside0 (stevedorelaw36_RateBack.j0 kq a2 x8_8 = some r) ∧ Aside0 (kq ≤ k) ∧ Aside0 (Below w.heap.size w wc))
        case first =>
          have H := HC9.out
          clear HC9
          by_cases c10 : a1 = true
          · subst c10
            have H1 : (if 1 + ((t101 ++ (⟨#[46]⟩ : ByteArray)) ++ (t102.extract 1 t102.size)).size ≤ 9223372036854775807 then (stevedorelaw36_RateBack.j0 k a2 ((⟨#[45]⟩ : ByteArray) ++ ((t101 ++ (⟨#[46]⟩ : ByteArray)) ++ (t102.extract 1 t102.size)))) else (none)) = some r := by rw [if_pos rfl] at H; exact H
            clear H
            have H := H1
            clear H1
            by_cases c11 : 1 + ((t101 ++ (⟨#[46]⟩ : ByteArray)) ++ (t102.extract 1 t102.size)).size ≤ 9223372036854775807
            · rw [if_pos c11] at H
              have c11b0 := eq_true c11
              have c11b1 : decide (1 + ((t101 ++ (⟨#[46]⟩ : ByteArray)) ++ (t102.extract 1 t102.size)).size ≤ 9223372036854775807) = true := decide_eq_true c11
              (try (have c11b1s := c11b1; simp only [ByteArray.size_append, ByteArray.size_extract, Nat.min_self, show (ByteArray.mk #[46]).size = 1 from rfl] at c11b1s))
              (try (have c11b1t := c11b1; simp only [ByteArray.size_append, ByteArray.size_extract, Nat.min_self, show (ByteArray.mk #[46]).size = 1 from rfl, Int.natCast_add, Int.cast_ofNat_Int] at c11b1t))
              try have c11b2 : (9223372036854775807 < 1 + ((t101 ++ (⟨#[46]⟩ : ByteArray)) ++ (t102.extract 1 t102.size)).size) = False := eq_false (Nat.not_lt.2 c11)
              (try (have c11b2s := c11b2; simp only [ByteArray.size_append, ByteArray.size_extract, Nat.min_self, show (ByteArray.mk #[46]).size = 1 from rfl] at c11b2s))
              (try (have c11b2t := c11b2; simp only [ByteArray.size_append, ByteArray.size_extract, Nat.min_self, show (ByteArray.mk #[46]).size = 1 from rfl, Int.natCast_add, Int.cast_ofNat_Int] at c11b2t))
              have H' := Aside0.mk H
              clear H
              go_wp2
              go_meet
              case rel => exact ⟨_, ((⟨#[45]⟩ : ByteArray) ++ ((t101 ++ (⟨#[46]⟩ : ByteArray)) ++ (t102.extract 1 t102.size))), (by first | rfl | (simp; done) | (simp [*]; done)), H', ⟨by first | omega | exact Nat.le_refl _⟩, ⟨by repeat (first | (with_reducible first | exact HB.out | apply below_alloc | apply pw_below_drewN | apply below_drew1) | exact HB.out)⟩⟩
            · rw [if_neg c11] at H
              exact absurd H (by simp)
          · replace c10 := Bool.eq_false_iff.mpr c10
            subst c10
            have H1 : (stevedorelaw36_RateBack.j0 k a2 ((t101 ++ (⟨#[46]⟩ : ByteArray)) ++ (t102.extract 1 t102.size))) = some r := by rw [if_neg (show ¬ (false = true) by decide)] at H; exact H
            clear H
            have H := H1
            clear H1
            have H' := Aside0.mk H
            clear H
            go_wp2
            go_meet
            case rel => exact ⟨_, ((t101 ++ (⟨#[46]⟩ : ByteArray)) ++ (t102.extract 1 t102.size)), (by first | rfl | (simp; done) | (simp [*]; done)), H', ⟨by first | omega | exact Nat.le_refl _⟩, ⟨by repeat (first | (with_reducible first | exact HB.out | apply below_alloc | apply pw_below_drewN | apply below_drew1) | exact HB.out)⟩⟩
        case rest =>
          clear HC9
          try clear c1
          try clear c2
          try clear p2
          try clear c5
          try clear c5b0
          try clear c5b1
          try clear c5b2
          try clear p6
          try clear c7
          try clear c7b0
          try clear c7b1
          try clear c8
          try clear c8b0
          try clear c8b1
          try clear c8b2
          try clear c10
          try clear c11
          try clear c11b0
          try clear c11b1
          try clear c11b2
          obtain ⟨kq, x8_8, rfl, HA, HJ8, HB⟩ := hcut
          cases kq with
          | zero => exact absurd HA.out (by simp [stevedorelaw36_RateBack.j0])
          | succ kj8 =>
            have H := HA.out
            clear HA
            simp only [stevedorelaw36_RateBack.j0] at H
            replace H := Option.bind_eq_some_iff.mp H
            obtain ⟨⟨t103, t104⟩, A120, H⟩ := H
            replace H : (if t104 = 0 then ((rate_Text.f kj8 t103).bind fun t105 => (stevedorelaw36_RateBack.j1 kj8 a2 (t105.toList != x8_8.toList))) else (stevedorelaw36_RateBack.j1 kj8 a2 true)) = some r := H
            have A12 := Aside0.mk A120
            clear A120
            have HC13 := Aside0.mk H
            clear H
            go_upto_region 6 with (first | ((with_reducible refine gate_callee (f := 29) rfl ?_); refine goesL_ (some 32) rfl rfl Tryd.func29 (by kernel_rfl) rfl #[.string x8_8] rfl (by (try simp only [List.map_toArray, List.map_cons, List.map_nil]); first | done | rfl | (simp only [List.length_drop, List.length_take]; rfl)) ?_; (with_reducible refine (rate_Parse.calls kj8 x8_8 t103 t104 _ A12.out (Go.Proofs.YtfmfikodnpnblaaDoor.ClkLib.Vars.below HVARS.out (by repeat (first | (with_reducible first | exact HB.out | apply below_alloc | apply pw_below_drewN | apply below_drew1 | refine below_set ?_ (Aside0.out (by assumption))) | exact HB.out)))).mono ?_); rintro e w14 ⟨rfl, hb⟩; refine ⟨_, rfl, ?_⟩; have n0_ := Aside0.mk (below_step (by repeat (first | (with_reducible first | exact HB.out | apply below_alloc | apply pw_below_drewN | apply below_drew1) | exact HB.out)) hb); clear HB; have HB := n0_; clear n0_; (try clear hb); (try clear hb2); (try clear hk); (try clear hi)))
            (try simp only [Act.put, List.setIfInBounds_toArray, List.set_cons_zero, List.set_cons_succ])
            go_cut [42] (fun v42 wc => ∃ (kq : Nat) (x42_12 : Bool), v42 = .bool x42_12 ∧ Aside0 (stevedorelaw36_RateBack.j1 kq a2 x42_12 = some r) ∧ Aside0 (kq ≤ kj8) ∧ Aside0 (Below w.heap.size w wc))
            case first =>
              have H := HC13.out
              clear HC13
              by_cases c15 : t104 = 0
              · rw [if_pos c15] at H
                have c15b0 : (t104 == 0) = true := beq_iff_eq.mpr c15
                have c15b1 : (t104 != 0) = false := bne_eq_false_iff_eq.mpr c15
                clear c15
                (first | rw [c15b0] | (simp only [i64_w, i32_w]; rw [c15b0]) | rw [c15b1] | skip)
                replace H := Option.bind_eq_some_iff.mp H
                obtain ⟨t105, A160, H⟩ := H
                replace H : (stevedorelaw36_RateBack.j1 kj8 a2 (t105.toList != x8_8.toList)) = some r := H
                have A16 := Aside0.mk A160
                clear A160
                have H' := Aside0.mk H
                clear H
                go_wp2_with (first | (go_at_call 30; (with_reducible refine (rate_Text.calls kj8 t103 t105 _ A16.out (Go.Proofs.YtfmfikodnpnblaaDoor.ClkLib.Vars.below HVARS.out (by repeat (first | (with_reducible first | exact HB.out | apply below_alloc | apply pw_below_drewN | apply below_drew1 | refine below_set ?_ (Aside0.out (by assumption))) | exact HB.out)))).mono ?_); rintro e w17 ⟨rfl, hb⟩; have n0_ := Aside0.mk (below_step (by repeat (first | (with_reducible first | exact HB.out | apply below_alloc | apply pw_below_drewN | apply below_drew1) | exact HB.out)) hb); clear HB; have HB := n0_; clear n0_; (try clear hb); (try clear hb2); (try clear hk); (try clear hi)))
                go_meet
                case rel => exact ⟨_, ((t105.toList != x8_8.toList)), (by first | rfl | (simp; done) | (simp [*]; done)), H', ⟨by have := HJ8.out; first | omega | exact Nat.le_refl _⟩, ⟨by repeat (first | (with_reducible first | exact HB.out | apply below_alloc | apply pw_below_drewN | apply below_drew1) | exact HB.out)⟩⟩
              · rw [if_neg c15] at H
                have c15b0 : (t104 == 0) = false := beq_eq_false_iff_ne.mpr c15
                have c15b1 : (t104 != 0) = true := bne_iff_ne.mpr c15
                (first | rw [c15b0] | (simp only [i64_w, i32_w]; rw [c15b0]) | rw [c15b1] | skip)
                have H' := Aside0.mk H
                clear H
                go_wp2
                go_meet
                case rel => exact ⟨_, (true), (by first | rfl | (simp; done) | (simp [*]; done)), H', ⟨by have := HJ8.out; first | omega | exact Nat.le_refl _⟩, ⟨by repeat (first | (with_reducible first | exact HB.out | apply below_alloc | apply pw_below_drewN | apply below_drew1) | exact HB.out)⟩⟩
            case rest =>
              clear HC13
              try clear c1
              try clear c2
              try clear p2
              try clear c5
              try clear c5b0
              try clear c5b1
              try clear c5b2
              try clear p6
              try clear c7
              try clear c7b0
              try clear c7b1
              try clear c8
              try clear c8b0
              try clear c8b1
              try clear c8b2
              try clear c10
              try clear c11
              try clear c11b0
              try clear c11b1
              try clear c11b2
              try clear c15
              try clear c15b0
              try clear c15b1
              try clear p2
              try clear p6
              obtain ⟨kq, x42_12, rfl, HA, HJ12, HB⟩ := hcut
              cases kq with
              | zero => exact absurd HA.out (by simp [stevedorelaw36_RateBack.j1])
              | succ kj12 =>
                have H := HA.out
                clear HA
                simp only [stevedorelaw36_RateBack.j1] at H
                by_cases c18 : x42_12 = true
                · subst c18
                  have H1 : (some false) = some r := by rw [if_pos rfl] at H; exact H
                  clear H
                  have H := H1
                  clear H1
                  obtain rfl := Option.some.inj H
                  go_wp2
                  go_ret
                  exact ⟨by first | rfl | (simp only [show ∀ l : List UInt8, (l != []) = (!l.isEmpty) from fun l => by cases l <;> rfl]; rfl) | (simp [errW_none, errW_some] <;> rfl) | (simp [*, errW_none, errW_some] <;> rfl), by repeat (first | (with_reducible first | exact HB.out | apply below_alloc | apply pw_below_drewN | apply below_drew1) | exact HB.out)⟩
                · replace c18 := Bool.eq_false_iff.mpr c18
                  subst c18
                  have H1 : ((rate_Text.f kj12 a2).bind fun t106 => ((rate_Parse.f kj12 t106).bind fun bt107 => (if (FloatKind.f64.format.order a2 a2 != some .eq) = true then (stevedorelaw36_RateBack.j2 kj12 a2 t106 bt107.1 bt107.2 true) else (if (fvalid .sub a2 a2) = true then (stevedorelaw36_RateBack.j2 kj12 a2 t106 bt107.1 bt107.2 (FloatKind.f64.format.order (fop .sub a2 a2) 0 != some .eq)) else (stevedorelaw36_RateBack.j2 kj12 a2 t106 bt107.1 bt107.2 true))))) = some r := by rw [if_neg (show ¬ (false = true) by decide)] at H; exact H
                  clear H
                  have H := H1
                  clear H1
                  replace H := Option.bind_eq_some_iff.mp H
                  obtain ⟨t106, A190, H⟩ := H
                  replace H : ((rate_Parse.f kj12 t106).bind fun bt107 => (if (FloatKind.f64.format.order a2 a2 != some .eq) = true then (stevedorelaw36_RateBack.j2 kj12 a2 t106 bt107.1 bt107.2 true) else (if (fvalid .sub a2 a2) = true then (stevedorelaw36_RateBack.j2 kj12 a2 t106 bt107.1 bt107.2 (FloatKind.f64.format.order (fop .sub a2 a2) 0 != some .eq)) else (stevedorelaw36_RateBack.j2 kj12 a2 t106 bt107.1 bt107.2 true)))) = some r := H
                  have A19 := Aside0.mk A190
                  clear A190
                  replace H := Option.bind_eq_some_iff.mp H
                  obtain ⟨⟨t107, t108⟩, A200, H⟩ := H
                  replace H : (if (FloatKind.f64.format.order a2 a2 != some .eq) = true then (stevedorelaw36_RateBack.j2 kj12 a2 t106 t107 t108 true) else (if (fvalid .sub a2 a2) = true then (stevedorelaw36_RateBack.j2 kj12 a2 t106 t107 t108 (FloatKind.f64.format.order (fop .sub a2 a2) 0 != some .eq)) else (stevedorelaw36_RateBack.j2 kj12 a2 t106 t107 t108 true))) = some r := H
                  have A20 := Aside0.mk A200
                  clear A200
                  have HC21 := Aside0.mk H
                  clear H
                  go_upto_region 10 with (first | ((with_reducible refine gate_callee (f := 30) rfl ?_); refine goesL_ (some 44) rfl rfl Tryd.func30 (by kernel_rfl) rfl #[.float .f64 a2] rfl (by (try simp only [List.map_toArray, List.map_cons, List.map_nil]); first | done | rfl | (simp only [List.length_drop, List.length_take]; rfl)) ?_; (with_reducible refine (rate_Text.calls kj12 a2 t106 _ A19.out (Go.Proofs.YtfmfikodnpnblaaDoor.ClkLib.Vars.below HVARS.out (by repeat (first | (with_reducible first | exact HB.out | apply below_alloc | apply pw_below_drewN | apply below_drew1 | refine below_set ?_ (Aside0.out (by assumption))) | exact HB.out)))).mono ?_); rintro e w22 ⟨rfl, hb⟩; refine ⟨_, rfl, ?_⟩; have n0_ := Aside0.mk (below_step (by repeat (first | (with_reducible first | exact HB.out | apply below_alloc | apply pw_below_drewN | apply below_drew1) | exact HB.out)) hb); clear HB; have HB := n0_; clear n0_; (try clear hb); (try clear hb2); (try clear hk); (try clear hi)) | ((with_reducible refine gate_callee (f := 29) rfl ?_); refine goesL_ (some 47) rfl rfl Tryd.func29 (by kernel_rfl) rfl #[.string t106] rfl (by (try simp only [List.map_toArray, List.map_cons, List.map_nil]); first | done | rfl | (simp only [List.length_drop, List.length_take]; rfl)) ?_; (with_reducible refine (rate_Parse.calls kj12 t106 t107 t108 _ A20.out (Go.Proofs.YtfmfikodnpnblaaDoor.ClkLib.Vars.below HVARS.out (by repeat (first | (with_reducible first | exact HB.out | apply below_alloc | apply pw_below_drewN | apply below_drew1 | refine below_set ?_ (Aside0.out (by assumption))) | exact HB.out)))).mono ?_); rintro e w23 ⟨rfl, hb⟩; refine ⟨_, rfl, ?_⟩; have n0_ := Aside0.mk (below_step (by repeat (first | (with_reducible first | exact HB.out | apply below_alloc | apply pw_below_drewN | apply below_drew1) | exact HB.out)) hb); clear HB; have HB := n0_; clear n0_; (try clear hb); (try clear hb2); (try clear hk); (try clear hi)))
                  (try simp only [Act.put, List.setIfInBounds_toArray, List.set_cons_zero, List.set_cons_succ])
                  go_cut [58] (fun v58 wc => ∃ (kq : Nat) (x58_20 : Bool), v58 = .bool x58_20 ∧ Aside0 (stevedorelaw36_RateBack.j2 kq a2 t106 t107 t108 x58_20 = some r) ∧ Aside0 (kq ≤ kj12) ∧ Aside0 (Below w.heap.size w wc))
                  case first =>
                    have H := HC21.out
                    clear HC21
                    by_cases c24 : (FloatKind.f64.format.order a2 a2 != some .eq) = true
                    · rw [if_pos c24] at H
                      have c24b0 : (FloatKind.f64.format.order a2 a2 != some .eq) = true := c24
                      (try (have c24b1 : decide (FloatKind.f64.format.order a2 a2 = some .eq) = false := by simpa using c24))
                      (try (have c24b2 : (FloatKind.f64.format.order a2 a2 == some .eq) = false := by simpa using c24))
                      (try (have c24b3 : ¬ (FloatKind.f64.format.order a2 a2 = some .eq) := by simpa using c24))
                      clear c24
                      (first | rw [c24b0] | (simp only [i64_w, i32_w]; rw [c24b0]) | rw [c24b1] | skip)
                      have H' := Aside0.mk H
                      clear H
                      go_wp2
                      go_meet
                      case rel => exact ⟨_, (true), (by first | rfl | (simp; done) | (simp [*]; done)), H', ⟨by have := HJ8.out; have := HJ12.out; first | omega | exact Nat.le_refl _⟩, ⟨by repeat (first | (with_reducible first | exact HB.out | apply below_alloc | apply pw_below_drewN | apply below_drew1) | exact HB.out)⟩⟩
                    · rw [if_neg c24] at H
                      have c24b0 : (FloatKind.f64.format.order a2 a2 != some .eq) = false := by simpa using c24
                      (try (have c24b1 : decide (FloatKind.f64.format.order a2 a2 = some .eq) = true := by simpa using c24))
                      (try (have c24b2 : (FloatKind.f64.format.order a2 a2 == some .eq) = true := by simpa using c24))
                      clear c24
                      (first | rw [c24b0] | (simp only [i64_w, i32_w]; rw [c24b0]) | rw [c24b1] | skip)
                      by_cases c25 : (fvalid .sub a2 a2) = true
                      · rw [if_pos c25] at H
                        have c25b0 := eq_true c25
                        have c25b1 : decide ((fvalid .sub a2 a2) = true) = true := decide_eq_true c25
                        clear c25
                        have H' := Aside0.mk H
                        clear H
                        go_wp2
                        go_meet
                        case rel => exact ⟨_, ((FloatKind.f64.format.order (fop .sub a2 a2) 0 != some .eq)), (by first | rfl | (simp; done) | (simp [*]; done)), H', ⟨by have := HJ8.out; have := HJ12.out; first | omega | exact Nat.le_refl _⟩, ⟨by repeat (first | (with_reducible first | exact HB.out | apply below_alloc | apply pw_below_drewN | apply below_drew1) | exact HB.out)⟩⟩
                      · rw [if_neg c25] at H
                        have hnv_ : fvalid .sub a2 a2 = false := by simpa using c25
                        clear c25
                        have H' := Aside0.mk H
                        clear H
                        go_wp2
                        go_meet
                        case rel => exact ⟨_, (true), (by first | rfl | (simp; done) | (simp [*]; done)), H', ⟨by have := HJ8.out; have := HJ12.out; first | omega | exact Nat.le_refl _⟩, ⟨by repeat (first | (with_reducible first | exact HB.out | apply below_alloc | apply pw_below_drewN | apply below_drew1) | exact HB.out)⟩⟩
                  case rest =>
                    clear HC21
                    try clear c1
                    try clear c2
                    try clear p2
                    try clear c3
                    try clear c5
                    try clear c5b0
                    try clear c5b1
                    try clear c5b2
                    try clear p6
                    try clear c7
                    try clear c7b0
                    try clear c7b1
                    try clear c8
                    try clear c8b0
                    try clear c8b1
                    try clear c8b2
                    try clear c10
                    try clear c11
                    try clear c11b0
                    try clear c11b1
                    try clear c11b2
                    try clear c15
                    try clear c15b0
                    try clear c15b1
                    try clear c18
                    try clear c24
                    try clear c24b0
                    try clear c24b1
                    try clear c24b2
                    try clear c25
                    try clear c25b0
                    try clear c25b1
                    try clear p2
                    try clear p6
                    obtain ⟨kq, x58_20, rfl, HA, HJ20, HB⟩ := hcut
                    cases kq with
                    | zero => exact absurd HA.out (by simp [stevedorelaw36_RateBack.j2])
                    | succ kj20 =>
                      have H := HA.out
                      clear HA
                      simp only [stevedorelaw36_RateBack.j2] at H
                      by_cases c26 : x58_20 = true
                      · subst c26
                        have H1 : ((stevedorelaw36_told.f).bind fun t109 => (if t109 = true then (if t108 = 0 then ((stevedoreref35_SameFloat.f a2 t107).bind fun t110 => (some t110)) else (some false)) else (some false))) = some r := by rw [if_pos rfl] at H; exact H
                        clear H
                        have H := H1
                        clear H1
                        replace H := Option.bind_eq_some_iff.mp H
                        obtain ⟨t109, A270, H⟩ := H
                        replace H : (if t109 = true then (if t108 = 0 then ((stevedoreref35_SameFloat.f a2 t107).bind fun t110 => (some t110)) else (some false)) else (some false)) = some r := H
                        have A27 := Aside0.mk A270
                        clear A270
                        by_cases c28 : t109 = true
                        · subst c28
                          have H1 : (if t108 = 0 then ((stevedoreref35_SameFloat.f a2 t107).bind fun t110 => (some t110)) else (some false)) = some r := by rw [if_pos rfl] at H; exact H
                          clear H
                          have H := H1
                          clear H1
                          by_cases c29 : t108 = 0
                          · rw [if_pos c29] at H
                            have c29b0 : (t108 == 0) = true := beq_iff_eq.mpr c29
                            have c29b1 : (t108 != 0) = false := bne_eq_false_iff_eq.mpr c29
                            clear c29
                            replace H := Option.bind_eq_some_iff.mp H
                            obtain ⟨t110, A300, H⟩ := H
                            replace H : (some t110) = some r := H
                            have A30 := Aside0.mk A300
                            clear A300
                            obtain rfl := Option.some.inj H
                            go_wp2_with (first | ((with_reducible refine gate_callee (f := 15) rfl ?_); refine goesL_ (some 59) rfl rfl Tryd.func15 (by kernel_rfl) rfl #[] rfl (by (try simp only [List.map_toArray, List.map_cons, List.map_nil]); first | done | rfl | (simp only [List.length_drop, List.length_take]; rfl)) ?_; (with_reducible refine (stevedorelaw36_told.calls  true _ A27.out (Go.Proofs.YtfmfikodnpnblaaDoor.ClkLib.Vars.below HVARS.out (by repeat (first | (with_reducible first | exact HB.out | apply below_alloc | apply pw_below_drewN | apply below_drew1 | refine below_set ?_ (Aside0.out (by assumption))) | exact HB.out)))).mono ?_); rintro e w31 ⟨rfl, hb⟩; refine ⟨_, rfl, ?_⟩; have n0_ := Aside0.mk (below_step (by repeat (first | (with_reducible first | exact HB.out | apply below_alloc | apply pw_below_drewN | apply below_drew1) | exact HB.out)) hb); clear HB; have HB := n0_; clear n0_; (try clear hb); (try clear hb2); (try clear hk); (try clear hi)) | (go_at_call 27; (with_reducible refine (stevedoreref35_SameFloat.calls a2 t107 t110 _ A30.out).mono ?_); rintro e w' ⟨rfl, ⟨nd, rfl⟩⟩))
                            go_ret
                            exact ⟨by first | rfl | (simp only [show ∀ l : List UInt8, (l != []) = (!l.isEmpty) from fun l => by cases l <;> rfl]; rfl) | (simp [errW_none, errW_some] <;> rfl) | (simp [*, errW_none, errW_some] <;> rfl), by repeat (first | (with_reducible first | exact HB.out | apply below_alloc | apply pw_below_drewN | apply below_drew1) | exact HB.out)⟩
                          · rw [if_neg c29] at H
                            have c29b0 : (t108 == 0) = false := beq_eq_false_iff_ne.mpr c29
                            have c29b1 : (t108 != 0) = true := bne_iff_ne.mpr c29
                            obtain rfl := Option.some.inj H
                            go_wp2_with (first | ((with_reducible refine gate_callee (f := 15) rfl ?_); refine goesL_ (some 59) rfl rfl Tryd.func15 (by kernel_rfl) rfl #[] rfl (by (try simp only [List.map_toArray, List.map_cons, List.map_nil]); first | done | rfl | (simp only [List.length_drop, List.length_take]; rfl)) ?_; (with_reducible refine (stevedorelaw36_told.calls  true _ A27.out (Go.Proofs.YtfmfikodnpnblaaDoor.ClkLib.Vars.below HVARS.out (by repeat (first | (with_reducible first | exact HB.out | apply below_alloc | apply pw_below_drewN | apply below_drew1 | refine below_set ?_ (Aside0.out (by assumption))) | exact HB.out)))).mono ?_); rintro e w32 ⟨rfl, hb⟩; refine ⟨_, rfl, ?_⟩; have n0_ := Aside0.mk (below_step (by repeat (first | (with_reducible first | exact HB.out | apply below_alloc | apply pw_below_drewN | apply below_drew1) | exact HB.out)) hb); clear HB; have HB := n0_; clear n0_; (try clear hb); (try clear hb2); (try clear hk); (try clear hi)))
                            go_ret
                            exact ⟨by first | rfl | (simp only [show ∀ l : List UInt8, (l != []) = (!l.isEmpty) from fun l => by cases l <;> rfl]; rfl) | (simp [errW_none, errW_some] <;> rfl) | (simp [*, errW_none, errW_some] <;> rfl), by repeat (first | (with_reducible first | exact HB.out | apply below_alloc | apply pw_below_drewN | apply below_drew1) | exact HB.out)⟩
                        · replace c28 := Bool.eq_false_iff.mpr c28
                          subst c28
                          have H1 : (some false) = some r := by rw [if_neg (show ¬ (false = true) by decide)] at H; exact H
                          clear H
                          have H := H1
                          clear H1
                          obtain rfl := Option.some.inj H
                          go_wp2_with (first | ((with_reducible refine gate_callee (f := 15) rfl ?_); refine goesL_ (some 59) rfl rfl Tryd.func15 (by kernel_rfl) rfl #[] rfl (by (try simp only [List.map_toArray, List.map_cons, List.map_nil]); first | done | rfl | (simp only [List.length_drop, List.length_take]; rfl)) ?_; (with_reducible refine (stevedorelaw36_told.calls  false _ A27.out (Go.Proofs.YtfmfikodnpnblaaDoor.ClkLib.Vars.below HVARS.out (by repeat (first | (with_reducible first | exact HB.out | apply below_alloc | apply pw_below_drewN | apply below_drew1 | refine below_set ?_ (Aside0.out (by assumption))) | exact HB.out)))).mono ?_); rintro e w33 ⟨rfl, hb⟩; refine ⟨_, rfl, ?_⟩; have n0_ := Aside0.mk (below_step (by repeat (first | (with_reducible first | exact HB.out | apply below_alloc | apply pw_below_drewN | apply below_drew1) | exact HB.out)) hb); clear HB; have HB := n0_; clear n0_; (try clear hb); (try clear hb2); (try clear hk); (try clear hi)))
                          go_ret
                          exact ⟨by first | rfl | (simp only [show ∀ l : List UInt8, (l != []) = (!l.isEmpty) from fun l => by cases l <;> rfl]; rfl) | (simp [errW_none, errW_some] <;> rfl) | (simp [*, errW_none, errW_some] <;> rfl), by repeat (first | (with_reducible first | exact HB.out | apply below_alloc | apply pw_below_drewN | apply below_drew1) | exact HB.out)⟩
                      · replace c26 := Bool.eq_false_iff.mpr c26
                        subst c26
                        have H1 : (if (FloatKind.f64.format.order a2 4787326403894837248 == some .gt) = true then (stevedorelaw36_RateBack.j3 kj20 a2 t106 t107 t108 true) else (stevedorelaw36_RateBack.j3 kj20 a2 t106 t107 t108 (FloatKind.f64.format.order a2 14010698440749613056 == some .lt))) = some r := by rw [if_neg (show ¬ (false = true) by decide)] at H; exact H
                        clear H
                        have H := H1
                        clear H1
                        have HC34 := Aside0.mk H
                        clear H
                        go_upto_region 12 with (fail)
                        go_cut [74] (fun v74 wc => ∃ (kq : Nat) (x74_33 : Bool), v74 = .bool x74_33 ∧ Aside0 (stevedorelaw36_RateBack.j3 kq a2 t106 t107 t108 x74_33 = some r) ∧ Aside0 (kq ≤ kj20) ∧ Aside0 (Below w.heap.size w wc))
                        case first =>
                          have H := HC34.out
                          clear HC34
                          by_cases c35 : (FloatKind.f64.format.order a2 4787326403894837248 == some .gt) = true
                          · rw [if_pos c35] at H
                            have c35b0 : (FloatKind.f64.format.order a2 4787326403894837248 == some .gt) = true := c35
                            (try (have c35b1 : decide (FloatKind.f64.format.order a2 4787326403894837248 = some .gt) = true := by simpa using c35))
                            (try (have c35b2 : (FloatKind.f64.format.order a2 4787326403894837248 == some .gt) = true := by simpa using c35))
                            clear c35
                            (first | rw [c35b0] | (simp only [i64_w, i32_w]; rw [c35b0]) | rw [c35b1] | skip)
                            have H' := Aside0.mk H
                            clear H
                            go_wp2
                            go_meet
                            case rel => exact ⟨_, (true), (by first | rfl | (simp; done) | (simp [*]; done)), H', ⟨by have := HJ8.out; have := HJ12.out; have := HJ20.out; first | omega | exact Nat.le_refl _⟩, ⟨by repeat (first | (with_reducible first | exact HB.out | apply below_alloc | apply pw_below_drewN | apply below_drew1) | exact HB.out)⟩⟩
                          · rw [if_neg c35] at H
                            have c35b0 : (FloatKind.f64.format.order a2 4787326403894837248 == some .gt) = false := by simpa using c35
                            (try (have c35b1 : decide (FloatKind.f64.format.order a2 4787326403894837248 = some .gt) = false := by simpa using c35))
                            (try (have c35b2 : (FloatKind.f64.format.order a2 4787326403894837248 == some .gt) = false := by simpa using c35))
                            (try (have c35b3 : ¬ (FloatKind.f64.format.order a2 4787326403894837248 = some .gt) := by simpa using c35))
                            clear c35
                            (first | rw [c35b0] | (simp only [i64_w, i32_w]; rw [c35b0]) | rw [c35b1] | skip)
                            have H' := Aside0.mk H
                            clear H
                            go_wp2
                            go_meet
                            case rel => exact ⟨_, ((FloatKind.f64.format.order a2 14010698440749613056 == some .lt)), (by first | rfl | (simp; done) | (simp [*]; done)), H', ⟨by have := HJ8.out; have := HJ12.out; have := HJ20.out; first | omega | exact Nat.le_refl _⟩, ⟨by repeat (first | (with_reducible first | exact HB.out | apply below_alloc | apply pw_below_drewN | apply below_drew1) | exact HB.out)⟩⟩
                        case rest =>
                          clear HC34
                          try clear c1
                          try clear c2
                          try clear p2
                          try clear c3
                          try clear c5
                          try clear c5b0
                          try clear c5b1
                          try clear c5b2
                          try clear p6
                          try clear c7
                          try clear c7b0
                          try clear c7b1
                          try clear c8
                          try clear c8b0
                          try clear c8b1
                          try clear c8b2
                          try clear c10
                          try clear c11
                          try clear c11b0
                          try clear c11b1
                          try clear c11b2
                          try clear c15
                          try clear c15b0
                          try clear c15b1
                          try clear c18
                          try clear c24
                          try clear c24b0
                          try clear c24b1
                          try clear c24b2
                          try clear c25
                          try clear c25b0
                          try clear c25b1
                          try clear c26
                          try clear c28
                          try clear c29
                          try clear c29b0
                          try clear c29b1
                          try clear c30
                          try clear c35
                          try clear c35b0
                          try clear c35b1
                          try clear c35b2
                          try clear p2
                          try clear p6
                          obtain ⟨kq, x74_33, rfl, HA, HJ33, HB⟩ := hcut
                          cases kq with
                          | zero => exact absurd HA.out (by simp [stevedorelaw36_RateBack.j3])
                          | succ kj33 =>
                            have H := HA.out
                            clear HA
                            simp only [stevedorelaw36_RateBack.j3] at H
                            by_cases c36 : x74_33 = true
                            · subst c36
                              have H1 : ((stevedorelaw36_told.f).bind fun t111 => (some t111)) = some r := by rw [if_pos rfl] at H; exact H
                              clear H
                              have H := H1
                              clear H1
                              replace H := Option.bind_eq_some_iff.mp H
                              obtain ⟨t111, A370, H⟩ := H
                              replace H : (some t111) = some r := H
                              have A37 := Aside0.mk A370
                              clear A370
                              obtain rfl := Option.some.inj H
                              go_wp2_with (first | ((with_reducible refine gate_callee (f := 15) rfl ?_); refine goesL_ (some 75) rfl rfl Tryd.func15 (by kernel_rfl) rfl #[] rfl (by (try simp only [List.map_toArray, List.map_cons, List.map_nil]); first | done | rfl | (simp only [List.length_drop, List.length_take]; rfl)) ?_; (with_reducible refine (stevedorelaw36_told.calls  t111 _ A37.out (Go.Proofs.YtfmfikodnpnblaaDoor.ClkLib.Vars.below HVARS.out (by repeat (first | (with_reducible first | exact HB.out | apply below_alloc | apply pw_below_drewN | apply below_drew1 | refine below_set ?_ (Aside0.out (by assumption))) | exact HB.out)))).mono ?_); rintro e w38 ⟨rfl, hb⟩; refine ⟨_, rfl, ?_⟩; have n0_ := Aside0.mk (below_step (by repeat (first | (with_reducible first | exact HB.out | apply below_alloc | apply pw_below_drewN | apply below_drew1) | exact HB.out)) hb); clear HB; have HB := n0_; clear n0_; (try clear hb); (try clear hb2); (try clear hk); (try clear hi)))
                              go_ret
                              exact ⟨by first | rfl | (simp only [show ∀ l : List UInt8, (l != []) = (!l.isEmpty) from fun l => by cases l <;> rfl]; rfl) | (simp [errW_none, errW_some] <;> rfl) | (simp [*, errW_none, errW_some] <;> rfl), by repeat (first | (with_reducible first | exact HB.out | apply below_alloc | apply pw_below_drewN | apply below_drew1) | exact HB.out)⟩
                            · replace c36 := Bool.eq_false_iff.mpr c36
                              subst c36
                              have H1 : (if (fvalid .sub t107 a2) = true then ((stevedorelaw36_told.f).bind fun t112 => (if t112 = true then (if t108 = 0 then ((rate_Text.f kj33 t107).bind fun t113 => (if t113.toList = t106.toList then (if (FloatKind.f64.format.order (fop .sub t107 a2) 4562254508917369340 == some .lt || FloatKind.f64.format.order (fop .sub t107 a2) 4562254508917369340 == some .eq) = true then (if (FloatKind.f64.format.order (fop .sub t107 a2) 13785626545772145148 == some .gt || FloatKind.f64.format.order (fop .sub t107 a2) 13785626545772145148 == some .eq) = true then (if (FloatKind.f64.format.order a2 0 != some .eq) = true then (some true) else ((stevedoreref35_SameFloat.f a2 t107).bind fun t114 => (some t114))) else (some false)) else (some false)) else (some false))) else (some false)) else (some false))) else (none)) = some r := by rw [if_neg (show ¬ (false = true) by decide)] at H; exact H
                              clear H
                              have H := H1
                              clear H1
                              by_cases c39 : (fvalid .sub t107 a2) = true
                              · rw [if_pos c39] at H
                                have c39b0 := eq_true c39
                                have c39b1 : decide ((fvalid .sub t107 a2) = true) = true := decide_eq_true c39
                                clear c39
                                replace H := Option.bind_eq_some_iff.mp H
                                obtain ⟨t112, A400, H⟩ := H
                                replace H : (if t112 = true then (if t108 = 0 then ((rate_Text.f kj33 t107).bind fun t113 => (if t113.toList = t106.toList then (if (FloatKind.f64.format.order (fop .sub t107 a2) 4562254508917369340 == some .lt || FloatKind.f64.format.order (fop .sub t107 a2) 4562254508917369340 == some .eq) = true then (if (FloatKind.f64.format.order (fop .sub t107 a2) 13785626545772145148 == some .gt || FloatKind.f64.format.order (fop .sub t107 a2) 13785626545772145148 == some .eq) = true then (if (FloatKind.f64.format.order a2 0 != some .eq) = true then (some true) else ((stevedoreref35_SameFloat.f a2 t107).bind fun t114 => (some t114))) else (some false)) else (some false)) else (some false))) else (some false)) else (some false)) = some r := H
                                have A40 := Aside0.mk A400
                                clear A400
                                by_cases c41 : t112 = true
                                · subst c41
                                  have H1 : (if t108 = 0 then ((rate_Text.f kj33 t107).bind fun t113 => (if t113.toList = t106.toList then (if (FloatKind.f64.format.order (fop .sub t107 a2) 4562254508917369340 == some .lt || FloatKind.f64.format.order (fop .sub t107 a2) 4562254508917369340 == some .eq) = true then (if (FloatKind.f64.format.order (fop .sub t107 a2) 13785626545772145148 == some .gt || FloatKind.f64.format.order (fop .sub t107 a2) 13785626545772145148 == some .eq) = true then (if (FloatKind.f64.format.order a2 0 != some .eq) = true then (some true) else ((stevedoreref35_SameFloat.f a2 t107).bind fun t114 => (some t114))) else (some false)) else (some false)) else (some false))) else (some false)) = some r := by rw [if_pos rfl] at H; exact H
                                  clear H
                                  have H := H1
                                  clear H1
                                  by_cases c42 : t108 = 0
                                  · rw [if_pos c42] at H
                                    have c42b0 : (t108 == 0) = true := beq_iff_eq.mpr c42
                                    have c42b1 : (t108 != 0) = false := bne_eq_false_iff_eq.mpr c42
                                    clear c42
                                    replace H := Option.bind_eq_some_iff.mp H
                                    obtain ⟨t113, A430, H⟩ := H
                                    replace H : (if t113.toList = t106.toList then (if (FloatKind.f64.format.order (fop .sub t107 a2) 4562254508917369340 == some .lt || FloatKind.f64.format.order (fop .sub t107 a2) 4562254508917369340 == some .eq) = true then (if (FloatKind.f64.format.order (fop .sub t107 a2) 13785626545772145148 == some .gt || FloatKind.f64.format.order (fop .sub t107 a2) 13785626545772145148 == some .eq) = true then (if (FloatKind.f64.format.order a2 0 != some .eq) = true then (some true) else ((stevedoreref35_SameFloat.f a2 t107).bind fun t114 => (some t114))) else (some false)) else (some false)) else (some false)) = some r := H
                                    have A43 := Aside0.mk A430
                                    clear A430
                                    by_cases c44 : t113.toList = t106.toList
                                    · rw [if_pos c44] at H
                                      have c44b0 : (t113.toList == t106.toList) = true := beq_iff_eq.mpr c44
                                      have c44b1 : (t113.toList != t106.toList) = false := bne_eq_false_iff_eq.mpr c44
                                      clear c44
                                      by_cases c45 : (FloatKind.f64.format.order (fop .sub t107 a2) 4562254508917369340 == some .lt || FloatKind.f64.format.order (fop .sub t107 a2) 4562254508917369340 == some .eq) = true
                                      · rw [if_pos c45] at H
                                        have c45b0 : (FloatKind.f64.format.order (fop .sub t107 a2) 4562254508917369340 == some .lt || FloatKind.f64.format.order (fop .sub t107 a2) 4562254508917369340 == some .eq) = true := c45
                                        have c45b7 : (!(FloatKind.f64.format.order (fop .sub t107 a2) 4562254508917369340 == some .lt) && !(FloatKind.f64.format.order (fop .sub t107 a2) 4562254508917369340 == some .eq)) = false := by rw [← Bool.not_or, c45b0]; rfl
                                        (try (have c45b1 : decide (FloatKind.f64.format.order (fop .sub t107 a2) 4562254508917369340 = some .lt || FloatKind.f64.format.order (fop .sub t107 a2) 4562254508917369340 == some .eq) = true := by simpa using c45))
                                        (try (have c45b2 : (FloatKind.f64.format.order (fop .sub t107 a2) 4562254508917369340 == some .lt || FloatKind.f64.format.order (fop .sub t107 a2) 4562254508917369340 == some .eq) = true := by simpa using c45))
                                        clear c45
                                        by_cases c46 : (FloatKind.f64.format.order (fop .sub t107 a2) 13785626545772145148 == some .gt || FloatKind.f64.format.order (fop .sub t107 a2) 13785626545772145148 == some .eq) = true
                                        · rw [if_pos c46] at H
                                          have c46b0 : (FloatKind.f64.format.order (fop .sub t107 a2) 13785626545772145148 == some .gt || FloatKind.f64.format.order (fop .sub t107 a2) 13785626545772145148 == some .eq) = true := c46
                                          have c46b7 : (!(FloatKind.f64.format.order (fop .sub t107 a2) 13785626545772145148 == some .gt) && !(FloatKind.f64.format.order (fop .sub t107 a2) 13785626545772145148 == some .eq)) = false := by rw [← Bool.not_or, c46b0]; rfl
                                          (try (have c46b1 : decide (FloatKind.f64.format.order (fop .sub t107 a2) 13785626545772145148 = some .gt || FloatKind.f64.format.order (fop .sub t107 a2) 13785626545772145148 == some .eq) = true := by simpa using c46))
                                          (try (have c46b2 : (FloatKind.f64.format.order (fop .sub t107 a2) 13785626545772145148 == some .gt || FloatKind.f64.format.order (fop .sub t107 a2) 13785626545772145148 == some .eq) = true := by simpa using c46))
                                          clear c46
                                          by_cases c47 : (FloatKind.f64.format.order a2 0 != some .eq) = true
                                          · rw [if_pos c47] at H
                                            have c47b0 : (FloatKind.f64.format.order a2 0 != some .eq) = true := c47
                                            (try (have c47b1 : decide (FloatKind.f64.format.order a2 0 = some .eq) = false := by simpa using c47))
                                            (try (have c47b2 : (FloatKind.f64.format.order a2 0 == some .eq) = false := by simpa using c47))
                                            (try (have c47b3 : ¬ (FloatKind.f64.format.order a2 0 = some .eq) := by simpa using c47))
                                            clear c47
                                            obtain rfl := Option.some.inj H
                                            go_wp2_with (first | ((with_reducible refine gate_callee (f := 15) rfl ?_); refine goesL_ (some 79) rfl rfl Tryd.func15 (by kernel_rfl) rfl #[] rfl (by (try simp only [List.map_toArray, List.map_cons, List.map_nil]); first | done | rfl | (simp only [List.length_drop, List.length_take]; rfl)) ?_; (with_reducible refine (stevedorelaw36_told.calls  true _ A40.out (Go.Proofs.YtfmfikodnpnblaaDoor.ClkLib.Vars.below HVARS.out (by repeat (first | (with_reducible first | exact HB.out | apply below_alloc | apply pw_below_drewN | apply below_drew1 | refine below_set ?_ (Aside0.out (by assumption))) | exact HB.out)))).mono ?_); rintro e w48 ⟨rfl, hb⟩; refine ⟨_, rfl, ?_⟩; have n0_ := Aside0.mk (below_step (by repeat (first | (with_reducible first | exact HB.out | apply below_alloc | apply pw_below_drewN | apply below_drew1) | exact HB.out)) hb); clear HB; have HB := n0_; clear n0_; (try clear hb); (try clear hb2); (try clear hk); (try clear hi)) | (go_at_call 30; (with_reducible refine (rate_Text.calls kj33 t107 t113 _ A43.out (Go.Proofs.YtfmfikodnpnblaaDoor.ClkLib.Vars.below HVARS.out (by repeat (first | (with_reducible first | exact HB.out | apply below_alloc | apply pw_below_drewN | apply below_drew1 | refine below_set ?_ (Aside0.out (by assumption))) | exact HB.out)))).mono ?_); rintro e w49 ⟨rfl, hb⟩; have n0_ := Aside0.mk (below_step (by repeat (first | (with_reducible first | exact HB.out | apply below_alloc | apply pw_below_drewN | apply below_drew1) | exact HB.out)) hb); clear HB; have HB := n0_; clear n0_; (try clear hb); (try clear hb2); (try clear hk); (try clear hi)))
                                            go_ret
                                            exact ⟨by first | rfl | (simp only [show ∀ l : List UInt8, (l != []) = (!l.isEmpty) from fun l => by cases l <;> rfl]; rfl) | (simp [errW_none, errW_some] <;> rfl) | (simp [*, errW_none, errW_some] <;> rfl), by repeat (first | (with_reducible first | exact HB.out | apply below_alloc | apply pw_below_drewN | apply below_drew1) | exact HB.out)⟩
                                          · rw [if_neg c47] at H
                                            have c47b0 : (FloatKind.f64.format.order a2 0 != some .eq) = false := by simpa using c47
                                            (try (have c47b1 : decide (FloatKind.f64.format.order a2 0 = some .eq) = true := by simpa using c47))
                                            (try (have c47b2 : (FloatKind.f64.format.order a2 0 == some .eq) = true := by simpa using c47))
                                            clear c47
                                            replace H := Option.bind_eq_some_iff.mp H
                                            obtain ⟨t114, A500, H⟩ := H
                                            replace H : (some t114) = some r := H
                                            have A50 := Aside0.mk A500
                                            clear A500
                                            obtain rfl := Option.some.inj H
                                            go_wp2_with (first | ((with_reducible refine gate_callee (f := 15) rfl ?_); refine goesL_ (some 79) rfl rfl Tryd.func15 (by kernel_rfl) rfl #[] rfl (by (try simp only [List.map_toArray, List.map_cons, List.map_nil]); first | done | rfl | (simp only [List.length_drop, List.length_take]; rfl)) ?_; (with_reducible refine (stevedorelaw36_told.calls  true _ A40.out (Go.Proofs.YtfmfikodnpnblaaDoor.ClkLib.Vars.below HVARS.out (by repeat (first | (with_reducible first | exact HB.out | apply below_alloc | apply pw_below_drewN | apply below_drew1 | refine below_set ?_ (Aside0.out (by assumption))) | exact HB.out)))).mono ?_); rintro e w51 ⟨rfl, hb⟩; refine ⟨_, rfl, ?_⟩; have n0_ := Aside0.mk (below_step (by repeat (first | (with_reducible first | exact HB.out | apply below_alloc | apply pw_below_drewN | apply below_drew1) | exact HB.out)) hb); clear HB; have HB := n0_; clear n0_; (try clear hb); (try clear hb2); (try clear hk); (try clear hi)) | (go_at_call 30; (with_reducible refine (rate_Text.calls kj33 t107 t113 _ A43.out (Go.Proofs.YtfmfikodnpnblaaDoor.ClkLib.Vars.below HVARS.out (by repeat (first | (with_reducible first | exact HB.out | apply below_alloc | apply pw_below_drewN | apply below_drew1 | refine below_set ?_ (Aside0.out (by assumption))) | exact HB.out)))).mono ?_); rintro e w52 ⟨rfl, hb⟩; have n0_ := Aside0.mk (below_step (by repeat (first | (with_reducible first | exact HB.out | apply below_alloc | apply pw_below_drewN | apply below_drew1) | exact HB.out)) hb); clear HB; have HB := n0_; clear n0_; (try clear hb); (try clear hb2); (try clear hk); (try clear hi)) | (go_at_call 27; (with_reducible refine (stevedoreref35_SameFloat.calls a2 t107 t114 _ A50.out).mono ?_); rintro e w' ⟨rfl, ⟨nd, rfl⟩⟩))
                                            go_ret
                                            exact ⟨by first | rfl | (simp only [show ∀ l : List UInt8, (l != []) = (!l.isEmpty) from fun l => by cases l <;> rfl]; rfl) | (simp [errW_none, errW_some] <;> rfl) | (simp [*, errW_none, errW_some] <;> rfl), by repeat (first | (with_reducible first | exact HB.out | apply below_alloc | apply pw_below_drewN | apply below_drew1) | exact HB.out)⟩
                                        · rw [if_neg c46] at H
                                          have c46b0 : (FloatKind.f64.format.order (fop .sub t107 a2) 13785626545772145148 == some .gt || FloatKind.f64.format.order (fop .sub t107 a2) 13785626545772145148 == some .eq) = false := by simpa using c46
                                          have c46b7 : (!(FloatKind.f64.format.order (fop .sub t107 a2) 13785626545772145148 == some .gt) && !(FloatKind.f64.format.order (fop .sub t107 a2) 13785626545772145148 == some .eq)) = true := by rw [← Bool.not_or, c46b0]; rfl
                                          (try (have c46b1 : decide (FloatKind.f64.format.order (fop .sub t107 a2) 13785626545772145148 = some .gt || FloatKind.f64.format.order (fop .sub t107 a2) 13785626545772145148 == some .eq) = false := by simpa using c46))
                                          (try (have c46b2 : (FloatKind.f64.format.order (fop .sub t107 a2) 13785626545772145148 == some .gt || FloatKind.f64.format.order (fop .sub t107 a2) 13785626545772145148 == some .eq) = false := by simpa using c46))
                                          (try (have c46b3 : ¬ (FloatKind.f64.format.order (fop .sub t107 a2) 13785626545772145148 = some .gt || FloatKind.f64.format.order (fop .sub t107 a2) 13785626545772145148 == some .eq) := by simpa using c46))
                                          clear c46
                                          obtain rfl := Option.some.inj H
                                          go_wp2_with (first | ((with_reducible refine gate_callee (f := 15) rfl ?_); refine goesL_ (some 79) rfl rfl Tryd.func15 (by kernel_rfl) rfl #[] rfl (by (try simp only [List.map_toArray, List.map_cons, List.map_nil]); first | done | rfl | (simp only [List.length_drop, List.length_take]; rfl)) ?_; (with_reducible refine (stevedorelaw36_told.calls  true _ A40.out (Go.Proofs.YtfmfikodnpnblaaDoor.ClkLib.Vars.below HVARS.out (by repeat (first | (with_reducible first | exact HB.out | apply below_alloc | apply pw_below_drewN | apply below_drew1 | refine below_set ?_ (Aside0.out (by assumption))) | exact HB.out)))).mono ?_); rintro e w53 ⟨rfl, hb⟩; refine ⟨_, rfl, ?_⟩; have n0_ := Aside0.mk (below_step (by repeat (first | (with_reducible first | exact HB.out | apply below_alloc | apply pw_below_drewN | apply below_drew1) | exact HB.out)) hb); clear HB; have HB := n0_; clear n0_; (try clear hb); (try clear hb2); (try clear hk); (try clear hi)) | (go_at_call 30; (with_reducible refine (rate_Text.calls kj33 t107 t113 _ A43.out (Go.Proofs.YtfmfikodnpnblaaDoor.ClkLib.Vars.below HVARS.out (by repeat (first | (with_reducible first | exact HB.out | apply below_alloc | apply pw_below_drewN | apply below_drew1 | refine below_set ?_ (Aside0.out (by assumption))) | exact HB.out)))).mono ?_); rintro e w54 ⟨rfl, hb⟩; have n0_ := Aside0.mk (below_step (by repeat (first | (with_reducible first | exact HB.out | apply below_alloc | apply pw_below_drewN | apply below_drew1) | exact HB.out)) hb); clear HB; have HB := n0_; clear n0_; (try clear hb); (try clear hb2); (try clear hk); (try clear hi)))
                                          go_ret
                                          exact ⟨by first | rfl | (simp only [show ∀ l : List UInt8, (l != []) = (!l.isEmpty) from fun l => by cases l <;> rfl]; rfl) | (simp [errW_none, errW_some] <;> rfl) | (simp [*, errW_none, errW_some] <;> rfl), by repeat (first | (with_reducible first | exact HB.out | apply below_alloc | apply pw_below_drewN | apply below_drew1) | exact HB.out)⟩
                                      · rw [if_neg c45] at H
                                        have c45b0 : (FloatKind.f64.format.order (fop .sub t107 a2) 4562254508917369340 == some .lt || FloatKind.f64.format.order (fop .sub t107 a2) 4562254508917369340 == some .eq) = false := by simpa using c45
                                        have c45b7 : (!(FloatKind.f64.format.order (fop .sub t107 a2) 4562254508917369340 == some .lt) && !(FloatKind.f64.format.order (fop .sub t107 a2) 4562254508917369340 == some .eq)) = true := by rw [← Bool.not_or, c45b0]; rfl
                                        (try (have c45b1 : decide (FloatKind.f64.format.order (fop .sub t107 a2) 4562254508917369340 = some .lt || FloatKind.f64.format.order (fop .sub t107 a2) 4562254508917369340 == some .eq) = false := by simpa using c45))
                                        (try (have c45b2 : (FloatKind.f64.format.order (fop .sub t107 a2) 4562254508917369340 == some .lt || FloatKind.f64.format.order (fop .sub t107 a2) 4562254508917369340 == some .eq) = false := by simpa using c45))
                                        (try (have c45b3 : ¬ (FloatKind.f64.format.order (fop .sub t107 a2) 4562254508917369340 = some .lt || FloatKind.f64.format.order (fop .sub t107 a2) 4562254508917369340 == some .eq) := by simpa using c45))
                                        clear c45
                                        obtain rfl := Option.some.inj H
                                        go_wp2_with (first | ((with_reducible refine gate_callee (f := 15) rfl ?_); refine goesL_ (some 79) rfl rfl Tryd.func15 (by kernel_rfl) rfl #[] rfl (by (try simp only [List.map_toArray, List.map_cons, List.map_nil]); first | done | rfl | (simp only [List.length_drop, List.length_take]; rfl)) ?_; (with_reducible refine (stevedorelaw36_told.calls  true _ A40.out (Go.Proofs.YtfmfikodnpnblaaDoor.ClkLib.Vars.below HVARS.out (by repeat (first | (with_reducible first | exact HB.out | apply below_alloc | apply pw_below_drewN | apply below_drew1 | refine below_set ?_ (Aside0.out (by assumption))) | exact HB.out)))).mono ?_); rintro e w55 ⟨rfl, hb⟩; refine ⟨_, rfl, ?_⟩; have n0_ := Aside0.mk (below_step (by repeat (first | (with_reducible first | exact HB.out | apply below_alloc | apply pw_below_drewN | apply below_drew1) | exact HB.out)) hb); clear HB; have HB := n0_; clear n0_; (try clear hb); (try clear hb2); (try clear hk); (try clear hi)) | (go_at_call 30; (with_reducible refine (rate_Text.calls kj33 t107 t113 _ A43.out (Go.Proofs.YtfmfikodnpnblaaDoor.ClkLib.Vars.below HVARS.out (by repeat (first | (with_reducible first | exact HB.out | apply below_alloc | apply pw_below_drewN | apply below_drew1 | refine below_set ?_ (Aside0.out (by assumption))) | exact HB.out)))).mono ?_); rintro e w56 ⟨rfl, hb⟩; have n0_ := Aside0.mk (below_step (by repeat (first | (with_reducible first | exact HB.out | apply below_alloc | apply pw_below_drewN | apply below_drew1) | exact HB.out)) hb); clear HB; have HB := n0_; clear n0_; (try clear hb); (try clear hb2); (try clear hk); (try clear hi)))
                                        go_ret
                                        exact ⟨by first | rfl | (simp only [show ∀ l : List UInt8, (l != []) = (!l.isEmpty) from fun l => by cases l <;> rfl]; rfl) | (simp [errW_none, errW_some] <;> rfl) | (simp [*, errW_none, errW_some] <;> rfl), by repeat (first | (with_reducible first | exact HB.out | apply below_alloc | apply pw_below_drewN | apply below_drew1) | exact HB.out)⟩
                                    · rw [if_neg c44] at H
                                      have c44b0 : (t113.toList == t106.toList) = false := beq_eq_false_iff_ne.mpr c44
                                      have c44b1 : (t113.toList != t106.toList) = true := bne_iff_ne.mpr c44
                                      obtain rfl := Option.some.inj H
                                      go_wp2_with (first | ((with_reducible refine gate_callee (f := 15) rfl ?_); refine goesL_ (some 79) rfl rfl Tryd.func15 (by kernel_rfl) rfl #[] rfl (by (try simp only [List.map_toArray, List.map_cons, List.map_nil]); first | done | rfl | (simp only [List.length_drop, List.length_take]; rfl)) ?_; (with_reducible refine (stevedorelaw36_told.calls  true _ A40.out (Go.Proofs.YtfmfikodnpnblaaDoor.ClkLib.Vars.below HVARS.out (by repeat (first | (with_reducible first | exact HB.out | apply below_alloc | apply pw_below_drewN | apply below_drew1 | refine below_set ?_ (Aside0.out (by assumption))) | exact HB.out)))).mono ?_); rintro e w57 ⟨rfl, hb⟩; refine ⟨_, rfl, ?_⟩; have n0_ := Aside0.mk (below_step (by repeat (first | (with_reducible first | exact HB.out | apply below_alloc | apply pw_below_drewN | apply below_drew1) | exact HB.out)) hb); clear HB; have HB := n0_; clear n0_; (try clear hb); (try clear hb2); (try clear hk); (try clear hi)) | (go_at_call 30; (with_reducible refine (rate_Text.calls kj33 t107 t113 _ A43.out (Go.Proofs.YtfmfikodnpnblaaDoor.ClkLib.Vars.below HVARS.out (by repeat (first | (with_reducible first | exact HB.out | apply below_alloc | apply pw_below_drewN | apply below_drew1 | refine below_set ?_ (Aside0.out (by assumption))) | exact HB.out)))).mono ?_); rintro e w58 ⟨rfl, hb⟩; have n0_ := Aside0.mk (below_step (by repeat (first | (with_reducible first | exact HB.out | apply below_alloc | apply pw_below_drewN | apply below_drew1) | exact HB.out)) hb); clear HB; have HB := n0_; clear n0_; (try clear hb); (try clear hb2); (try clear hk); (try clear hi)))
                                      go_ret
                                      exact ⟨by first | rfl | (simp only [show ∀ l : List UInt8, (l != []) = (!l.isEmpty) from fun l => by cases l <;> rfl]; rfl) | (simp [errW_none, errW_some] <;> rfl) | (simp [*, errW_none, errW_some] <;> rfl), by repeat (first | (with_reducible first | exact HB.out | apply below_alloc | apply pw_below_drewN | apply below_drew1) | exact HB.out)⟩
                                  · rw [if_neg c42] at H
                                    have c42b0 : (t108 == 0) = false := beq_eq_false_iff_ne.mpr c42
                                    have c42b1 : (t108 != 0) = true := bne_iff_ne.mpr c42
                                    obtain rfl := Option.some.inj H
                                    go_wp2_with (first | ((with_reducible refine gate_callee (f := 15) rfl ?_); refine goesL_ (some 79) rfl rfl Tryd.func15 (by kernel_rfl) rfl #[] rfl (by (try simp only [List.map_toArray, List.map_cons, List.map_nil]); first | done | rfl | (simp only [List.length_drop, List.length_take]; rfl)) ?_; (with_reducible refine (stevedorelaw36_told.calls  true _ A40.out (Go.Proofs.YtfmfikodnpnblaaDoor.ClkLib.Vars.below HVARS.out (by repeat (first | (with_reducible first | exact HB.out | apply below_alloc | apply pw_below_drewN | apply below_drew1 | refine below_set ?_ (Aside0.out (by assumption))) | exact HB.out)))).mono ?_); rintro e w59 ⟨rfl, hb⟩; refine ⟨_, rfl, ?_⟩; have n0_ := Aside0.mk (below_step (by repeat (first | (with_reducible first | exact HB.out | apply below_alloc | apply pw_below_drewN | apply below_drew1) | exact HB.out)) hb); clear HB; have HB := n0_; clear n0_; (try clear hb); (try clear hb2); (try clear hk); (try clear hi)))
                                    go_ret
                                    exact ⟨by first | rfl | (simp only [show ∀ l : List UInt8, (l != []) = (!l.isEmpty) from fun l => by cases l <;> rfl]; rfl) | (simp [errW_none, errW_some] <;> rfl) | (simp [*, errW_none, errW_some] <;> rfl), by repeat (first | (with_reducible first | exact HB.out | apply below_alloc | apply pw_below_drewN | apply below_drew1) | exact HB.out)⟩
                                · replace c41 := Bool.eq_false_iff.mpr c41
                                  subst c41
                                  have H1 : (some false) = some r := by rw [if_neg (show ¬ (false = true) by decide)] at H; exact H
                                  clear H
                                  have H := H1
                                  clear H1
                                  obtain rfl := Option.some.inj H
                                  go_wp2_with (first | ((with_reducible refine gate_callee (f := 15) rfl ?_); refine goesL_ (some 79) rfl rfl Tryd.func15 (by kernel_rfl) rfl #[] rfl (by (try simp only [List.map_toArray, List.map_cons, List.map_nil]); first | done | rfl | (simp only [List.length_drop, List.length_take]; rfl)) ?_; (with_reducible refine (stevedorelaw36_told.calls  false _ A40.out (Go.Proofs.YtfmfikodnpnblaaDoor.ClkLib.Vars.below HVARS.out (by repeat (first | (with_reducible first | exact HB.out | apply below_alloc | apply pw_below_drewN | apply below_drew1 | refine below_set ?_ (Aside0.out (by assumption))) | exact HB.out)))).mono ?_); rintro e w60 ⟨rfl, hb⟩; refine ⟨_, rfl, ?_⟩; have n0_ := Aside0.mk (below_step (by repeat (first | (with_reducible first | exact HB.out | apply below_alloc | apply pw_below_drewN | apply below_drew1) | exact HB.out)) hb); clear HB; have HB := n0_; clear n0_; (try clear hb); (try clear hb2); (try clear hk); (try clear hi)))
                                  go_ret
                                  exact ⟨by first | rfl | (simp only [show ∀ l : List UInt8, (l != []) = (!l.isEmpty) from fun l => by cases l <;> rfl]; rfl) | (simp [errW_none, errW_some] <;> rfl) | (simp [*, errW_none, errW_some] <;> rfl), by repeat (first | (with_reducible first | exact HB.out | apply below_alloc | apply pw_below_drewN | apply below_drew1) | exact HB.out)⟩
                              · rw [if_neg c39] at H
                                exact absurd H (by simp)
      · rw [if_neg c8] at H
        exact absurd H (by simp)
    · rw [if_neg c7] at H
      exact absurd H (by simp)
  · rw [if_neg c5] at H
    exact absurd H (by simp)

end Go.Proofs.YtfmfikodnpnblaaDoor.PRateBack

-- Written by this repo's gprint.py over the kit's printer, out of the translation. Not trusted: Lean checks it.
import Derived.Test.YtfnicahlnpngkaaDoorPPaxLensx0
import Derived.Test.YtfnicahlnpngkaaDoorPPaxLensx1
import Derived.Test.YtfnicahlnpngkaaDoorPPaxLensx2
import Derived.Test.YtfnicahlnpngkaaDoorDoorPutOfPaxLens
namespace Go.Proofs.YtfnicahlnpngkaaDoor.PPaxLens
open Go.RowKit Go.Proofs.YtfnicahlnpngkaaDoorW.PrintWords Go.Proofs.YtfnicahlnpngkaaDoorW.PrintLast Go.Proofs.YtfnicahlnpngkaaDoorW.PrintMore
attribute [local go_sem] max2_int min2_int max_two min_two max_three min_three max_four min_four   -- for this text's walks alone
open Go.Proofs.YtfnicahlnpngkaaDoor.DoorCut Go.Proofs.YtfnicahlnpngkaaDoor.DoorLen Go.Proofs.YtfnicahlnpngkaaDoor.DoorPutOfPaxLens
set_option linter.unusedVariables false
set_option linter.unusedSimpArgs false

attribute [local go_sem high] eqA39
/-! ### stevedorelaw24_told: function 9 -/
def stevedorelaw24_told.f (k : Nat)  : Option (Bool) := (pax_Put.f (([(⟨(⟨#[112, 97, 116, 104]⟩ : ByteArray), (⟨#[97]⟩ : ByteArray)⟩ : S39)] : List (S39)))).bind fun bt121 => ((pax_Read.f k (⟨#[57, 32, 112, 97, 116, 104, 61, 97, 10, 54, 32, 98, 61, 99, 10]⟩ : ByteArray)).bind fun bt123 => ((pax_Read.f k (⟨#[56, 32, 112, 97, 116, 104, 61, 97, 10]⟩ : ByteArray)).bind fun bt127 => (if bt121.1.toList = ([57, 32, 112, 97, 116, 104, 61, 97, 10] : List UInt8) then (if bt121.2 = 0 then (if (bt123.1.length : Int) = 2 then (if 1 < (bt123.1.length : Int) then (if ((((rd_T39 bt123.1 1).f0).toList) == ([98] : List UInt8) && ((((rd_T39 bt123.1 1).f1).toList) == ([99] : List UInt8))) = true then (if bt123.2 = 0 then (if bt127.2 = 2 then ((pax_Len.f (⟨#[112, 97, 116, 104]⟩ : ByteArray) (⟨#[97]⟩ : ByteArray)).bind fun t132 => (some (t132 == 9))) else (some false)) else (some false)) else (some false)) else (none)) else (some false)) else (some false)) else (some false))))
theorem stevedorelaw24_told.mono : ∀ k, LeO (stevedorelaw24_told.f k ) (stevedorelaw24_told.f (k + 1) ) := by
  intro  k
  unfold stevedorelaw24_told.f
  repeat' first
      | (with_reducible exact pax_Read.mono _ _)
      | (with_reducible exact LeO.refl _)
      | (with_reducible exact LeO.none _)
      | (with_reducible refine LeO.ite ?_ ?_)
      | (with_reducible refine LeO.bind ?_ (fun _ => ?_))
      | exact pax_Read.mono _ _
      | exact LeO.none _
      | refine LeO.ite ?_ ?_
      | refine LeO.bind ?_ (fun _ => ?_)
theorem stevedorelaw24_told.true_ (k : Nat) (r : Bool) (h : stevedorelaw24_told.f k = some r) : r = true :=
  (Option.some.inj ((at_rounds (g := fun k => stevedorelaw24_told.f k) (fun k => stevedorelaw24_told.mono k) (Nat.le_add_left 100 k) (show stevedorelaw24_told.f 100 = some true by decide +kernel)).symm.trans (at_rounds (g := fun k => stevedorelaw24_told.f k) (fun k => stevedorelaw24_told.mono k) (Nat.le_add_right k 100) h))).symm
set_option maxHeartbeats 8000000 in
set_option maxRecDepth 100000 in
theorem stevedorelaw24_told.calls (k : Nat)  (r : Bool) (w : World) (h : stevedorelaw24_told.f k  = some r) (hv : Vars w) :
    Calls Tryd.prog 9 #[] w fun e w' => e = .returned (.bool r) ∧ Below w.heap.size w w' := by
  have HVARS := Aside0.mk hv
  have htrue := stevedorelaw24_told.true_ k r h
  have hu39 := Tryd.underlying39
  have HB := Aside0.mk (Below.refl w.heap.size w)
  have H : ((pax_Put.f (([(⟨(⟨#[112, 97, 116, 104]⟩ : ByteArray), (⟨#[97]⟩ : ByteArray)⟩ : S39)] : List (S39)))).bind fun bt121 => ((pax_Read.f k (⟨#[57, 32, 112, 97, 116, 104, 61, 97, 10, 54, 32, 98, 61, 99, 10]⟩ : ByteArray)).bind fun bt123 => ((pax_Read.f k (⟨#[56, 32, 112, 97, 116, 104, 61, 97, 10]⟩ : ByteArray)).bind fun bt127 => (if bt121.1.toList = ([57, 32, 112, 97, 116, 104, 61, 97, 10] : List UInt8) then (if bt121.2 = 0 then (if (bt123.1.length : Int) = 2 then (if 1 < (bt123.1.length : Int) then (if ((((rd_T39 bt123.1 1).f0).toList) == ([98] : List UInt8) && ((((rd_T39 bt123.1 1).f1).toList) == ([99] : List UInt8))) = true then (if bt123.2 = 0 then (if bt127.2 = 2 then ((pax_Len.f (⟨#[112, 97, 116, 104]⟩ : ByteArray) (⟨#[97]⟩ : ByteArray)).bind fun t132 => (some (t132 == 9))) else (some false)) else (some false)) else (some false)) else (none)) else (some false)) else (some false)) else (some false))))) = some r := h
  clear h
  obtain ⟨y118, hy118⟩ : ∃ y_ : List (S39), y_ = (([(⟨(⟨#[112, 97, 116, 104]⟩ : ByteArray), (⟨#[97]⟩ : ByteArray)⟩ : S39)] : List (S39))) := ⟨_, rfl⟩
  replace H : ((pax_Put.f y118).bind fun bt121 => ((pax_Read.f k (⟨#[57, 32, 112, 97, 116, 104, 61, 97, 10, 54, 32, 98, 61, 99, 10]⟩ : ByteArray)).bind fun bt123 => ((pax_Read.f k (⟨#[56, 32, 112, 97, 116, 104, 61, 97, 10]⟩ : ByteArray)).bind fun bt127 => (if bt121.1.toList = ([57, 32, 112, 97, 116, 104, 61, 97, 10] : List UInt8) then (if bt121.2 = 0 then (if (bt123.1.length : Int) = 2 then (if 1 < (bt123.1.length : Int) then (if ((((rd_T39 bt123.1 1).f0).toList) == ([98] : List UInt8) && ((((rd_T39 bt123.1 1).f1).toList) == ([99] : List UInt8))) = true then (if bt123.2 = 0 then (if bt127.2 = 2 then ((pax_Len.f (⟨#[112, 97, 116, 104]⟩ : ByteArray) (⟨#[97]⟩ : ByteArray)).bind fun t132 => (some (t132 == 9))) else (some false)) else (some false)) else (some false)) else (none)) else (some false)) else (some false)) else (some false))))) = some r := by first | (rw [hy118]; with_reducible exact H) | (have H2_ := (Option.bind_some _ _).symm.trans H; rw [hy118]; with_reducible exact H2_) | (have H2_ := (Option.bind_some _ _).symm.trans H; with_reducible exact H2_) | with_reducible exact H | (rw [hy118]; exact H) | exact H
  have Ny118 := Aside0.mk hy118
  clear hy118
  replace H := Option.bind_eq_some_iff.mp H
  obtain ⟨⟨t121, t122⟩, A10, H⟩ := H
  replace H : ((pax_Read.f k (⟨#[57, 32, 112, 97, 116, 104, 61, 97, 10, 54, 32, 98, 61, 99, 10]⟩ : ByteArray)).bind fun bt123 => ((pax_Read.f k (⟨#[56, 32, 112, 97, 116, 104, 61, 97, 10]⟩ : ByteArray)).bind fun bt127 => (if t121.toList = ([57, 32, 112, 97, 116, 104, 61, 97, 10] : List UInt8) then (if t122 = 0 then (if (bt123.1.length : Int) = 2 then (if 1 < (bt123.1.length : Int) then (if ((((rd_T39 bt123.1 1).f0).toList) == ([98] : List UInt8) && ((((rd_T39 bt123.1 1).f1).toList) == ([99] : List UInt8))) = true then (if bt123.2 = 0 then (if bt127.2 = 2 then ((pax_Len.f (⟨#[112, 97, 116, 104]⟩ : ByteArray) (⟨#[97]⟩ : ByteArray)).bind fun t132 => (some (t132 == 9))) else (some false)) else (some false)) else (some false)) else (none)) else (some false)) else (some false)) else (some false)))) = some r := H
  have A1 := Aside0.mk A10
  clear A10
  replace H := Option.bind_eq_some_iff.mp H
  obtain ⟨⟨t123, t124⟩, A20, H⟩ := H
  replace H : ((pax_Read.f k (⟨#[56, 32, 112, 97, 116, 104, 61, 97, 10]⟩ : ByteArray)).bind fun bt127 => (if t121.toList = ([57, 32, 112, 97, 116, 104, 61, 97, 10] : List UInt8) then (if t122 = 0 then (if (t123.length : Int) = 2 then (if 1 < (t123.length : Int) then (if ((((rd_T39 t123 1).f0).toList) == ([98] : List UInt8) && ((((rd_T39 t123 1).f1).toList) == ([99] : List UInt8))) = true then (if t124 = 0 then (if bt127.2 = 2 then ((pax_Len.f (⟨#[112, 97, 116, 104]⟩ : ByteArray) (⟨#[97]⟩ : ByteArray)).bind fun t132 => (some (t132 == 9))) else (some false)) else (some false)) else (some false)) else (none)) else (some false)) else (some false)) else (some false))) = some r := H
  have A2 := Aside0.mk A20
  clear A20
  replace H := Option.bind_eq_some_iff.mp H
  obtain ⟨⟨t127, t128⟩, A30, H⟩ := H
  replace H : (if t121.toList = ([57, 32, 112, 97, 116, 104, 61, 97, 10] : List UInt8) then (if t122 = 0 then (if (t123.length : Int) = 2 then (if 1 < (t123.length : Int) then (if ((((rd_T39 t123 1).f0).toList) == ([98] : List UInt8) && ((((rd_T39 t123 1).f1).toList) == ([99] : List UInt8))) = true then (if t124 = 0 then (if t128 = 2 then ((pax_Len.f (⟨#[112, 97, 116, 104]⟩ : ByteArray) (⟨#[97]⟩ : ByteArray)).bind fun t132 => (some (t132 == 9))) else (some false)) else (some false)) else (some false)) else (none)) else (some false)) else (some false)) else (some false)) = some r := H
  have A3 := Aside0.mk A30
  clear A30
  by_cases c4 : t121.toList = ([57, 32, 112, 97, 116, 104, 61, 97, 10] : List UInt8)
  · rw [if_pos c4] at H
    have c4b0 : (t121.toList == ([57, 32, 112, 97, 116, 104, 61, 97, 10] : List UInt8)) = true := beq_iff_eq.mpr c4
    have c4b1 : (t121.toList != ([57, 32, 112, 97, 116, 104, 61, 97, 10] : List UInt8)) = false := bne_eq_false_iff_eq.mpr c4
    clear c4
    by_cases c5 : t122 = 0
    · rw [if_pos c5] at H
      have c5b0 : (t122 == 0) = true := beq_iff_eq.mpr c5
      have c5b1 : (t122 != 0) = false := bne_eq_false_iff_eq.mpr c5
      clear c5
      by_cases c6 : (t123.length : Int) = 2
      · rw [if_pos c6] at H
        have c6b0 : ((t123.length : Int) == 2) = true := beq_iff_eq.mpr c6
        have c6b1 : ((t123.length : Int) != 2) = false := bne_eq_false_iff_eq.mpr c6
        clear c6
        by_cases c7 : 1 < (t123.length : Int)
        · rw [if_pos c7] at H
          have c7b0 : decide (1 < (t123.length : Int)) = true := decide_eq_true c7
          have c7b1 : decide (1 < t123.length) = true := decide_eq_true (by omega)
          clear c7
          by_cases c8 : ((((rd_T39 t123 1).f0).toList) == ([98] : List UInt8) && ((((rd_T39 t123 1).f1).toList) == ([99] : List UInt8))) = true
          · rw [if_pos c8] at H
            have c8b0 : ((((rd_T39 t123 1).f0).toList) == ([98] : List UInt8) && ((((rd_T39 t123 1).f1).toList) == ([99] : List UInt8))) = true := c8
            (try (have c8b1 : decide ((((rd_T39 t123 1).f0).toList) = ([98] : List UInt8) && ((((rd_T39 t123 1).f1).toList) == ([99] : List UInt8))) = true := by simpa using c8))
            (try (have c8b2 : ((((rd_T39 t123 1).f0).toList) == ([98] : List UInt8) && ((((rd_T39 t123 1).f1).toList) == ([99] : List UInt8))) = true := by simpa using c8))
            clear c8
            by_cases c9 : t124 = 0
            · rw [if_pos c9] at H
              have c9b0 : (t124 == 0) = true := beq_iff_eq.mpr c9
              have c9b1 : (t124 != 0) = false := bne_eq_false_iff_eq.mpr c9
              clear c9
              by_cases c10 : t128 = 2
              · rw [if_pos c10] at H
                have c10b0 : (t128 == 2) = true := beq_iff_eq.mpr c10
                have c10b1 : (t128 != 2) = false := bne_eq_false_iff_eq.mpr c10
                clear c10
                replace H := Option.bind_eq_some_iff.mp H
                obtain ⟨t132, A110, H⟩ := H
                replace H : (some (t132 == 9)) = some r := H
                have A11 := Aside0.mk A110
                clear A110
                obtain rfl := Option.some.inj H
                go_enter Tryd.func9, Tryd.ntmps9
                go_wp2_with (first | ((with_reducible refine gate_dst (N := 9) rfl ?_); (try (refine gate_guard (by rfl) ?_; dsimp only)); refine Kd.R_lit k39 _ 39 ?hg (N := 9) ?hd (xs := ([(⟨(⟨#[112, 97, 116, 104]⟩ : ByteArray), (⟨#[97]⟩ : ByteArray)⟩ : S39)] : List (S39))) (inner := [.string (⟨#[112, 97, 116, 104]⟩ : ByteArray), .string (⟨#[97]⟩ : ByteArray)]) (ok := fun _ => True) (okp := fun _ => True) ?hr ?hp (fun _ hk => hk) trivial (Below.refl _ _) (Nat.le_refl _) (by simp) ?_; (case hd => rfl); (case hg => rfl); (case hr => first | (go_simp; done) | (go_simp; rfl)); (case hp => exact (Reps.c2 (show Kd.M k39 _ _ _ (⟨(⟨#[112, 97, 116, 104]⟩ : ByteArray), (⟨#[97]⟩ : ByteArray)⟩ : S39) [.string (⟨#[112, 97, 116, 104]⟩ : ByteArray), .string (⟨#[97]⟩ : ByteArray)] from (k39_mkM _ _ _ (⟨(⟨#[112, 97, 116, 104]⟩ : ByteArray), (⟨#[97]⟩ : ByteArray)⟩ : S39) )) (Reps.none _ _))); intro v119 w12 ho13 hb hg_ hnew_; clear hg_ hnew_; (first | rw [← Ny118.out] at ho13 | (simp only [Int.reduceToNat] at ho13; rw [← Ny118.out] at ho13)); have n0_ := Aside0.mk (Kd.R_lower ho13 (below_size (by repeat (first | (with_reducible first | exact HB.out | apply below_alloc | apply pw_below_drewN | apply below_drew1) | exact HB.out)))); have n1_ := Aside0.mk (below_step (by repeat (first | (with_reducible first | exact HB.out | apply below_alloc | apply pw_below_drewN | apply below_drew1) | exact HB.out)) hb); clear HB; have HO120 := n0_; have HB := n1_; clear n0_ n1_; clear hb ho13; obtain ⟨Ao14, co14, eo14⟩ := Kd.R_slice HO120.out; subst eo14) | ((with_reducible refine gate_callee (f := 14) rfl ?_); refine goesL_ (some 10) rfl rfl Tryd.func14 (by kernel_rfl) rfl #[.slice Ao14 y118.length co14] rfl (by (try simp only [List.map_toArray, List.map_cons, List.map_nil]); first | done | rfl | (simp only [List.length_drop, List.length_take]; rfl)) ?_; (with_reducible refine (pax_Put.calls _ _ y118 t121 t122 _ ?side1 ?side2 A1.out (Vars.below HVARS.out (by repeat (first | (with_reducible first | exact HB.out | apply below_alloc | apply pw_below_drewN | apply below_drew1 | refine below_set ?_ (Aside0.out (by assumption))) | exact HB.out)))).mono ?_); (case side1 => repeat (first | exact (Kd.R_reads' HO120.out).2.2 | (with_reducible refine Kd.C_alloc ?_ _) | (with_reducible refine Kd.C_drewN ?_ _) | (with_reducible refine Kd.C_drew ?_))); (case side2 => exact (Kd.R_reads' HO120.out).2.1); rintro e w15 ⟨rfl, hb⟩; refine ⟨_, rfl, ?_⟩; have n0_ := Aside0.mk (Kd.R_below (by (with_reducible repeat (first | apply Kd.R_alloc | apply Kd.R_drewN | apply Kd.R_drew)); exact HO120.out) hb); have n1_ := Aside0.mk (below_step (by repeat (first | (with_reducible first | exact HB.out | apply below_alloc | apply pw_below_drewN | apply below_drew1) | exact HB.out)) hb); clear HO120; clear HB; have HO120 := n0_; have HB := n1_; clear n0_ n1_; (try clear hb); (try clear hb2); (try clear hk); (try clear hi)) | ((with_reducible refine gate_callee (f := 11) rfl ?_); refine goesL_ (some 14) rfl rfl Tryd.func11 (by kernel_rfl) rfl #[.string (⟨#[57, 32, 112, 97, 116, 104, 61, 97, 10, 54, 32, 98, 61, 99, 10]⟩ : ByteArray)] rfl (by (try simp only [List.map_toArray, List.map_cons, List.map_nil]); first | done | rfl | (simp only [List.length_drop, List.length_take]; rfl)) ?_; (with_reducible refine (pax_Read.calls k (⟨#[57, 32, 112, 97, 116, 104, 61, 97, 10, 54, 32, 98, 61, 99, 10]⟩ : ByteArray) t123 t124 _ A2.out).mono ?_); rintro e w16 ⟨v125, rfl, ho0, hb⟩; refine ⟨_, rfl, ?_⟩; have n0_ := Aside0.mk (Kd.R_elder' (by (with_reducible repeat (first | apply Kd.R_alloc | apply Kd.R_drewN | apply Kd.R_drew)); exact HO120.out) (Kd.R_base ho0) hb); have n1_ := Aside0.mk (Kd.R_lower (Kd.R_new' ho0 (Kd.R_lt (by (with_reducible repeat (first | apply Kd.R_alloc | apply Kd.R_drewN | apply Kd.R_drew)); exact HO120.out))) (below_size (by repeat (first | (with_reducible first | exact HB.out | apply below_alloc | apply pw_below_drewN | apply below_drew1) | exact HB.out)))); have n2_ := Aside0.mk (below_step (by repeat (first | (with_reducible first | exact HB.out | apply below_alloc | apply pw_below_drewN | apply below_drew1) | exact HB.out)) hb); clear HO120; clear HB; have HO120 := n0_; have HO126 := n1_; have HB := n2_; clear n0_ n1_ n2_; (try clear hb); (try clear hb2); (try clear hk); (try clear hi); (try clear ho0)) | ((with_reducible refine gate_callee (f := 11) rfl ?_); refine goesL_ (some 18) rfl rfl Tryd.func11 (by kernel_rfl) rfl #[.string (⟨#[56, 32, 112, 97, 116, 104, 61, 97, 10]⟩ : ByteArray)] rfl (by (try simp only [List.map_toArray, List.map_cons, List.map_nil]); first | done | rfl | (simp only [List.length_drop, List.length_take]; rfl)) ?_; (with_reducible refine (pax_Read.calls k (⟨#[56, 32, 112, 97, 116, 104, 61, 97, 10]⟩ : ByteArray) t127 t128 _ A3.out).mono ?_); rintro e w17 ⟨v129, rfl, ho0, hb⟩; refine ⟨_, rfl, ?_⟩; have n0_ := Aside0.mk (Kd.R_elder' (by (with_reducible repeat (first | apply Kd.R_alloc | apply Kd.R_drewN | apply Kd.R_drew)); exact HO120.out) (Kd.R_base ho0) hb); have n1_ := Aside0.mk (Kd.R_elder' (by (with_reducible repeat (first | apply Kd.R_alloc | apply Kd.R_drewN | apply Kd.R_drew)); exact HO126.out) (Kd.R_base ho0) hb); have n2_ := Aside0.mk (Kd.R_lower (Kd.R_new' (Kd.R_new' ho0 (Kd.R_lt (by (with_reducible repeat (first | apply Kd.R_alloc | apply Kd.R_drewN | apply Kd.R_drew)); exact HO120.out))) (Kd.R_lt (by (with_reducible repeat (first | apply Kd.R_alloc | apply Kd.R_drewN | apply Kd.R_drew)); exact HO126.out))) (below_size (by repeat (first | (with_reducible first | exact HB.out | apply below_alloc | apply pw_below_drewN | apply below_drew1) | exact HB.out)))); have n3_ := Aside0.mk (below_step (by repeat (first | (with_reducible first | exact HB.out | apply below_alloc | apply pw_below_drewN | apply below_drew1) | exact HB.out)) hb); clear HO120; clear HO126; clear HB; have HO120 := n0_; have HO126 := n1_; have HO130 := n2_; have HB := n3_; clear n0_ n1_ n2_ n3_; (try clear hb); (try clear hb2); (try clear hk); (try clear hi); (try clear ho0); obtain ⟨Ao18, co18, eo18⟩ := Kd.R_slice HO126.out; subst eo18; have p131 : 0 ≤ (1 : Int) := (by omega); have q131 : 1 < (t123.length : Int) := of_decide_eq_true (by first | (with_reducible assumption) | assumption); obtain ⟨ad131, e131, hx131_0, hx131_1⟩ := at_T39 (Kd.R_reads' HO126.out).2.2 1 p131 q131; cases e131; (try simp only [show (1 : Int).toNat = 1 from rfl, Nat.reduceMul, Nat.reduceEqDiff, Go.Addr.add, ↓reduceIte] at hx131_0); (try simp only [show (1 : Int).toNat = 1 from rfl, Nat.reduceMul, Nat.reduceEqDiff, Go.Addr.add, ↓reduceIte] at hx131_1); have qi131 : (1 < t123.length) = True := eq_true (by omega); (try rw [show ((1 : Int)).toNat = 1 from rfl] at hx131_0); (try rw [show 1 * 2 = 2 from rfl] at hx131_0); (try rw [show ((1 : Int)).toNat = 1 from rfl] at hx131_1); (try rw [show 1 * 2 = 2 from rfl] at hx131_1); replace p131 := eq_true p131; replace q131 := eq_true q131) | (go_at_call 15; (with_reducible refine (pax_Len.calls (⟨#[112, 97, 116, 104]⟩ : ByteArray) (⟨#[97]⟩ : ByteArray) t132 _ A11.out (Vars.below HVARS.out (by repeat (first | (with_reducible first | exact HB.out | apply below_alloc | apply pw_below_drewN | apply below_drew1 | refine below_set ?_ (Aside0.out (by assumption))) | exact HB.out)))).mono ?_); rintro e w19 ⟨rfl, hb⟩; have n0_ := Aside0.mk (Kd.R_below (by (with_reducible repeat (first | apply Kd.R_alloc | apply Kd.R_drewN | apply Kd.R_drew)); exact HO120.out) hb); have n1_ := Aside0.mk (Kd.R_below (by (with_reducible repeat (first | apply Kd.R_alloc | apply Kd.R_drewN | apply Kd.R_drew)); exact HO126.out) hb); have n2_ := Aside0.mk (Kd.R_below (by (with_reducible repeat (first | apply Kd.R_alloc | apply Kd.R_drewN | apply Kd.R_drew)); exact HO130.out) hb); have n3_ := Aside0.mk (below_step (by repeat (first | (with_reducible first | exact HB.out | apply below_alloc | apply pw_below_drewN | apply below_drew1) | exact HB.out)) hb); clear HO120; clear HO126; clear HO130; clear HB; have HO120 := n0_; have HO126 := n1_; have HO130 := n2_; have HB := n3_; clear n0_ n1_ n2_ n3_; (try clear hb); (try clear hb2); (try clear hk); (try clear hi)))
                go_ret
                exact ⟨by first | rfl | (simp only [show ∀ l : List UInt8, (l != []) = (!l.isEmpty) from fun l => by cases l <;> rfl]; rfl) | (simp [errW_none, errW_some] <;> rfl) | (simp [*, errW_none, errW_some] <;> rfl), by repeat (first | (with_reducible first | exact HB.out | apply below_alloc | apply pw_below_drewN | apply below_drew1) | exact HB.out)⟩
              · rw [if_neg c10] at H
                exact absurd (Option.some.inj H) (by rw [htrue]; simp)
            · rw [if_neg c9] at H
              exact absurd (Option.some.inj H) (by rw [htrue]; simp)
          · rw [if_neg c8] at H
            exact absurd (Option.some.inj H) (by rw [htrue]; simp)
        · rw [if_neg c7] at H
          exact absurd H (by simp)
      · rw [if_neg c6] at H
        exact absurd (Option.some.inj H) (by rw [htrue]; simp)
    · rw [if_neg c5] at H
      exact absurd (Option.some.inj H) (by rw [htrue]; simp)
  · rw [if_neg c4] at H
    exact absurd (Option.some.inj H) (by rw [htrue]; simp)

/-! ### stevedorelaw24_PaxLensDigits: function 16 -/
def stevedorelaw24_PaxLensDigits.l0 : Nat → Int → Int → Option (Int)
  | 0, _, _ => none
  | k + 1, x0, x3 => if x0 ≥ 10 then (stevedorelaw24_PaxLensDigits.l0 k (wrap64 (Int.tdiv x0 10)) (wrap64 (x3 + 1))) else (some x3)
def stevedorelaw24_PaxLensDigits.f (k : Nat) (a0 : Int) : Option (Int) := stevedorelaw24_PaxLensDigits.l0 k a0 1
theorem stevedorelaw24_PaxLensDigits.mono_l : ∀ k, (∀ y0 y1, LeO (stevedorelaw24_PaxLensDigits.l0 k y0 y1) (stevedorelaw24_PaxLensDigits.l0 (k + 1) y0 y1))
  | 0 => fun _ _ r h => by simp [stevedorelaw24_PaxLensDigits.l0] at h
  | k + 1 => by
    have ih0 := stevedorelaw24_PaxLensDigits.mono_l k
    · intro y0 y1
      unfold stevedorelaw24_PaxLensDigits.l0
      repeat' first
      | (with_reducible exact ih0 _ _)
      | (with_reducible exact LeO.refl _)
      | (with_reducible exact LeO.none _)
      | (with_reducible refine LeO.ite ?_ ?_)
      | (with_reducible refine LeO.bind ?_ (fun _ => ?_))
      | exact ih0 _ _
      | exact LeO.none _
      | refine LeO.ite ?_ ?_
      | refine LeO.bind ?_ (fun _ => ?_)
theorem stevedorelaw24_PaxLensDigits.mono : ∀ a0 k, LeO (stevedorelaw24_PaxLensDigits.f k a0) (stevedorelaw24_PaxLensDigits.f (k + 1) a0) := by
  intro a0 k
  have ih0 := stevedorelaw24_PaxLensDigits.mono_l k
  unfold stevedorelaw24_PaxLensDigits.f
  repeat' first
      | (with_reducible exact ih0 _ _)
      | (with_reducible exact LeO.refl _)
      | (with_reducible exact LeO.none _)
      | (with_reducible refine LeO.ite ?_ ?_)
      | (with_reducible refine LeO.bind ?_ (fun _ => ?_))
      | exact ih0 _ _
      | exact LeO.none _
      | refine LeO.ite ?_ ?_
      | refine LeO.bind ?_ (fun _ => ?_)
set_option maxHeartbeats 8000000 in
set_option maxRecDepth 100000 in
theorem stevedorelaw24_PaxLensDigits.calls (k : Nat) (a0 : Int) (r : Int) (w : World) (h : stevedorelaw24_PaxLensDigits.f k a0 = some r) :
    Calls Tryd.prog 16 #[.int .i64 a0] w fun e w' => e = .returned (.int .i64 r) ∧ Drawn0 w w' := by
  have H : (stevedorelaw24_PaxLensDigits.l0 k a0 1) = some r := h
  clear h
  have H' := Aside0.mk H
  clear H
  go_enter Tryd.func16, Tryd.ntmps16
  go_wp2
  go_loopg [0, 3] k (fun kq v0 v3 w' => ∃ (x0_1 : Int) (x3_1 : Int), v0 = .int .i64 x0_1 ∧ v3 = .int .i64 x3_1 ∧ Aside0 (stevedorelaw24_PaxLensDigits.l0 kq x0_1 x3_1 = some r) ∧ Aside0 (kq ≤ k) ∧ Drawn0 w w')
  case atStart => exact ⟨(a0), (1), (by first | rfl | (simp; done) | (simp [*]; done)), (by first | rfl | (simp; done) | (simp [*]; done)), H', ⟨Nat.le_refl _⟩, by repeat (first | exact Drawn0.refl _ | apply Drawn0.step)⟩
  case round =>
    clear H'
    try clear c1
    obtain ⟨x0_1, x3_1, rfl, rfl, HA, HK1, ⟨m1, rfl⟩⟩ := hrel
    cases gk with
    | zero => exact absurd HA.out (by simp [stevedorelaw24_PaxLensDigits.l0])
    | succ k1 =>
      have H := HA.out
      clear HA
      simp only [stevedorelaw24_PaxLensDigits.l0] at H
      by_cases c2 : x0_1 ≥ 10
      · rw [if_pos c2] at H
        have c2b0 : decide (10 ≤ x0_1) = true := decide_eq_true c2
        clear c2
        have H' := Aside0.mk H
        clear H
        go_wp2
        go_roundg k1
        case measure => have := HK1.out; omega
        case rel => exact ⟨(wrap64 (Int.tdiv x0_1 10)), (wrap64 (x3_1 + 1)), (by first | rfl | (simp; done) | (simp [*]; done)), (by first | rfl | (simp; done) | (simp [*]; done)), H', ⟨by have := HK1.out; omega⟩, by repeat (first | exact Drawn0.refl _ | apply Drawn0.step)⟩
      · rw [if_neg c2] at H
        have c2b0 : decide (10 ≤ x0_1) = false := decide_eq_false c2
        clear c2
        obtain rfl := Option.some.inj H
        go_wp2
        go_ret
        exact ⟨by first | rfl | (simp; done) | (simp [*]; done), by repeat (first | exact Drawn0.refl _ | apply Drawn0.step)⟩

end Go.Proofs.YtfnicahlnpngkaaDoor.PPaxLens

-- Written by this repo's gprint.py over the kit's printer, out of the translation. Not trusted: Lean checks it.
import Derived.Test.YtfmfikodnpnblaaGreatDoorPClkFx0
namespace Go.Proofs.YtfmfikodnpnblaaGreatDoor.PClkF
open Go.RowKit Go.Proofs.YtfmfikodnpnblaaGreatDoorW.PrintWords Go.Proofs.YtfmfikodnpnblaaGreatDoorW.PrintLast Go.Proofs.YtfmfikodnpnblaaGreatDoorW.PrintMore Go.Proofs.YtfmfikodnpnblaaGreatDoor
attribute [local go_sem] max2_int min2_int max_two min_two max_three min_three max_four min_four   -- for this text's walks alone
open Go.Proofs.YtfmfikodnpnblaaGreatDoor.ClkNone Go.Proofs.YtfmfikodnpnblaaGreatDoor.PClkQ
attribute [local go_sem] fop_run fint_run fofint_run
set_option linter.unusedVariables false
set_option linter.unusedSimpArgs false

-- function 26 (stevedoreref4_None): by hand

/-! ### stevedoreref4_FromUnix: function 18 -/
def stevedoreref4_FromUnix.f (a0 : Int) : Option (Nat) := if a0 < 1 then ((stevedoreref4_None.f).bind fun t101 => (some t101)) else (if a0 > 4294967295 then ((stevedoreref4_None.f).bind fun t102 => (some t102)) else (some (floatOfInt .f64 a0)))
set_option maxHeartbeats 8000000 in
set_option maxRecDepth 100000 in
theorem stevedoreref4_FromUnix.calls (a0 : Int) (r : Nat) (w : World) (h : stevedoreref4_FromUnix.f a0 = some r) :
    Calls Tryz.prog 18 #[.int .i64 a0] w fun e w' => ∃ r' : Nat, e = .returned (.float .f64 r') ∧ Flt.key r' = Flt.key r ∧ Below w.heap.size w w' := by
  have HB := Aside0.mk (Below.refl w.heap.size w)
  have H : (if a0 < 1 then ((stevedoreref4_None.f).bind fun t101 => (some t101)) else (if a0 > 4294967295 then ((stevedoreref4_None.f).bind fun t102 => (some t102)) else (some (floatOfInt .f64 a0)))) = some r := h
  clear h
  by_cases c2 : a0 < 1
  · rw [if_pos c2] at H
    have c2b0 : decide (a0 < 1) = true := decide_eq_true c2
    clear c2
    replace H := Option.bind_eq_some_iff.mp H
    obtain ⟨t101, A30, H⟩ := H
    replace H : (some t101) = some r := H
    have A3 := Aside0.mk A30
    clear A30
    obtain rfl := Option.some.inj H
    go_enter Tryz.func18, Tryz.ntmps18
    go_wp2_with (first | ((with_reducible refine gate_callee (f := 26) rfl ?_); refine goesL_ (some 9) rfl rfl Tryz.func26 (by kernel_rfl) rfl #[] rfl (by (try simp only [List.map_toArray, List.map_cons, List.map_nil]); first | done | rfl | (simp only [List.length_drop, List.length_take]; rfl)) ?_; (with_reducible refine (ClkTold.none_calls _).mono ?_); rintro e w4 ⟨bn, rfl, hkn, hb⟩; have HKN := Aside0.mk hkn; clear hkn; refine ⟨_, rfl, ?_⟩; have n0_ := Aside0.mk (below_step (by repeat (first | (with_reducible first | exact HB.out | apply below_alloc | apply pw_below_drewN | apply below_drew1) | exact HB.out)) hb); clear HB; have HB := n0_; clear n0_; (try clear hb); (try clear hb2); (try clear hk); (try clear hi)))
    go_ret
    exact ⟨_, (by first | rfl | (simp only [show ∀ l : List UInt8, (l != []) = (!l.isEmpty) from fun l => by cases l <;> rfl]; rfl) | (simp [errW_none, errW_some] <;> rfl) | (simp [*, errW_none, errW_some] <;> rfl)), (by first | rfl | (rw [HKN.out]; exact (ClkNone.none_key _ (Aside0.out (by assumption))).symm)), by repeat (first | (with_reducible first | exact HB.out | apply below_alloc | apply pw_below_drewN | apply below_drew1) | exact HB.out)⟩
  · rw [if_neg c2] at H
    have c2b0 : decide (a0 < 1) = false := decide_eq_false c2
    clear c2
    by_cases c5 : a0 > 4294967295
    · rw [if_pos c5] at H
      have c5b0 : decide (4294967295 < a0) = true := decide_eq_true c5
      clear c5
      replace H := Option.bind_eq_some_iff.mp H
      obtain ⟨t102, A60, H⟩ := H
      replace H : (some t102) = some r := H
      have A6 := Aside0.mk A60
      clear A60
      obtain rfl := Option.some.inj H
      go_enter Tryz.func18, Tryz.ntmps18
      go_wp2_with (first | ((with_reducible refine gate_callee (f := 26) rfl ?_); refine goesL_ (some 9) rfl rfl Tryz.func26 (by kernel_rfl) rfl #[] rfl (by (try simp only [List.map_toArray, List.map_cons, List.map_nil]); first | done | rfl | (simp only [List.length_drop, List.length_take]; rfl)) ?_; (with_reducible refine (ClkTold.none_calls _).mono ?_); rintro e w7 ⟨bn, rfl, hkn, hb⟩; have HKN := Aside0.mk hkn; clear hkn; refine ⟨_, rfl, ?_⟩; have n0_ := Aside0.mk (below_step (by repeat (first | (with_reducible first | exact HB.out | apply below_alloc | apply pw_below_drewN | apply below_drew1) | exact HB.out)) hb); clear HB; have HB := n0_; clear n0_; (try clear hb); (try clear hb2); (try clear hk); (try clear hi)))
      go_ret
      exact ⟨_, (by first | rfl | (simp only [show ∀ l : List UInt8, (l != []) = (!l.isEmpty) from fun l => by cases l <;> rfl]; rfl) | (simp [errW_none, errW_some] <;> rfl) | (simp [*, errW_none, errW_some] <;> rfl)), (by first | rfl | (rw [HKN.out]; exact (ClkNone.none_key _ (Aside0.out (by assumption))).symm)), by repeat (first | (with_reducible first | exact HB.out | apply below_alloc | apply pw_below_drewN | apply below_drew1) | exact HB.out)⟩
    · rw [if_neg c5] at H
      have c5b0 : decide (4294967295 < a0) = false := decide_eq_false c5
      clear c5
      obtain rfl := Option.some.inj H
      go_enter Tryz.func18, Tryz.ntmps18
      go_wp2
      go_ret
      exact ⟨_, (by first | rfl | (simp only [show ∀ l : List UInt8, (l != []) = (!l.isEmpty) from fun l => by cases l <;> rfl]; rfl) | (simp [errW_none, errW_some] <;> rfl) | (simp [*, errW_none, errW_some] <;> rfl)), (by first | rfl | (rw [HKN.out]; exact (ClkNone.none_key _ (Aside0.out (by assumption))).symm)), by repeat (first | (with_reducible first | exact HB.out | apply below_alloc | apply pw_below_drewN | apply below_drew1) | exact HB.out)⟩

-- function 6 (stevedoreref4_Seconds): by hand

/-! ### stevedoreref4_FromDos: function 22 -/
def stevedoreref4_FromDos.j0 : Nat → Int → Bool → Option (Nat)
  | 0, _, _ => none
  | k + 1, x0, x13 => if x13 = true then ((stevedoreref4_None.f).bind fun t103 => (some t103)) else ((stevedoreref4_Seconds.f k (wrap64 (((x0 / 65536) / 512) + 1980)) (Go.bits .and .i64 ((x0 / 65536) / 32) 15) (Go.bits .and .i64 (x0 / 65536) 31) ((Go.bits .and .i64 x0 65535) / 2048) (Go.bits .and .i64 ((Go.bits .and .i64 x0 65535) / 32) 63) (wrap64 ((Go.bits .and .i64 (Go.bits .and .i64 x0 65535) 31) * 2))).bind fun bt105 => (if bt105.2 = true then (some (floatOfInt .f64 bt105.1)) else ((stevedoreref4_None.f).bind fun t107 => (some t107))))
def stevedoreref4_FromDos.f (k : Nat) (a0 : Int) : Option (Nat) := if a0 < 0 then (stevedoreref4_FromDos.j0 k a0 true) else (stevedoreref4_FromDos.j0 k a0 (decide (a0 > 4294967295)))
theorem stevedoreref4_FromDos.mono_l : ∀ k, (∀ y0 y1, LeO (stevedoreref4_FromDos.j0 k y0 y1) (stevedoreref4_FromDos.j0 (k + 1) y0 y1))
  | 0 => fun _ _ r h => by simp [stevedoreref4_FromDos.j0] at h
  | k + 1 => by
    have ih0 := stevedoreref4_FromDos.mono_l k
    · intro y0 y1
      unfold stevedoreref4_FromDos.j0
      repeat' first
      | (with_reducible exact ih0 _ _)
      | (with_reducible exact stevedoreref4_Seconds.mono _ _ _ _ _ _ _)
      | (with_reducible exact LeO.refl _)
      | (with_reducible exact LeO.none _)
      | (with_reducible refine LeO.ite ?_ ?_)
      | (with_reducible refine LeO.bind ?_ (fun _ => ?_))
      | exact ih0 _ _
      | exact stevedoreref4_Seconds.mono _ _ _ _ _ _ _
      | exact LeO.none _
      | refine LeO.ite ?_ ?_
      | refine LeO.bind ?_ (fun _ => ?_)
theorem stevedoreref4_FromDos.mono : ∀ a0 k, LeO (stevedoreref4_FromDos.f k a0) (stevedoreref4_FromDos.f (k + 1) a0) := by
  intro a0 k
  have ih0 := stevedoreref4_FromDos.mono_l k
  unfold stevedoreref4_FromDos.f
  repeat' first
      | (with_reducible exact ih0 _ _)
      | (with_reducible exact stevedoreref4_Seconds.mono _ _ _ _ _ _ _)
      | (with_reducible exact LeO.refl _)
      | (with_reducible exact LeO.none _)
      | (with_reducible refine LeO.ite ?_ ?_)
      | (with_reducible refine LeO.bind ?_ (fun _ => ?_))
      | exact ih0 _ _
      | exact stevedoreref4_Seconds.mono _ _ _ _ _ _ _
      | exact LeO.none _
      | refine LeO.ite ?_ ?_
      | refine LeO.bind ?_ (fun _ => ?_)
set_option maxHeartbeats 8000000 in
set_option maxRecDepth 100000 in
theorem stevedoreref4_FromDos.calls (k : Nat) (a0 : Int) (r : Nat) (w : World) (h : stevedoreref4_FromDos.f k a0 = some r) :
    Calls Tryz.prog 22 #[.int .i64 a0] w fun e w' => ∃ r' : Nat, e = .returned (.float .f64 r') ∧ Flt.key r' = Flt.key r ∧ Below w.heap.size w w' := by
  have hu23 := Tryz.underlying23
  have HB := Aside0.mk (Below.refl w.heap.size w)
  have H : (if a0 < 0 then (stevedoreref4_FromDos.j0 k a0 true) else (stevedoreref4_FromDos.j0 k a0 (decide (a0 > 4294967295)))) = some r := h
  clear h
  have HC2 := Aside0.mk H
  clear H
  go_enter Tryz.func22, Tryz.ntmps22
  go_upto_region 1 with (fail)
  go_cut [13] (fun v13 wc => ∃ (kq : Nat) (x13_1 : Bool), v13 = .bool x13_1 ∧ Aside0 (stevedoreref4_FromDos.j0 kq a0 x13_1 = some r) ∧ Aside0 (kq ≤ k) ∧ Aside0 (Below w.heap.size w wc))
  case first =>
    have H := HC2.out
    clear HC2
    by_cases c3 : a0 < 0
    · rw [if_pos c3] at H
      have c3b0 : decide (a0 < 0) = true := decide_eq_true c3
      clear c3
      (first | rw [c3b0] | (simp only [i64_w, i32_w]; rw [c3b0]) | rw [c3b1] | skip)
      have H' := Aside0.mk H
      clear H
      go_wp2
      go_meet
      case rel => exact ⟨_, (true), (by first | rfl | (simp; done) | (simp [*]; done)), H', ⟨by first | omega | exact Nat.le_refl _⟩, ⟨by repeat (first | (with_reducible first | exact HB.out | apply below_alloc | apply pw_below_drewN | apply below_drew1) | exact HB.out)⟩⟩
    · rw [if_neg c3] at H
      have c3b0 : decide (a0 < 0) = false := decide_eq_false c3
      clear c3
      (first | rw [c3b0] | (simp only [i64_w, i32_w]; rw [c3b0]) | rw [c3b1] | skip)
      have H' := Aside0.mk H
      clear H
      go_wp2
      go_meet
      case rel => exact ⟨_, (decide (a0 > 4294967295)), (by first | rfl | (simp; done) | (simp [*]; done)), H', ⟨by first | omega | exact Nat.le_refl _⟩, ⟨by repeat (first | (with_reducible first | exact HB.out | apply below_alloc | apply pw_below_drewN | apply below_drew1) | exact HB.out)⟩⟩
  case rest =>
    clear HC2
    try clear c2
    try clear p2
    try clear c3
    try clear c3b0
    obtain ⟨kq, x13_1, rfl, HA, HJ1, HB⟩ := hcut
    cases kq with
    | zero => exact absurd HA.out (by simp [stevedoreref4_FromDos.j0])
    | succ kj1 =>
      have H := HA.out
      clear HA
      simp only [stevedoreref4_FromDos.j0] at H
      by_cases c4 : x13_1 = true
      · subst c4
        have H1 : ((stevedoreref4_None.f).bind fun t103 => (some t103)) = some r := by rw [if_pos rfl] at H; exact H
        clear H
        have H := H1
        clear H1
        replace H := Option.bind_eq_some_iff.mp H
        obtain ⟨t103, A50, H⟩ := H
        replace H : (some t103) = some r := H
        have A5 := Aside0.mk A50
        clear A50
        obtain rfl := Option.some.inj H
        go_wp2_with (first | ((with_reducible refine gate_callee (f := 26) rfl ?_); refine goesL_ (some 14) rfl rfl Tryz.func26 (by kernel_rfl) rfl #[] rfl (by (try simp only [List.map_toArray, List.map_cons, List.map_nil]); first | done | rfl | (simp only [List.length_drop, List.length_take]; rfl)) ?_; (with_reducible refine (ClkTold.none_calls _).mono ?_); rintro e w6 ⟨bn, rfl, hkn, hb⟩; have HKN := Aside0.mk hkn; clear hkn; refine ⟨_, rfl, ?_⟩; have n0_ := Aside0.mk (below_step (by repeat (first | (with_reducible first | exact HB.out | apply below_alloc | apply pw_below_drewN | apply below_drew1) | exact HB.out)) hb); clear HB; have HB := n0_; clear n0_; (try clear hb); (try clear hb2); (try clear hk); (try clear hi)))
        go_ret
        exact ⟨_, (by first | rfl | (simp only [show ∀ l : List UInt8, (l != []) = (!l.isEmpty) from fun l => by cases l <;> rfl]; rfl) | (simp [errW_none, errW_some] <;> rfl) | (simp [*, errW_none, errW_some] <;> rfl)), (by first | rfl | (rw [HKN.out]; exact (ClkNone.none_key _ (Aside0.out (by assumption))).symm)), by repeat (first | (with_reducible first | exact HB.out | apply below_alloc | apply pw_below_drewN | apply below_drew1) | exact HB.out)⟩
      · replace c4 := Bool.eq_false_iff.mpr c4
        subst c4
        have H1 : ((stevedoreref4_Seconds.f kj1 (wrap64 (((a0 / 65536) / 512) + 1980)) (Go.bits .and .i64 ((a0 / 65536) / 32) 15) (Go.bits .and .i64 (a0 / 65536) 31) ((Go.bits .and .i64 a0 65535) / 2048) (Go.bits .and .i64 ((Go.bits .and .i64 a0 65535) / 32) 63) (wrap64 ((Go.bits .and .i64 (Go.bits .and .i64 a0 65535) 31) * 2))).bind fun bt105 => (if bt105.2 = true then (some (floatOfInt .f64 bt105.1)) else ((stevedoreref4_None.f).bind fun t107 => (some t107)))) = some r := by rw [if_neg (show ¬ (false = true) by decide)] at H; exact H
        clear H
        have H := H1
        clear H1
        replace H := Option.bind_eq_some_iff.mp H
        obtain ⟨⟨t105, t106⟩, A70, H⟩ := H
        replace H : (if t106 = true then (some (floatOfInt .f64 t105)) else ((stevedoreref4_None.f).bind fun t107 => (some t107))) = some r := H
        have A7 := Aside0.mk A70
        clear A70
        by_cases c8 : t106 = true
        · subst c8
          have H1 : (some (floatOfInt .f64 t105)) = some r := by rw [if_pos rfl] at H; exact H
          clear H
          have H := H1
          clear H1
          obtain rfl := Option.some.inj H
          go_wp2_with (first | ((with_reducible refine gate_dst (N := 5) rfl ?_); refine box_event ?hg (N := 5) ?hd (cs := #[.int .i64 0, .int .i64 0, .int .i64 0, .int .i64 0, .int .i64 0, .int .i64 0]) (t := 23) ?hr ?_; (case hd => rfl); (case hg => rfl); (case hr => first | (go_simp; done) | (go_simp; rfl)); intro gb104 hg w9 hbox hb; have n0_ := Aside0.mk (below_step (by repeat (first | (with_reducible first | exact HB.out | apply below_alloc | apply pw_below_drewN | apply below_drew1) | exact HB.out)) hb); have n1_ := Aside0.mk (hbox); have n2_ := Aside0.mk ((by rw [hg]; exact (below_size (by repeat (first | (with_reducible first | exact HB.out | apply below_alloc | apply pw_below_drewN | apply below_drew1) | exact HB.out))) : w.heap.size ≤ gb104)); have n3_ := Aside0.mk ((by rw [hg]; exact (below_size (by repeat (first | (with_reducible first | exact HB.out | apply below_alloc | apply pw_below_drewN | apply below_drew1) | exact HB.out))) : w.heap.size ≤ gb104)); clear HB; have HB := n0_; have BK104 := n1_; have GW104 := n2_; have GE104 := n3_; clear n0_ n1_ n2_ n3_; clear hb hbox hg; have hcz10_0 : w9.cell? ⟨gb104, 0, none⟩ = some (.int .i64 0) := (blk_cell BK104.out 0).trans rfl; have hcz10_1 : w9.cell? ⟨gb104, 1, none⟩ = some (.int .i64 0) := (blk_cell BK104.out 1).trans rfl; have hcz10_2 : w9.cell? ⟨gb104, 2, none⟩ = some (.int .i64 0) := (blk_cell BK104.out 2).trans rfl; have hcz10_3 : w9.cell? ⟨gb104, 3, none⟩ = some (.int .i64 0) := (blk_cell BK104.out 3).trans rfl; have hcz10_4 : w9.cell? ⟨gb104, 4, none⟩ = some (.int .i64 0) := (blk_cell BK104.out 4).trans rfl; have hcz10_5 : w9.cell? ⟨gb104, 5, none⟩ = some (.int .i64 0) := (blk_cell BK104.out 5).trans rfl; have hfz10_0 := blk_frozen BK104.out 0; have hfz10_1 := blk_frozen BK104.out 1; have hfz10_2 := blk_frozen BK104.out 2; have hfz10_3 := blk_frozen BK104.out 3; have hfz10_4 := blk_frozen BK104.out 4; have hfz10_5 := blk_frozen BK104.out 5) | ((with_reducible refine gate_callee (f := 6) rfl ?_); refine goesL_ (some 38) rfl rfl Tryz.func6 (by kernel_rfl) rfl #[.agg #[.int .i64 (wrap64 (((a0 / 65536) / 512) + 1980)), .int .i64 (Go.bits .and .i64 ((a0 / 65536) / 32) 15), .int .i64 (Go.bits .and .i64 (a0 / 65536) 31), .int .i64 ((Go.bits .and .i64 a0 65535) / 2048), .int .i64 (Go.bits .and .i64 ((Go.bits .and .i64 a0 65535) / 32) 63), .int .i64 (wrap64 ((Go.bits .and .i64 (Go.bits .and .i64 a0 65535) 31) * 2))]] rfl (by (try simp only [List.map_toArray, List.map_cons, List.map_nil]); first | done | rfl | (simp only [List.length_drop, List.length_take]; rfl)) ?_; (with_reducible refine (stevedoreref4_Seconds.calls kj1 (wrap64 (((a0 / 65536) / 512) + 1980)) (Go.bits .and .i64 ((a0 / 65536) / 32) 15) (Go.bits .and .i64 (a0 / 65536) 31) ((Go.bits .and .i64 a0 65535) / 2048) (Go.bits .and .i64 ((Go.bits .and .i64 a0 65535) / 32) 63) (wrap64 ((Go.bits .and .i64 (Go.bits .and .i64 a0 65535) 31) * 2)) t105 true _ A7.out).mono ?_); rintro e w11 ⟨rfl, hb⟩; refine ⟨_, rfl, ?_⟩; have n0_ := Aside0.mk (blk_below (g := gb104) (o := .cells #[.int .i64 (wrap64 (((a0 / 65536) / 512) + 1980)), .int .i64 (Go.bits .and .i64 ((a0 / 65536) / 32) 15), .int .i64 (Go.bits .and .i64 (a0 / 65536) 31), .int .i64 ((Go.bits .and .i64 a0 65535) / 2048), .int .i64 (Go.bits .and .i64 ((Go.bits .and .i64 a0 65535) / 32) 63), .int .i64 (wrap64 ((Go.bits .and .i64 (Go.bits .and .i64 a0 65535) 31) * 2))] 23 (0, 0)) (by (with_reducible repeat (first | refine blk_drewN ?_ _ | refine blk_drew ?_ | refine blk_alloc ?_ _)); refine blk_put (cs := #[.int .i64 (wrap64 (((a0 / 65536) / 512) + 1980)), .int .i64 (Go.bits .and .i64 ((a0 / 65536) / 32) 15), .int .i64 (Go.bits .and .i64 (a0 / 65536) 31), .int .i64 ((Go.bits .and .i64 a0 65535) / 2048), .int .i64 (Go.bits .and .i64 ((Go.bits .and .i64 a0 65535) / 32) 63), .int .i64 0]) ?_ 5 _ rfl; (with_reducible repeat (first | refine blk_drewN ?_ _ | refine blk_drew ?_ | refine blk_alloc ?_ _)); refine blk_put (cs := #[.int .i64 (wrap64 (((a0 / 65536) / 512) + 1980)), .int .i64 (Go.bits .and .i64 ((a0 / 65536) / 32) 15), .int .i64 (Go.bits .and .i64 (a0 / 65536) 31), .int .i64 ((Go.bits .and .i64 a0 65535) / 2048), .int .i64 0, .int .i64 0]) ?_ 4 _ rfl; (with_reducible repeat (first | refine blk_drewN ?_ _ | refine blk_drew ?_ | refine blk_alloc ?_ _)); refine blk_put (cs := #[.int .i64 (wrap64 (((a0 / 65536) / 512) + 1980)), .int .i64 (Go.bits .and .i64 ((a0 / 65536) / 32) 15), .int .i64 (Go.bits .and .i64 (a0 / 65536) 31), .int .i64 0, .int .i64 0, .int .i64 0]) ?_ 3 _ rfl; (with_reducible repeat (first | refine blk_drewN ?_ _ | refine blk_drew ?_ | refine blk_alloc ?_ _)); refine blk_put (cs := #[.int .i64 (wrap64 (((a0 / 65536) / 512) + 1980)), .int .i64 (Go.bits .and .i64 ((a0 / 65536) / 32) 15), .int .i64 0, .int .i64 0, .int .i64 0, .int .i64 0]) ?_ 2 _ rfl; (with_reducible repeat (first | refine blk_drewN ?_ _ | refine blk_drew ?_ | refine blk_alloc ?_ _)); refine blk_put (cs := #[.int .i64 (wrap64 (((a0 / 65536) / 512) + 1980)), .int .i64 0, .int .i64 0, .int .i64 0, .int .i64 0, .int .i64 0]) ?_ 1 _ rfl; (with_reducible repeat (first | refine blk_drewN ?_ _ | refine blk_drew ?_ | refine blk_alloc ?_ _)); refine blk_put (cs := #[.int .i64 0, .int .i64 0, .int .i64 0, .int .i64 0, .int .i64 0, .int .i64 0]) ?_ 0 _ rfl; (with_reducible repeat (first | refine blk_drewN ?_ _ | refine blk_drew ?_ | refine blk_alloc ?_ _)); exact BK104.out) hb); have n1_ := Aside0.mk (below_step (by repeat (first | (with_reducible first | exact HB.out | apply below_alloc | apply pw_below_drewN | apply below_drew1 | refine below_set ?_ GE104.out) | exact HB.out)) hb); clear BK104; clear HB; have BK104 := n0_; have HB := n1_; clear n0_ n1_; (try clear hb); (try clear hb2); (try clear hk); (try clear hi)))
          go_ret
          exact ⟨_, (by first | rfl | (simp only [show ∀ l : List UInt8, (l != []) = (!l.isEmpty) from fun l => by cases l <;> rfl]; rfl) | (simp [errW_none, errW_some] <;> rfl) | (simp [*, errW_none, errW_some] <;> rfl)), (by first | rfl | (rw [HKN.out]; exact (ClkNone.none_key _ (Aside0.out (by assumption))).symm)), by repeat (first | (with_reducible first | exact HB.out | apply below_alloc | apply pw_below_drewN | apply below_drew1 | refine below_set ?_ GE104.out) | exact HB.out)⟩
        · replace c8 := Bool.eq_false_iff.mpr c8
          subst c8
          have H1 : ((stevedoreref4_None.f).bind fun t107 => (some t107)) = some r := by rw [if_neg (show ¬ (false = true) by decide)] at H; exact H
          clear H
          have H := H1
          clear H1
          replace H := Option.bind_eq_some_iff.mp H
          obtain ⟨t107, A120, H⟩ := H
          replace H : (some t107) = some r := H
          have A12 := Aside0.mk A120
          clear A120
          obtain rfl := Option.some.inj H
          go_wp2_with (first | ((with_reducible refine gate_dst (N := 5) rfl ?_); refine box_event ?hg (N := 5) ?hd (cs := #[.int .i64 0, .int .i64 0, .int .i64 0, .int .i64 0, .int .i64 0, .int .i64 0]) (t := 23) ?hr ?_; (case hd => rfl); (case hg => rfl); (case hr => first | (go_simp; done) | (go_simp; rfl)); intro gb104 hg w13 hbox hb; have n0_ := Aside0.mk (below_step (by repeat (first | (with_reducible first | exact HB.out | apply below_alloc | apply pw_below_drewN | apply below_drew1) | exact HB.out)) hb); have n1_ := Aside0.mk (hbox); have n2_ := Aside0.mk ((by rw [hg]; exact (below_size (by repeat (first | (with_reducible first | exact HB.out | apply below_alloc | apply pw_below_drewN | apply below_drew1) | exact HB.out))) : w.heap.size ≤ gb104)); have n3_ := Aside0.mk ((by rw [hg]; exact (below_size (by repeat (first | (with_reducible first | exact HB.out | apply below_alloc | apply pw_below_drewN | apply below_drew1) | exact HB.out))) : w.heap.size ≤ gb104)); clear HB; have HB := n0_; have BK104 := n1_; have GW104 := n2_; have GE104 := n3_; clear n0_ n1_ n2_ n3_; clear hb hbox hg; have hcz14_0 : w13.cell? ⟨gb104, 0, none⟩ = some (.int .i64 0) := (blk_cell BK104.out 0).trans rfl; have hcz14_1 : w13.cell? ⟨gb104, 1, none⟩ = some (.int .i64 0) := (blk_cell BK104.out 1).trans rfl; have hcz14_2 : w13.cell? ⟨gb104, 2, none⟩ = some (.int .i64 0) := (blk_cell BK104.out 2).trans rfl; have hcz14_3 : w13.cell? ⟨gb104, 3, none⟩ = some (.int .i64 0) := (blk_cell BK104.out 3).trans rfl; have hcz14_4 : w13.cell? ⟨gb104, 4, none⟩ = some (.int .i64 0) := (blk_cell BK104.out 4).trans rfl; have hcz14_5 : w13.cell? ⟨gb104, 5, none⟩ = some (.int .i64 0) := (blk_cell BK104.out 5).trans rfl; have hfz14_0 := blk_frozen BK104.out 0; have hfz14_1 := blk_frozen BK104.out 1; have hfz14_2 := blk_frozen BK104.out 2; have hfz14_3 := blk_frozen BK104.out 3; have hfz14_4 := blk_frozen BK104.out 4; have hfz14_5 := blk_frozen BK104.out 5) | ((with_reducible refine gate_callee (f := 6) rfl ?_); refine goesL_ (some 38) rfl rfl Tryz.func6 (by kernel_rfl) rfl #[.agg #[.int .i64 (wrap64 (((a0 / 65536) / 512) + 1980)), .int .i64 (Go.bits .and .i64 ((a0 / 65536) / 32) 15), .int .i64 (Go.bits .and .i64 (a0 / 65536) 31), .int .i64 ((Go.bits .and .i64 a0 65535) / 2048), .int .i64 (Go.bits .and .i64 ((Go.bits .and .i64 a0 65535) / 32) 63), .int .i64 (wrap64 ((Go.bits .and .i64 (Go.bits .and .i64 a0 65535) 31) * 2))]] rfl (by (try simp only [List.map_toArray, List.map_cons, List.map_nil]); first | done | rfl | (simp only [List.length_drop, List.length_take]; rfl)) ?_; (with_reducible refine (stevedoreref4_Seconds.calls kj1 (wrap64 (((a0 / 65536) / 512) + 1980)) (Go.bits .and .i64 ((a0 / 65536) / 32) 15) (Go.bits .and .i64 (a0 / 65536) 31) ((Go.bits .and .i64 a0 65535) / 2048) (Go.bits .and .i64 ((Go.bits .and .i64 a0 65535) / 32) 63) (wrap64 ((Go.bits .and .i64 (Go.bits .and .i64 a0 65535) 31) * 2)) t105 false _ A7.out).mono ?_); rintro e w15 ⟨rfl, hb⟩; refine ⟨_, rfl, ?_⟩; have n0_ := Aside0.mk (blk_below (g := gb104) (o := .cells #[.int .i64 (wrap64 (((a0 / 65536) / 512) + 1980)), .int .i64 (Go.bits .and .i64 ((a0 / 65536) / 32) 15), .int .i64 (Go.bits .and .i64 (a0 / 65536) 31), .int .i64 ((Go.bits .and .i64 a0 65535) / 2048), .int .i64 (Go.bits .and .i64 ((Go.bits .and .i64 a0 65535) / 32) 63), .int .i64 (wrap64 ((Go.bits .and .i64 (Go.bits .and .i64 a0 65535) 31) * 2))] 23 (0, 0)) (by (with_reducible repeat (first | refine blk_drewN ?_ _ | refine blk_drew ?_ | refine blk_alloc ?_ _)); refine blk_put (cs := #[.int .i64 (wrap64 (((a0 / 65536) / 512) + 1980)), .int .i64 (Go.bits .and .i64 ((a0 / 65536) / 32) 15), .int .i64 (Go.bits .and .i64 (a0 / 65536) 31), .int .i64 ((Go.bits .and .i64 a0 65535) / 2048), .int .i64 (Go.bits .and .i64 ((Go.bits .and .i64 a0 65535) / 32) 63), .int .i64 0]) ?_ 5 _ rfl; (with_reducible repeat (first | refine blk_drewN ?_ _ | refine blk_drew ?_ | refine blk_alloc ?_ _)); refine blk_put (cs := #[.int .i64 (wrap64 (((a0 / 65536) / 512) + 1980)), .int .i64 (Go.bits .and .i64 ((a0 / 65536) / 32) 15), .int .i64 (Go.bits .and .i64 (a0 / 65536) 31), .int .i64 ((Go.bits .and .i64 a0 65535) / 2048), .int .i64 0, .int .i64 0]) ?_ 4 _ rfl; (with_reducible repeat (first | refine blk_drewN ?_ _ | refine blk_drew ?_ | refine blk_alloc ?_ _)); refine blk_put (cs := #[.int .i64 (wrap64 (((a0 / 65536) / 512) + 1980)), .int .i64 (Go.bits .and .i64 ((a0 / 65536) / 32) 15), .int .i64 (Go.bits .and .i64 (a0 / 65536) 31), .int .i64 0, .int .i64 0, .int .i64 0]) ?_ 3 _ rfl; (with_reducible repeat (first | refine blk_drewN ?_ _ | refine blk_drew ?_ | refine blk_alloc ?_ _)); refine blk_put (cs := #[.int .i64 (wrap64 (((a0 / 65536) / 512) + 1980)), .int .i64 (Go.bits .and .i64 ((a0 / 65536) / 32) 15), .int .i64 0, .int .i64 0, .int .i64 0, .int .i64 0]) ?_ 2 _ rfl; (with_reducible repeat (first | refine blk_drewN ?_ _ | refine blk_drew ?_ | refine blk_alloc ?_ _)); refine blk_put (cs := #[.int .i64 (wrap64 (((a0 / 65536) / 512) + 1980)), .int .i64 0, .int .i64 0, .int .i64 0, .int .i64 0, .int .i64 0]) ?_ 1 _ rfl; (with_reducible repeat (first | refine blk_drewN ?_ _ | refine blk_drew ?_ | refine blk_alloc ?_ _)); refine blk_put (cs := #[.int .i64 0, .int .i64 0, .int .i64 0, .int .i64 0, .int .i64 0, .int .i64 0]) ?_ 0 _ rfl; (with_reducible repeat (first | refine blk_drewN ?_ _ | refine blk_drew ?_ | refine blk_alloc ?_ _)); exact BK104.out) hb); have n1_ := Aside0.mk (below_step (by repeat (first | (with_reducible first | exact HB.out | apply below_alloc | apply pw_below_drewN | apply below_drew1 | refine below_set ?_ GE104.out) | exact HB.out)) hb); clear BK104; clear HB; have BK104 := n0_; have HB := n1_; clear n0_ n1_; (try clear hb); (try clear hb2); (try clear hk); (try clear hi)) | ((with_reducible refine gate_callee (f := 26) rfl ?_); refine goesL_ (some 43) rfl rfl Tryz.func26 (by kernel_rfl) rfl #[] rfl (by (try simp only [List.map_toArray, List.map_cons, List.map_nil]); first | done | rfl | (simp only [List.length_drop, List.length_take]; rfl)) ?_; (with_reducible refine (ClkTold.none_calls _).mono ?_); rintro e w16 ⟨bn, rfl, hkn, hb⟩; have HKN := Aside0.mk hkn; clear hkn; refine ⟨_, rfl, ?_⟩; have n0_ := Aside0.mk (blk_below (g := gb104) (o := .cells #[.int .i64 (wrap64 (((a0 / 65536) / 512) + 1980)), .int .i64 (Go.bits .and .i64 ((a0 / 65536) / 32) 15), .int .i64 (Go.bits .and .i64 (a0 / 65536) 31), .int .i64 ((Go.bits .and .i64 a0 65535) / 2048), .int .i64 (Go.bits .and .i64 ((Go.bits .and .i64 a0 65535) / 32) 63), .int .i64 (wrap64 ((Go.bits .and .i64 (Go.bits .and .i64 a0 65535) 31) * 2))] 23 (0, 0)) (by (with_reducible repeat (first | refine blk_drewN ?_ _ | refine blk_drew ?_ | refine blk_alloc ?_ _)); exact BK104.out) hb); have n1_ := Aside0.mk (below_step (by repeat (first | (with_reducible first | exact HB.out | apply below_alloc | apply pw_below_drewN | apply below_drew1 | refine below_set ?_ GE104.out) | exact HB.out)) hb); clear BK104; clear HB; have BK104 := n0_; have HB := n1_; clear n0_ n1_; (try clear hb); (try clear hb2); (try clear hk); (try clear hi)))
          go_ret
          exact ⟨_, (by first | rfl | (simp only [show ∀ l : List UInt8, (l != []) = (!l.isEmpty) from fun l => by cases l <;> rfl]; rfl) | (simp [errW_none, errW_some] <;> rfl) | (simp [*, errW_none, errW_some] <;> rfl)), (by first | rfl | (rw [HKN.out]; exact (ClkNone.none_key _ (Aside0.out (by assumption))).symm)), by repeat (first | (with_reducible first | exact HB.out | apply below_alloc | apply pw_below_drewN | apply below_drew1 | refine below_set ?_ GE104.out) | exact HB.out)⟩

end Go.Proofs.YtfmfikodnpnblaaGreatDoor.PClkF

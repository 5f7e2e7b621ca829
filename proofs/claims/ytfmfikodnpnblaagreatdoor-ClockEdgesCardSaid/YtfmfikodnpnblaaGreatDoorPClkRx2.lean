-- Written by this repo's gprint.py over the kit's printer, out of the translation. Not trusted: Lean checks it.
import Derived.Test.YtfmfikodnpnblaaGreatDoorPClkRx0
import Derived.Test.YtfmfikodnpnblaaGreatDoorPClkRx1
namespace Go.Proofs.YtfmfikodnpnblaaGreatDoor.PClkR
open Go.RowKit Go.Proofs.YtfmfikodnpnblaaGreatDoorW.PrintWords Go.Proofs.YtfmfikodnpnblaaGreatDoorW.PrintLast Go.Proofs.YtfmfikodnpnblaaGreatDoorW.PrintMore
attribute [local go_sem] max2_int min2_int max_two min_two max_three min_three max_four min_four   -- for this text's walks alone

attribute [local go_sem] fop_run fint_run fofint_run
set_option linter.unusedVariables false
set_option linter.unusedSimpArgs false

/-! ### stevedoreref4_Date: function 11 -/
mutual
def stevedoreref4_Date.j0 : Nat → Int → Bool → Option (Int × Int × Int × Int × Int × Int)
  | 0, _, _ => none
  | k + 1, x0, x12 => if x12 = true then (some (0, 0, 0, 0, 0, 0)) else ((stevedoreref4_floor.f x0 86400).bind fun t115 => ((stevedoreref4_floor.f t115 366).bind fun t116 => (if t115 < 0 then ((stevedoreref4_floor.f t115 365).bind fun t117 => (stevedoreref4_Date.j1 k t115 (wrap64 (x0 - (wrap64 (t115 * 86400)))) (wrap64 (1970 + t117)))) else (stevedoreref4_Date.j1 k t115 (wrap64 (x0 - (wrap64 (t115 * 86400)))) (wrap64 (1970 + t116))))))
def stevedoreref4_Date.j1 : Nat → Int → Int → Int → Option (Int × Int × Int × Int × Int × Int)
  | 0, _, _, _ => none
  | k + 1, x3, x4, x5 => stevedoreref4_Date.l0 k x3 x4 x5
def stevedoreref4_Date.l0 : Nat → Int → Int → Int → Option (Int × Int × Int × Int × Int × Int)
  | 0, _, _, _ => none
  | k + 1, x3, x4, x5 => (stevedoreref4_Days2.f (wrap64 (x5 + 1))).bind fun t118 => (if t118 ≤ x3 then (stevedoreref4_Date.l0 k x3 x4 (wrap64 (x5 + 1))) else (stevedoreref4_Date.l1 k x3 x4 x5))
def stevedoreref4_Date.l1 : Nat → Int → Int → Int → Option (Int × Int × Int × Int × Int × Int)
  | 0, _, _, _ => none
  | k + 1, x3, x4, x5 => (stevedoreref4_Days2.f x5).bind fun t119 => (if t119 > x3 then (stevedoreref4_Date.l1 k x3 x4 (wrap64 (x5 - 1))) else ((stevedoreref4_Days2.f x5).bind fun t120 => (stevedoreref4_Date.l2 k (wrap64 (x3 - t120)) x4 x5 1)))
def stevedoreref4_Date.l2 : Nat → Int → Int → Int → Int → Option (Int × Int × Int × Int × Int × Int)
  | 0, _, _, _, _ => none
  | k + 1, x3, x4, x5, x6 => (stevedoreref4_Month.f x5 x6).bind fun t121 => (if x3 ≥ t121 then ((stevedoreref4_Month.f x5 x6).bind fun t122 => (stevedoreref4_Date.l2 k (wrap64 (x3 - t122)) x4 x5 (wrap64 (x6 + 1)))) else (some (x5, x6, wrap64 (x3 + 1), wrap64 (Int.tdiv x4 3600), Int.tmod (wrap64 (Int.tdiv x4 60)) 60, Int.tmod x4 60)))
end
def stevedoreref4_Date.f (k : Nat) (a0 : Int) : Option (Int × Int × Int × Int × Int × Int) := if a0 < (-1099511627776) then (stevedoreref4_Date.j0 k a0 true) else (stevedoreref4_Date.j0 k a0 (decide (a0 > 1099511627776)))
theorem stevedoreref4_Date.mono_l : ∀ k, (∀ y0 y1, LeO (stevedoreref4_Date.j0 k y0 y1) (stevedoreref4_Date.j0 (k + 1) y0 y1)) ∧ (∀ y0 y1 y2, LeO (stevedoreref4_Date.j1 k y0 y1 y2) (stevedoreref4_Date.j1 (k + 1) y0 y1 y2)) ∧ (∀ y0 y1 y2, LeO (stevedoreref4_Date.l0 k y0 y1 y2) (stevedoreref4_Date.l0 (k + 1) y0 y1 y2)) ∧ (∀ y0 y1 y2, LeO (stevedoreref4_Date.l1 k y0 y1 y2) (stevedoreref4_Date.l1 (k + 1) y0 y1 y2)) ∧ (∀ y0 y1 y2 y3, LeO (stevedoreref4_Date.l2 k y0 y1 y2 y3) (stevedoreref4_Date.l2 (k + 1) y0 y1 y2 y3))
  | 0 => ⟨fun _ _ r h => by simp [stevedoreref4_Date.j0] at h, fun _ _ _ r h => by simp [stevedoreref4_Date.j1] at h, fun _ _ _ r h => by simp [stevedoreref4_Date.l0] at h, fun _ _ _ r h => by simp [stevedoreref4_Date.l1] at h, fun _ _ _ _ r h => by simp [stevedoreref4_Date.l2] at h⟩
  | k + 1 => by
    obtain ⟨ih0, ih1, ih2, ih3, ih4⟩ := stevedoreref4_Date.mono_l k
    refine ⟨?_, ?_, ?_, ?_, ?_⟩
    · intro y0 y1
      unfold stevedoreref4_Date.j0
      repeat' first
      | (with_reducible exact ih0 _ _)
      | (with_reducible exact ih1 _ _ _)
      | (with_reducible exact ih2 _ _ _)
      | (with_reducible exact ih3 _ _ _)
      | (with_reducible exact ih4 _ _ _ _)
      | (with_reducible exact LeO.refl _)
      | (with_reducible exact LeO.none _)
      | (with_reducible refine LeO.ite ?_ ?_)
      | (with_reducible refine LeO.bind ?_ (fun _ => ?_))
      | exact ih0 _ _
      | exact ih1 _ _ _
      | exact ih2 _ _ _
      | exact ih3 _ _ _
      | exact ih4 _ _ _ _
      | exact LeO.none _
      | refine LeO.ite ?_ ?_
      | refine LeO.bind ?_ (fun _ => ?_)
    · intro y0 y1 y2
      unfold stevedoreref4_Date.j1
      repeat' first
      | (with_reducible exact ih0 _ _)
      | (with_reducible exact ih1 _ _ _)
      | (with_reducible exact ih2 _ _ _)
      | (with_reducible exact ih3 _ _ _)
      | (with_reducible exact ih4 _ _ _ _)
      | (with_reducible exact LeO.refl _)
      | (with_reducible exact LeO.none _)
      | (with_reducible refine LeO.ite ?_ ?_)
      | (with_reducible refine LeO.bind ?_ (fun _ => ?_))
      | exact ih0 _ _
      | exact ih1 _ _ _
      | exact ih2 _ _ _
      | exact ih3 _ _ _
      | exact ih4 _ _ _ _
      | exact LeO.none _
      | refine LeO.ite ?_ ?_
      | refine LeO.bind ?_ (fun _ => ?_)
    · intro y0 y1 y2
      unfold stevedoreref4_Date.l0
      repeat' first
      | (with_reducible exact ih0 _ _)
      | (with_reducible exact ih1 _ _ _)
      | (with_reducible exact ih2 _ _ _)
      | (with_reducible exact ih3 _ _ _)
      | (with_reducible exact ih4 _ _ _ _)
      | (with_reducible exact LeO.refl _)
      | (with_reducible exact LeO.none _)
      | (with_reducible refine LeO.ite ?_ ?_)
      | (with_reducible refine LeO.bind ?_ (fun _ => ?_))
      | exact ih0 _ _
      | exact ih1 _ _ _
      | exact ih2 _ _ _
      | exact ih3 _ _ _
      | exact ih4 _ _ _ _
      | exact LeO.none _
      | refine LeO.ite ?_ ?_
      | refine LeO.bind ?_ (fun _ => ?_)
    · intro y0 y1 y2
      unfold stevedoreref4_Date.l1
      repeat' first
      | (with_reducible exact ih0 _ _)
      | (with_reducible exact ih1 _ _ _)
      | (with_reducible exact ih2 _ _ _)
      | (with_reducible exact ih3 _ _ _)
      | (with_reducible exact ih4 _ _ _ _)
      | (with_reducible exact LeO.refl _)
      | (with_reducible exact LeO.none _)
      | (with_reducible refine LeO.ite ?_ ?_)
      | (with_reducible refine LeO.bind ?_ (fun _ => ?_))
      | exact ih0 _ _
      | exact ih1 _ _ _
      | exact ih2 _ _ _
      | exact ih3 _ _ _
      | exact ih4 _ _ _ _
      | exact LeO.none _
      | refine LeO.ite ?_ ?_
      | refine LeO.bind ?_ (fun _ => ?_)
    · intro y0 y1 y2 y3
      unfold stevedoreref4_Date.l2
      repeat' first
      | (with_reducible exact ih0 _ _)
      | (with_reducible exact ih1 _ _ _)
      | (with_reducible exact ih2 _ _ _)
      | (with_reducible exact ih3 _ _ _)
      | (with_reducible exact ih4 _ _ _ _)
      | (with_reducible exact LeO.refl _)
      | (with_reducible exact LeO.none _)
      | (with_reducible refine LeO.ite ?_ ?_)
      | (with_reducible refine LeO.bind ?_ (fun _ => ?_))
      | exact ih0 _ _
      | exact ih1 _ _ _
      | exact ih2 _ _ _
      | exact ih3 _ _ _
      | exact ih4 _ _ _ _
      | exact LeO.none _
      | refine LeO.ite ?_ ?_
      | refine LeO.bind ?_ (fun _ => ?_)
theorem stevedoreref4_Date.mono : ∀ a0 k, LeO (stevedoreref4_Date.f k a0) (stevedoreref4_Date.f (k + 1) a0) := by
  intro a0 k
  obtain ⟨ih0, ih1, ih2, ih3, ih4⟩ := stevedoreref4_Date.mono_l k
  unfold stevedoreref4_Date.f
  repeat' first
      | (with_reducible exact ih0 _ _)
      | (with_reducible exact ih1 _ _ _)
      | (with_reducible exact ih2 _ _ _)
      | (with_reducible exact ih3 _ _ _)
      | (with_reducible exact ih4 _ _ _ _)
      | (with_reducible exact LeO.refl _)
      | (with_reducible exact LeO.none _)
      | (with_reducible refine LeO.ite ?_ ?_)
      | (with_reducible refine LeO.bind ?_ (fun _ => ?_))
      | exact ih0 _ _
      | exact ih1 _ _ _
      | exact ih2 _ _ _
      | exact ih3 _ _ _
      | exact ih4 _ _ _ _
      | exact LeO.none _
      | refine LeO.ite ?_ ?_
      | refine LeO.bind ?_ (fun _ => ?_)
set_option maxHeartbeats 8000000 in
set_option maxRecDepth 100000 in
theorem stevedoreref4_Date.calls (k : Nat) (a0 : Int) (r1 : Int) (r2 : Int) (r3 : Int) (r4 : Int) (r5 : Int) (r6 : Int) (w : World) (h : stevedoreref4_Date.f k a0 = some (r1, r2, r3, r4, r5, r6)) :
    Calls Tryz.prog 11 #[.int .i64 a0] w fun e w' => e = .returned (.agg #[.int .i64 r1, .int .i64 r2, .int .i64 r3, .int .i64 r4, .int .i64 r5, .int .i64 r6]) ∧ Below w.heap.size w w' := by
  have hu23 := Tryz.underlying23
  have HB := Aside0.mk (Below.refl w.heap.size w)
  have H : (if a0 < (-1099511627776) then (stevedoreref4_Date.j0 k a0 true) else (stevedoreref4_Date.j0 k a0 (decide (a0 > 1099511627776)))) = some (r1, r2, r3, r4, r5, r6) := h
  clear h
  have HC2 := Aside0.mk H
  clear H
  go_enter Tryz.func11, Tryz.ntmps11
  go_upto_region 1 with (first | ((with_reducible refine gate_dst (N := 2) rfl ?_); refine box_event ?hg (N := 2) ?hd (cs := #[.int .i64 0, .int .i64 0, .int .i64 0, .int .i64 0, .int .i64 0, .int .i64 0]) (t := 23) ?hr ?_; (case hd => rfl); (case hg => rfl); (case hr => first | (go_simp; done) | (go_simp; rfl)); intro gb114 hg w3 hbox hb; have n0_ := Aside0.mk (below_step (by repeat (first | (with_reducible first | exact HB.out | apply below_alloc | apply pw_below_drewN | apply below_drew1) | exact HB.out)) hb); have n1_ := Aside0.mk (hbox); have n2_ := Aside0.mk ((by rw [hg]; exact (below_size (by repeat (first | (with_reducible first | exact HB.out | apply below_alloc | apply pw_below_drewN | apply below_drew1) | exact HB.out))) : w.heap.size ≤ gb114)); have n3_ := Aside0.mk ((by rw [hg]; exact (below_size (by repeat (first | (with_reducible first | exact HB.out | apply below_alloc | apply pw_below_drewN | apply below_drew1) | exact HB.out))) : w.heap.size ≤ gb114)); clear HB; have HB := n0_; have BK114 := n1_; have GW114 := n2_; have GE114 := n3_; clear n0_ n1_ n2_ n3_; clear hb hbox hg))
  (try simp only [Act.put, List.setIfInBounds_toArray, List.set_cons_zero, List.set_cons_succ])
  go_cut [12] (fun v12 wc => ∃ (kq : Nat) (x12_1 : Bool), v12 = .bool x12_1 ∧ Aside0 (stevedoreref4_Date.j0 kq a0 x12_1 = some (r1, r2, r3, r4, r5, r6)) ∧ Aside0 (kq ≤ k) ∧ Aside0 (wc.heap[gb114]? = some (.cells #[.int .i64 0, .int .i64 0, .int .i64 0, .int .i64 0, .int .i64 0, .int .i64 0] 23 (0, 0))) ∧ Aside0 (Below w.heap.size w wc))
  case first =>
    have H := HC2.out
    clear HC2
    by_cases c4 : a0 < (-1099511627776)
    · rw [if_pos c4] at H
      have c4b0 : decide (a0 < (-1099511627776)) = true := decide_eq_true c4
      clear c4
      (first | rw [c4b0] | (simp only [i64_w, i32_w]; rw [c4b0]) | rw [c4b1] | skip)
      have H' := Aside0.mk H
      clear H
      go_wp2
      go_meet
      case rel => exact ⟨_, (true), (by first | rfl | (simp; done) | (simp [*]; done)), H', ⟨by first | omega | exact Nat.le_refl _⟩, ⟨by (with_reducible repeat (first | refine blk_drewN ?_ _ | refine blk_drew ?_ | refine blk_alloc ?_ _)); exact BK114.out⟩, ⟨by repeat (first | (with_reducible first | exact HB.out | apply below_alloc | apply pw_below_drewN | apply below_drew1 | refine below_set ?_ GE114.out) | exact HB.out)⟩⟩
    · rw [if_neg c4] at H
      have c4b0 : decide (a0 < (-1099511627776)) = false := decide_eq_false c4
      clear c4
      (first | rw [c4b0] | (simp only [i64_w, i32_w]; rw [c4b0]) | rw [c4b1] | skip)
      have H' := Aside0.mk H
      clear H
      go_wp2
      go_meet
      case rel => exact ⟨_, (decide (a0 > 1099511627776)), (by first | rfl | (simp; done) | (simp [*]; done)), H', ⟨by first | omega | exact Nat.le_refl _⟩, ⟨by (with_reducible repeat (first | refine blk_drewN ?_ _ | refine blk_drew ?_ | refine blk_alloc ?_ _)); exact BK114.out⟩, ⟨by repeat (first | (with_reducible first | exact HB.out | apply below_alloc | apply pw_below_drewN | apply below_drew1 | refine below_set ?_ GE114.out) | exact HB.out)⟩⟩
  case rest =>
    clear HC2
    try clear c1
    try clear p2
    try clear c4
    try clear c4b0
    obtain ⟨kq, x12_1, rfl, HA, HJ1, BK114, HB⟩ := hcut
    cases kq with
    | zero => exact absurd HA.out (by simp [stevedoreref4_Date.j0])
    | succ kj1 =>
      have H := HA.out
      clear HA
      simp only [stevedoreref4_Date.j0] at H
      by_cases c5 : x12_1 = true
      · subst c5
        have H1 : (some (0, 0, 0, 0, 0, 0)) = some (r1, r2, r3, r4, r5, r6) := by rw [if_pos rfl] at H; exact H
        clear H
        have H := H1
        clear H1
        simp only [Option.some.injEq, Prod.mk.injEq] at H
        obtain ⟨rfl, rfl, rfl, rfl, rfl, rfl⟩ := H
        have hcz6_0 : wc.cell? ⟨gb114, 0, none⟩ = some (.int .i64 0) := (blk_cell BK114.out 0).trans rfl
        have hcz6_1 : wc.cell? ⟨gb114, 1, none⟩ = some (.int .i64 0) := (blk_cell BK114.out 1).trans rfl
        have hcz6_2 : wc.cell? ⟨gb114, 2, none⟩ = some (.int .i64 0) := (blk_cell BK114.out 2).trans rfl
        have hcz6_3 : wc.cell? ⟨gb114, 3, none⟩ = some (.int .i64 0) := (blk_cell BK114.out 3).trans rfl
        have hcz6_4 : wc.cell? ⟨gb114, 4, none⟩ = some (.int .i64 0) := (blk_cell BK114.out 4).trans rfl
        have hcz6_5 : wc.cell? ⟨gb114, 5, none⟩ = some (.int .i64 0) := (blk_cell BK114.out 5).trans rfl
        have hfz6_0 := blk_frozen BK114.out 0
        have hfz6_1 := blk_frozen BK114.out 1
        have hfz6_2 := blk_frozen BK114.out 2
        have hfz6_3 := blk_frozen BK114.out 3
        have hfz6_4 := blk_frozen BK114.out 4
        have hfz6_5 := blk_frozen BK114.out 5
        go_wp2
        refine bodyPost_ret (results_cell_row rfl _ _ gb114 23 #[.int .i64 0, .int .i64 0, .int .i64 0, .int .i64 0, .int .i64 0, .int .i64 0] (0, 0) _ rfl (by (with_reducible repeat (first | refine blk_drewN ?_ _ | refine blk_drew ?_ | refine blk_alloc ?_ _)); refine blk_put (cs := #[.int .i64 0, .int .i64 0, .int .i64 0, .int .i64 0, .int .i64 0, .int .i64 0]) ?_ 5 _ rfl; (with_reducible repeat (first | refine blk_drewN ?_ _ | refine blk_drew ?_ | refine blk_alloc ?_ _)); refine blk_put (cs := #[.int .i64 0, .int .i64 0, .int .i64 0, .int .i64 0, .int .i64 0, .int .i64 0]) ?_ 4 _ rfl; (with_reducible repeat (first | refine blk_drewN ?_ _ | refine blk_drew ?_ | refine blk_alloc ?_ _)); refine blk_put (cs := #[.int .i64 0, .int .i64 0, .int .i64 0, .int .i64 0, .int .i64 0, .int .i64 0]) ?_ 3 _ rfl; (with_reducible repeat (first | refine blk_drewN ?_ _ | refine blk_drew ?_ | refine blk_alloc ?_ _)); refine blk_put (cs := #[.int .i64 0, .int .i64 0, .int .i64 0, .int .i64 0, .int .i64 0, .int .i64 0]) ?_ 2 _ rfl; (with_reducible repeat (first | refine blk_drewN ?_ _ | refine blk_drew ?_ | refine blk_alloc ?_ _)); refine blk_put (cs := #[.int .i64 0, .int .i64 0, .int .i64 0, .int .i64 0, .int .i64 0, .int .i64 0]) ?_ 1 _ rfl; (with_reducible repeat (first | refine blk_drewN ?_ _ | refine blk_drew ?_ | refine blk_alloc ?_ _)); refine blk_put (cs := #[.int .i64 0, .int .i64 0, .int .i64 0, .int .i64 0, .int .i64 0, .int .i64 0]) ?_ 0 _ rfl; (with_reducible repeat (first | refine blk_drewN ?_ _ | refine blk_drew ?_ | refine blk_alloc ?_ _)); exact BK114.out) Tryz.underlying23 rfl (by kernel_rfl)) rfl ?_
        exact ⟨by first | rfl | (simp only [show ∀ l : List UInt8, (l != []) = (!l.isEmpty) from fun l => by cases l <;> rfl]; rfl) | (simp [errW_none, errW_some] <;> rfl) | (simp [*, errW_none, errW_some] <;> rfl), by repeat (first | (with_reducible first | exact HB.out | apply below_alloc | apply pw_below_drewN | apply below_drew1 | refine below_set ?_ GE114.out) | exact HB.out)⟩
      · replace c5 := Bool.eq_false_iff.mpr c5
        subst c5
        have H1 : ((stevedoreref4_floor.f a0 86400).bind fun t115 => ((stevedoreref4_floor.f t115 366).bind fun t116 => (if t115 < 0 then ((stevedoreref4_floor.f t115 365).bind fun t117 => (stevedoreref4_Date.j1 kj1 t115 (wrap64 (a0 - (wrap64 (t115 * 86400)))) (wrap64 (1970 + t117)))) else (stevedoreref4_Date.j1 kj1 t115 (wrap64 (a0 - (wrap64 (t115 * 86400)))) (wrap64 (1970 + t116)))))) = some (r1, r2, r3, r4, r5, r6) := by rw [if_neg (show ¬ (false = true) by decide)] at H; exact H
        clear H
        have H := H1
        clear H1
        replace H := Option.bind_eq_some_iff.mp H
        obtain ⟨t115, A70, H⟩ := H
        replace H : ((stevedoreref4_floor.f t115 366).bind fun t116 => (if t115 < 0 then ((stevedoreref4_floor.f t115 365).bind fun t117 => (stevedoreref4_Date.j1 kj1 t115 (wrap64 (a0 - (wrap64 (t115 * 86400)))) (wrap64 (1970 + t117)))) else (stevedoreref4_Date.j1 kj1 t115 (wrap64 (a0 - (wrap64 (t115 * 86400)))) (wrap64 (1970 + t116))))) = some (r1, r2, r3, r4, r5, r6) := H
        have A7 := Aside0.mk A70
        clear A70
        replace H := Option.bind_eq_some_iff.mp H
        obtain ⟨t116, A80, H⟩ := H
        replace H : (if t115 < 0 then ((stevedoreref4_floor.f t115 365).bind fun t117 => (stevedoreref4_Date.j1 kj1 t115 (wrap64 (a0 - (wrap64 (t115 * 86400)))) (wrap64 (1970 + t117)))) else (stevedoreref4_Date.j1 kj1 t115 (wrap64 (a0 - (wrap64 (t115 * 86400)))) (wrap64 (1970 + t116)))) = some (r1, r2, r3, r4, r5, r6) := H
        have A8 := Aside0.mk A80
        clear A80
        have HC9 := Aside0.mk H
        clear H
        go_upto_if 24 with (first | ((with_reducible refine gate_callee (f := 31) rfl ?_); refine goesL_ (some 15) rfl rfl Tryz.func31 (by kernel_rfl) rfl #[.int .i64 a0, .int .i64 86400] rfl (by (try simp only [List.map_toArray, List.map_cons, List.map_nil]); first | done | rfl | (simp only [List.length_drop, List.length_take]; rfl)) ?_; (with_reducible refine (stevedoreref4_floor.calls a0 86400 t115 _ A7.out).mono ?_); rintro e w' ⟨rfl, ⟨nd, rfl⟩⟩; refine ⟨_, rfl, ?_⟩) | ((with_reducible refine gate_callee (f := 31) rfl ?_); refine goesL_ (some 21) rfl rfl Tryz.func31 (by kernel_rfl) rfl #[.int .i64 t115, .int .i64 366] rfl (by (try simp only [List.map_toArray, List.map_cons, List.map_nil]); first | done | rfl | (simp only [List.length_drop, List.length_take]; rfl)) ?_; (with_reducible refine (stevedoreref4_floor.calls t115 366 t116 _ A8.out).mono ?_); rintro e w' ⟨rfl, ⟨nd, rfl⟩⟩; refine ⟨_, rfl, ?_⟩))
        (try simp only [Act.put, List.setIfInBounds_toArray, List.set_cons_zero, List.set_cons_succ])
        go_cut [5] (fun v5 wc => ∃ (kq : Nat) (x5_8 : Int), v5 = .int .i64 x5_8 ∧ Aside0 (stevedoreref4_Date.j1 kq t115 (wrap64 (a0 - (wrap64 (t115 * 86400)))) x5_8 = some (r1, r2, r3, r4, r5, r6)) ∧ Aside0 (kq ≤ kj1) ∧ Aside0 (wc.heap[gb114]? = some (.cells #[.int .i64 0, .int .i64 0, .int .i64 0, .int .i64 0, .int .i64 0, .int .i64 0] 23 (0, 0))) ∧ Aside0 (Below w.heap.size w wc))
        case first =>
          have H := HC9.out
          clear HC9
          by_cases c10 : t115 < 0
          · rw [if_pos c10] at H
            have c10b0 : decide (t115 < 0) = true := decide_eq_true c10
            clear c10
            (first | rw [c10b0] | (simp only [i64_w, i32_w]; rw [c10b0]) | rw [c10b1] | skip)
            replace H := Option.bind_eq_some_iff.mp H
            obtain ⟨t117, A110, H⟩ := H
            replace H : (stevedoreref4_Date.j1 kj1 t115 (wrap64 (a0 - (wrap64 (t115 * 86400)))) (wrap64 (1970 + t117))) = some (r1, r2, r3, r4, r5, r6) := H
            have A11 := Aside0.mk A110
            clear A110
            have H' := Aside0.mk H
            clear H
            go_wp2_with (first | ((with_reducible refine gate_callee (f := 31) rfl ?_); refine goesL_ (some 26) rfl rfl Tryz.func31 (by kernel_rfl) rfl #[.int .i64 t115, .int .i64 365] rfl (by (try simp only [List.map_toArray, List.map_cons, List.map_nil]); first | done | rfl | (simp only [List.length_drop, List.length_take]; rfl)) ?_; (with_reducible refine (stevedoreref4_floor.calls t115 365 t117 _ A11.out).mono ?_); rintro e w' ⟨rfl, ⟨nd, rfl⟩⟩; refine ⟨_, rfl, ?_⟩))
            go_meet
            case rel => exact ⟨_, (wrap64 (1970 + t117)), (by first | rfl | (simp; done) | (simp [*]; done)), H', ⟨by have := HJ1.out; first | omega | exact Nat.le_refl _⟩, ⟨by (with_reducible repeat (first | refine blk_drewN ?_ _ | refine blk_drew ?_ | refine blk_alloc ?_ _)); exact BK114.out⟩, ⟨by repeat (first | (with_reducible first | exact HB.out | apply below_alloc | apply pw_below_drewN | apply below_drew1 | refine below_set ?_ GE114.out) | exact HB.out)⟩⟩
          · rw [if_neg c10] at H
            have c10b0 : decide (t115 < 0) = false := decide_eq_false c10
            clear c10
            (first | rw [c10b0] | (simp only [i64_w, i32_w]; rw [c10b0]) | rw [c10b1] | skip)
            have H' := Aside0.mk H
            clear H
            go_wp2
            go_meet
            case rel => exact ⟨_, (wrap64 (1970 + t116)), (by first | rfl | (simp; done) | (simp [*]; done)), H', ⟨by have := HJ1.out; first | omega | exact Nat.le_refl _⟩, ⟨by (with_reducible repeat (first | refine blk_drewN ?_ _ | refine blk_drew ?_ | refine blk_alloc ?_ _)); exact BK114.out⟩, ⟨by repeat (first | (with_reducible first | exact HB.out | apply below_alloc | apply pw_below_drewN | apply below_drew1 | refine below_set ?_ GE114.out) | exact HB.out)⟩⟩
        case rest =>
          clear HC9
          try clear c1
          try clear p2
          try clear c3
          try clear c4
          try clear c4b0
          try clear c5
          try clear p6
          try clear c10
          try clear c10b0
          try clear c11
          try clear hcz6_0
          try clear hcz6_1
          try clear hcz6_2
          try clear hcz6_3
          try clear hcz6_4
          try clear hcz6_5
          try clear hfz6_0
          try clear hfz6_1
          try clear hfz6_2
          try clear hfz6_3
          try clear hfz6_4
          try clear hfz6_5
          try clear p2
          obtain ⟨kq, x5_8, rfl, HA, HJ8, BK114, HB⟩ := hcut
          cases kq with
          | zero => exact absurd HA.out (by simp [stevedoreref4_Date.j1])
          | succ kj8 =>
            have H := HA.out
            clear HA
            simp only [stevedoreref4_Date.j1] at H
            have H' := Aside0.mk H
            clear H
            go_wp2
            go_loopg [5] kj8 (fun kq v5 w' => ∃ (x5_3 : Int), v5 = .int .i64 x5_3 ∧ Aside0 (stevedoreref4_Date.l0 kq t115 (wrap64 (a0 - (wrap64 (t115 * 86400)))) x5_3 = some (r1, r2, r3, r4, r5, r6)) ∧ Aside0 (kq ≤ kj8) ∧ Aside0 (w'.heap[gb114]? = some (.cells #[.int .i64 0, .int .i64 0, .int .i64 0, .int .i64 0, .int .i64 0, .int .i64 0] 23 (0, 0))) ∧ Aside0 (Below w.heap.size w w'))
            case atStart => exact ⟨(x5_8), (by first | rfl | (simp; done) | (simp [*]; done)), H', ⟨Nat.le_refl _⟩, ⟨by (with_reducible repeat (first | refine blk_drewN ?_ _ | refine blk_drew ?_ | refine blk_alloc ?_ _)); exact BK114.out⟩, ⟨by repeat (first | (with_reducible first | exact HB.out | apply below_alloc | apply pw_below_drewN | apply below_drew1 | refine below_set ?_ GE114.out) | exact HB.out)⟩⟩
            case round =>
              clear H'
              try clear c1
              try clear p2
              try clear c3
              try clear c4
              try clear c4b0
              try clear c5
              try clear p6
              try clear c10
              try clear c10b0
              try clear c11
              try clear hcz6_0
              try clear hcz6_1
              try clear hcz6_2
              try clear hcz6_3
              try clear hcz6_4
              try clear hcz6_5
              try clear hfz6_0
              try clear hfz6_1
              try clear hfz6_2
              try clear hfz6_3
              try clear hfz6_4
              try clear hfz6_5
              try clear p2
              try clear p6
              obtain ⟨x5_3, rfl, HA, HK3, BK114, HB⟩ := hrel
              cases gk with
              | zero => exact absurd HA.out (by simp [stevedoreref4_Date.l0])
              | succ k3 =>
                have H := HA.out
                clear HA
                simp only [stevedoreref4_Date.l0] at H
                replace H := Option.bind_eq_some_iff.mp H
                obtain ⟨t118, A120, H⟩ := H
                replace H : (if t118 ≤ t115 then (stevedoreref4_Date.l0 k3 t115 (wrap64 (a0 - (wrap64 (t115 * 86400)))) (wrap64 (x5_3 + 1))) else (stevedoreref4_Date.l1 k3 t115 (wrap64 (a0 - (wrap64 (t115 * 86400)))) x5_3)) = some (r1, r2, r3, r4, r5, r6) := H
                have A12 := Aside0.mk A120
                clear A120
                by_cases c13 : t118 ≤ t115
                · rw [if_pos c13] at H
                  have c13b0 : decide (t118 ≤ t115) = true := decide_eq_true c13
                  clear c13
                  have H' := Aside0.mk H
                  clear H
                  go_wp2_with (first | ((with_reducible refine gate_callee (f := 32) rfl ?_); refine goesL_ (some 30) rfl rfl Tryz.func32 (by kernel_rfl) rfl #[.int .i64 (wrap64 (x5_3 + 1))] rfl (by (try simp only [List.map_toArray, List.map_cons, List.map_nil]); first | done | rfl | (simp only [List.length_drop, List.length_take]; rfl)) ?_; (with_reducible refine (stevedoreref4_Days2.calls (wrap64 (x5_3 + 1)) t118 _ A12.out).mono ?_); rintro e w' ⟨rfl, ⟨nd, rfl⟩⟩; refine ⟨_, rfl, ?_⟩))
                  go_roundg k3
                  case measure => have := HJ1.out; have := HJ8.out; have := HK3.out; omega
                  case rel => exact ⟨(wrap64 (x5_3 + 1)), (by first | rfl | (simp; done) | (simp [*]; done)), H', ⟨by have := HJ1.out; have := HJ8.out; have := HK3.out; omega⟩, ⟨by (with_reducible repeat (first | refine blk_drewN ?_ _ | refine blk_drew ?_ | refine blk_alloc ?_ _)); exact BK114.out⟩, ⟨by repeat (first | (with_reducible first | exact HB.out | apply below_alloc | apply pw_below_drewN | apply below_drew1 | refine below_set ?_ GE114.out) | exact HB.out)⟩⟩
                · rw [if_neg c13] at H
                  have c13b0 : decide (t118 ≤ t115) = false := decide_eq_false c13
                  clear c13
                  have H' := Aside0.mk H
                  clear H
                  go_wp2_with (first | ((with_reducible refine gate_callee (f := 32) rfl ?_); refine goesL_ (some 30) rfl rfl Tryz.func32 (by kernel_rfl) rfl #[.int .i64 (wrap64 (x5_3 + 1))] rfl (by (try simp only [List.map_toArray, List.map_cons, List.map_nil]); first | done | rfl | (simp only [List.length_drop, List.length_take]; rfl)) ?_; (with_reducible refine (stevedoreref4_Days2.calls (wrap64 (x5_3 + 1)) t118 _ A12.out).mono ?_); rintro e w' ⟨rfl, ⟨nd, rfl⟩⟩; refine ⟨_, rfl, ?_⟩))
                  go_loopg [5] k3 (fun kq v5 w' => ∃ (x5_4 : Int), v5 = .int .i64 x5_4 ∧ Aside0 (stevedoreref4_Date.l1 kq t115 (wrap64 (a0 - (wrap64 (t115 * 86400)))) x5_4 = some (r1, r2, r3, r4, r5, r6)) ∧ Aside0 (kq ≤ k3) ∧ Aside0 (w'.heap[gb114]? = some (.cells #[.int .i64 0, .int .i64 0, .int .i64 0, .int .i64 0, .int .i64 0, .int .i64 0] 23 (0, 0))) ∧ Aside0 (Below w.heap.size w w'))
                  case atStart => exact ⟨(x5_3), (by first | rfl | (simp; done) | (simp [*]; done)), H', ⟨Nat.le_refl _⟩, ⟨by (with_reducible repeat (first | refine blk_drewN ?_ _ | refine blk_drew ?_ | refine blk_alloc ?_ _)); exact BK114.out⟩, ⟨by repeat (first | (with_reducible first | exact HB.out | apply below_alloc | apply pw_below_drewN | apply below_drew1 | refine below_set ?_ GE114.out) | exact HB.out)⟩⟩
                  case round =>
                    clear H'
                    try clear c1
                    try clear p2
                    try clear c3
                    try clear c4
                    try clear c4b0
                    try clear c5
                    try clear p6
                    try clear c10
                    try clear c10b0
                    try clear c11
                    try clear c13
                    try clear c13b0
                    try clear hcz6_0
                    try clear hcz6_1
                    try clear hcz6_2
                    try clear hcz6_3
                    try clear hcz6_4
                    try clear hcz6_5
                    try clear hfz6_0
                    try clear hfz6_1
                    try clear hfz6_2
                    try clear hfz6_3
                    try clear hfz6_4
                    try clear hfz6_5
                    try clear p2
                    try clear p6
                    obtain ⟨x5_4, rfl, HA, HK4, BK114, HB⟩ := hrel
                    cases gk with
                    | zero => exact absurd HA.out (by simp [stevedoreref4_Date.l1])
                    | succ k4 =>
                      have H := HA.out
                      clear HA
                      simp only [stevedoreref4_Date.l1] at H
                      replace H := Option.bind_eq_some_iff.mp H
                      obtain ⟨t119, A140, H⟩ := H
                      replace H : (if t119 > t115 then (stevedoreref4_Date.l1 k4 t115 (wrap64 (a0 - (wrap64 (t115 * 86400)))) (wrap64 (x5_4 - 1))) else ((stevedoreref4_Days2.f x5_4).bind fun t120 => (stevedoreref4_Date.l2 k4 (wrap64 (t115 - t120)) (wrap64 (a0 - (wrap64 (t115 * 86400)))) x5_4 1))) = some (r1, r2, r3, r4, r5, r6) := H
                      have A14 := Aside0.mk A140
                      clear A140
                      by_cases c15 : t119 > t115
                      · rw [if_pos c15] at H
                        have c15b0 : decide (t115 < t119) = true := decide_eq_true c15
                        clear c15
                        have H' := Aside0.mk H
                        clear H
                        go_wp2_with (first | ((with_reducible refine gate_callee (f := 32) rfl ?_); refine goesL_ (some 36) rfl rfl Tryz.func32 (by kernel_rfl) rfl #[.int .i64 x5_4] rfl (by (try simp only [List.map_toArray, List.map_cons, List.map_nil]); first | done | rfl | (simp only [List.length_drop, List.length_take]; rfl)) ?_; (with_reducible refine (stevedoreref4_Days2.calls x5_4 t119 _ A14.out).mono ?_); rintro e w' ⟨rfl, ⟨nd, rfl⟩⟩; refine ⟨_, rfl, ?_⟩))
                        go_roundg k4
                        case measure => have := HJ1.out; have := HJ8.out; have := HK3.out; have := HK4.out; omega
                        case rel => exact ⟨(wrap64 (x5_4 - 1)), (by first | rfl | (simp; done) | (simp [*]; done)), H', ⟨by have := HJ1.out; have := HJ8.out; have := HK3.out; have := HK4.out; omega⟩, ⟨by (with_reducible repeat (first | refine blk_drewN ?_ _ | refine blk_drew ?_ | refine blk_alloc ?_ _)); exact BK114.out⟩, ⟨by repeat (first | (with_reducible first | exact HB.out | apply below_alloc | apply pw_below_drewN | apply below_drew1 | refine below_set ?_ GE114.out) | exact HB.out)⟩⟩
                      · rw [if_neg c15] at H
                        have c15b0 : decide (t115 < t119) = false := decide_eq_false c15
                        clear c15
                        replace H := Option.bind_eq_some_iff.mp H
                        obtain ⟨t120, A160, H⟩ := H
                        replace H : (stevedoreref4_Date.l2 k4 (wrap64 (t115 - t120)) (wrap64 (a0 - (wrap64 (t115 * 86400)))) x5_4 1) = some (r1, r2, r3, r4, r5, r6) := H
                        have A16 := Aside0.mk A160
                        clear A160
                        have H' := Aside0.mk H
                        clear H
                        go_wp2_with (first | ((with_reducible refine gate_callee (f := 32) rfl ?_); refine goesL_ (some 36) rfl rfl Tryz.func32 (by kernel_rfl) rfl #[.int .i64 x5_4] rfl (by (try simp only [List.map_toArray, List.map_cons, List.map_nil]); first | done | rfl | (simp only [List.length_drop, List.length_take]; rfl)) ?_; (with_reducible refine (stevedoreref4_Days2.calls x5_4 t119 _ A14.out).mono ?_); rintro e w' ⟨rfl, ⟨nd, rfl⟩⟩; refine ⟨_, rfl, ?_⟩) | ((with_reducible refine gate_callee (f := 32) rfl ?_); refine goesL_ (some 43) rfl rfl Tryz.func32 (by kernel_rfl) rfl #[.int .i64 x5_4] rfl (by (try simp only [List.map_toArray, List.map_cons, List.map_nil]); first | done | rfl | (simp only [List.length_drop, List.length_take]; rfl)) ?_; (with_reducible refine (stevedoreref4_Days2.calls x5_4 t120 _ A16.out).mono ?_); rintro e w' ⟨rfl, ⟨nd, rfl⟩⟩; refine ⟨_, rfl, ?_⟩))
                        go_loopg [3, 6] k4 (fun kq v3 v6 w' => ∃ (x3_5 : Int) (x6_5 : Int), v3 = .int .i64 x3_5 ∧ v6 = .int .i64 x6_5 ∧ Aside0 (stevedoreref4_Date.l2 kq x3_5 (wrap64 (a0 - (wrap64 (t115 * 86400)))) x5_4 x6_5 = some (r1, r2, r3, r4, r5, r6)) ∧ Aside0 (kq ≤ k4) ∧ Aside0 (w'.heap[gb114]? = some (.cells #[.int .i64 0, .int .i64 0, .int .i64 0, .int .i64 0, .int .i64 0, .int .i64 0] 23 (0, 0))) ∧ Aside0 (Below w.heap.size w w'))
                        case atStart => exact ⟨(wrap64 (t115 - t120)), (1), (by first | rfl | (simp; done) | (simp [*]; done)), (by first | rfl | (simp; done) | (simp [*]; done)), H', ⟨Nat.le_refl _⟩, ⟨by (with_reducible repeat (first | refine blk_drewN ?_ _ | refine blk_drew ?_ | refine blk_alloc ?_ _)); exact BK114.out⟩, ⟨by repeat (first | (with_reducible first | exact HB.out | apply below_alloc | apply pw_below_drewN | apply below_drew1 | refine below_set ?_ GE114.out) | exact HB.out)⟩⟩
                        case round =>
                          clear H'
                          try clear c1
                          try clear p2
                          try clear c3
                          try clear c4
                          try clear c4b0
                          try clear c5
                          try clear p6
                          try clear c10
                          try clear c10b0
                          try clear c11
                          try clear c13
                          try clear c13b0
                          try clear c15
                          try clear c15b0
                          try clear hcz6_0
                          try clear hcz6_1
                          try clear hcz6_2
                          try clear hcz6_3
                          try clear hcz6_4
                          try clear hcz6_5
                          try clear hfz6_0
                          try clear hfz6_1
                          try clear hfz6_2
                          try clear hfz6_3
                          try clear hfz6_4
                          try clear hfz6_5
                          try clear p2
                          try clear p6
                          obtain ⟨x3_5, x6_5, rfl, rfl, HA, HK5, BK114, HB⟩ := hrel
                          cases gk with
                          | zero => exact absurd HA.out (by simp [stevedoreref4_Date.l2])
                          | succ k5 =>
                            have H := HA.out
                            clear HA
                            simp only [stevedoreref4_Date.l2] at H
                            replace H := Option.bind_eq_some_iff.mp H
                            obtain ⟨t121, A170, H⟩ := H
                            replace H : (if x3_5 ≥ t121 then ((stevedoreref4_Month.f x5_4 x6_5).bind fun t122 => (stevedoreref4_Date.l2 k5 (wrap64 (x3_5 - t122)) (wrap64 (a0 - (wrap64 (t115 * 86400)))) x5_4 (wrap64 (x6_5 + 1)))) else (some (x5_4, x6_5, wrap64 (x3_5 + 1), wrap64 (Int.tdiv (wrap64 (a0 - (wrap64 (t115 * 86400)))) 3600), Int.tmod (wrap64 (Int.tdiv (wrap64 (a0 - (wrap64 (t115 * 86400)))) 60)) 60, Int.tmod (wrap64 (a0 - (wrap64 (t115 * 86400)))) 60))) = some (r1, r2, r3, r4, r5, r6) := H
                            have A17 := Aside0.mk A170
                            clear A170
                            by_cases c18 : x3_5 ≥ t121
                            · rw [if_pos c18] at H
                              have c18b0 : decide (t121 ≤ x3_5) = true := decide_eq_true c18
                              clear c18
                              replace H := Option.bind_eq_some_iff.mp H
                              obtain ⟨t122, A190, H⟩ := H
                              replace H : (stevedoreref4_Date.l2 k5 (wrap64 (x3_5 - t122)) (wrap64 (a0 - (wrap64 (t115 * 86400)))) x5_4 (wrap64 (x6_5 + 1))) = some (r1, r2, r3, r4, r5, r6) := H
                              have A19 := Aside0.mk A190
                              clear A190
                              have H' := Aside0.mk H
                              clear H
                              go_wp2_with (first | ((with_reducible refine gate_callee (f := 25) rfl ?_); refine goesL_ (some 48) rfl rfl Tryz.func25 (by kernel_rfl) rfl #[.int .i64 x5_4, .int .i64 x6_5] rfl (by (try simp only [List.map_toArray, List.map_cons, List.map_nil]); first | done | rfl | (simp only [List.length_drop, List.length_take]; rfl)) ?_; (with_reducible refine (stevedoreref4_Month.calls x5_4 x6_5 t121 _ A17.out).mono ?_); rintro e w20 ⟨rfl, hb⟩; refine ⟨_, rfl, ?_⟩; have n0_ := Aside0.mk (blk_below (g := gb114) (o := .cells #[.int .i64 0, .int .i64 0, .int .i64 0, .int .i64 0, .int .i64 0, .int .i64 0] 23 (0, 0)) (by (with_reducible repeat (first | refine blk_drewN ?_ _ | refine blk_drew ?_ | refine blk_alloc ?_ _)); exact BK114.out) hb); have n1_ := Aside0.mk (below_step (by repeat (first | (with_reducible first | exact HB.out | apply below_alloc | apply pw_below_drewN | apply below_drew1 | refine below_set ?_ GE114.out) | exact HB.out)) hb); clear BK114; clear HB; have BK114 := n0_; have HB := n1_; clear n0_ n1_; (try clear hb); (try clear hb2); (try clear hk); (try clear hi)) | ((with_reducible refine gate_callee (f := 25) rfl ?_); refine goesL_ (some 53) rfl rfl Tryz.func25 (by kernel_rfl) rfl #[.int .i64 x5_4, .int .i64 x6_5] rfl (by (try simp only [List.map_toArray, List.map_cons, List.map_nil]); first | done | rfl | (simp only [List.length_drop, List.length_take]; rfl)) ?_; (with_reducible refine (stevedoreref4_Month.calls x5_4 x6_5 t122 _ A19.out).mono ?_); rintro e w21 ⟨rfl, hb⟩; refine ⟨_, rfl, ?_⟩; have n0_ := Aside0.mk (blk_below (g := gb114) (o := .cells #[.int .i64 0, .int .i64 0, .int .i64 0, .int .i64 0, .int .i64 0, .int .i64 0] 23 (0, 0)) (by (with_reducible repeat (first | refine blk_drewN ?_ _ | refine blk_drew ?_ | refine blk_alloc ?_ _)); exact BK114.out) hb); have n1_ := Aside0.mk (below_step (by repeat (first | (with_reducible first | exact HB.out | apply below_alloc | apply pw_below_drewN | apply below_drew1 | refine below_set ?_ GE114.out) | exact HB.out)) hb); clear BK114; clear HB; have BK114 := n0_; have HB := n1_; clear n0_ n1_; (try clear hb); (try clear hb2); (try clear hk); (try clear hi)))
                              go_roundg k5
                              case measure => have := HJ1.out; have := HJ8.out; have := HK3.out; have := HK4.out; have := HK5.out; omega
                              case rel => exact ⟨(wrap64 (x3_5 - t122)), (wrap64 (x6_5 + 1)), (by first | rfl | (simp; done) | (simp [*]; done)), (by first | rfl | (simp; done) | (simp [*]; done)), H', ⟨by have := HJ1.out; have := HJ8.out; have := HK3.out; have := HK4.out; have := HK5.out; omega⟩, ⟨by (with_reducible repeat (first | refine blk_drewN ?_ _ | refine blk_drew ?_ | refine blk_alloc ?_ _)); exact BK114.out⟩, ⟨by repeat (first | (with_reducible first | exact HB.out | apply below_alloc | apply pw_below_drewN | apply below_drew1 | refine below_set ?_ GE114.out) | exact HB.out)⟩⟩
                            · rw [if_neg c18] at H
                              have c18b0 : decide (t121 ≤ x3_5) = false := decide_eq_false c18
                              clear c18
                              simp only [Option.some.injEq, Prod.mk.injEq] at H
                              obtain ⟨rfl, rfl, rfl, rfl, rfl, rfl⟩ := H
                              go_wp2_with (first | ((with_reducible refine gate_callee (f := 25) rfl ?_); refine goesL_ (some 48) rfl rfl Tryz.func25 (by kernel_rfl) rfl #[.int .i64 x5_4, .int .i64 x6_5] rfl (by (try simp only [List.map_toArray, List.map_cons, List.map_nil]); first | done | rfl | (simp only [List.length_drop, List.length_take]; rfl)) ?_; (with_reducible refine (stevedoreref4_Month.calls x5_4 x6_5 t121 _ A17.out).mono ?_); rintro e w22 ⟨rfl, hb⟩; refine ⟨_, rfl, ?_⟩; have n0_ := Aside0.mk (blk_below (g := gb114) (o := .cells #[.int .i64 0, .int .i64 0, .int .i64 0, .int .i64 0, .int .i64 0, .int .i64 0] 23 (0, 0)) (by (with_reducible repeat (first | refine blk_drewN ?_ _ | refine blk_drew ?_ | refine blk_alloc ?_ _)); exact BK114.out) hb); have n1_ := Aside0.mk (below_step (by repeat (first | (with_reducible first | exact HB.out | apply below_alloc | apply pw_below_drewN | apply below_drew1 | refine below_set ?_ GE114.out) | exact HB.out)) hb); clear BK114; clear HB; have BK114 := n0_; have HB := n1_; clear n0_ n1_; (try clear hb); (try clear hb2); (try clear hk); (try clear hi); have hcz23_0 : w22.cell? ⟨gb114, 0, none⟩ = some (.int .i64 0) := (blk_cell BK114.out 0).trans rfl; have hcz23_1 : w22.cell? ⟨gb114, 1, none⟩ = some (.int .i64 0) := (blk_cell BK114.out 1).trans rfl; have hcz23_2 : w22.cell? ⟨gb114, 2, none⟩ = some (.int .i64 0) := (blk_cell BK114.out 2).trans rfl; have hcz23_3 : w22.cell? ⟨gb114, 3, none⟩ = some (.int .i64 0) := (blk_cell BK114.out 3).trans rfl; have hcz23_4 : w22.cell? ⟨gb114, 4, none⟩ = some (.int .i64 0) := (blk_cell BK114.out 4).trans rfl; have hcz23_5 : w22.cell? ⟨gb114, 5, none⟩ = some (.int .i64 0) := (blk_cell BK114.out 5).trans rfl; have hfz23_0 := blk_frozen BK114.out 0; have hfz23_1 := blk_frozen BK114.out 1; have hfz23_2 := blk_frozen BK114.out 2; have hfz23_3 := blk_frozen BK114.out 3; have hfz23_4 := blk_frozen BK114.out 4; have hfz23_5 := blk_frozen BK114.out 5))
                              refine bodyPost_ret (results_cell_row rfl _ _ gb114 23 #[.int .i64 x5_4, .int .i64 x6_5, .int .i64 (wrap64 (x3_5 + 1)), .int .i64 (wrap64 (Int.tdiv (wrap64 (a0 - (wrap64 (t115 * 86400)))) 3600)), .int .i64 (Int.tmod (wrap64 (Int.tdiv (wrap64 (a0 - (wrap64 (t115 * 86400)))) 60)) 60), .int .i64 (Int.tmod (wrap64 (a0 - (wrap64 (t115 * 86400)))) 60)] (0, 0) _ rfl (by (with_reducible repeat (first | refine blk_drewN ?_ _ | refine blk_drew ?_ | refine blk_alloc ?_ _)); refine blk_put (cs := #[.int .i64 x5_4, .int .i64 x6_5, .int .i64 (wrap64 (x3_5 + 1)), .int .i64 (wrap64 (Int.tdiv (wrap64 (a0 - (wrap64 (t115 * 86400)))) 3600)), .int .i64 (Int.tmod (wrap64 (Int.tdiv (wrap64 (a0 - (wrap64 (t115 * 86400)))) 60)) 60), .int .i64 0]) ?_ 5 _ rfl; (with_reducible repeat (first | refine blk_drewN ?_ _ | refine blk_drew ?_ | refine blk_alloc ?_ _)); refine blk_put (cs := #[.int .i64 x5_4, .int .i64 x6_5, .int .i64 (wrap64 (x3_5 + 1)), .int .i64 (wrap64 (Int.tdiv (wrap64 (a0 - (wrap64 (t115 * 86400)))) 3600)), .int .i64 0, .int .i64 0]) ?_ 4 _ rfl; (with_reducible repeat (first | refine blk_drewN ?_ _ | refine blk_drew ?_ | refine blk_alloc ?_ _)); refine blk_put (cs := #[.int .i64 x5_4, .int .i64 x6_5, .int .i64 (wrap64 (x3_5 + 1)), .int .i64 0, .int .i64 0, .int .i64 0]) ?_ 3 _ rfl; (with_reducible repeat (first | refine blk_drewN ?_ _ | refine blk_drew ?_ | refine blk_alloc ?_ _)); refine blk_put (cs := #[.int .i64 x5_4, .int .i64 x6_5, .int .i64 0, .int .i64 0, .int .i64 0, .int .i64 0]) ?_ 2 _ rfl; (with_reducible repeat (first | refine blk_drewN ?_ _ | refine blk_drew ?_ | refine blk_alloc ?_ _)); refine blk_put (cs := #[.int .i64 x5_4, .int .i64 0, .int .i64 0, .int .i64 0, .int .i64 0, .int .i64 0]) ?_ 1 _ rfl; (with_reducible repeat (first | refine blk_drewN ?_ _ | refine blk_drew ?_ | refine blk_alloc ?_ _)); refine blk_put (cs := #[.int .i64 0, .int .i64 0, .int .i64 0, .int .i64 0, .int .i64 0, .int .i64 0]) ?_ 0 _ rfl; (with_reducible repeat (first | refine blk_drewN ?_ _ | refine blk_drew ?_ | refine blk_alloc ?_ _)); exact BK114.out) Tryz.underlying23 rfl (by kernel_rfl)) rfl ?_
                              exact ⟨by first | rfl | (simp only [show ∀ l : List UInt8, (l != []) = (!l.isEmpty) from fun l => by cases l <;> rfl]; rfl) | (simp [errW_none, errW_some] <;> rfl) | (simp [*, errW_none, errW_some] <;> rfl), by repeat (first | (with_reducible first | exact HB.out | apply below_alloc | apply pw_below_drewN | apply below_drew1 | refine below_set ?_ GE114.out) | exact HB.out)⟩

/-! ### stevedoreref4_Same: function 13 -/
def stevedoreref4_Same.f (a0 : Nat) (a1 : Nat) : Option (Bool) := if (FloatKind.f64.format.order a0 a1 == some .eq) = true then (some true) else (if (FloatKind.f64.format.order a0 a0 != some .eq) = true then (some (FloatKind.f64.format.order a1 a1 != some .eq)) else (some false))
set_option maxHeartbeats 8000000 in
set_option maxRecDepth 100000 in
theorem stevedoreref4_Same.calls (a0 : Nat) (a1 : Nat) (r : Bool) (w : World) (h : stevedoreref4_Same.f a0 a1 = some r) :
    Calls Tryz.prog 13 #[.float .f64 a0, .float .f64 a1] w fun e w' => e = .returned (.bool r) ∧ Drawn0 w w' := by
  have H : (if (FloatKind.f64.format.order a0 a1 == some .eq) = true then (some true) else (if (FloatKind.f64.format.order a0 a0 != some .eq) = true then (some (FloatKind.f64.format.order a1 a1 != some .eq)) else (some false))) = some r := h
  clear h
  by_cases c3 : (FloatKind.f64.format.order a0 a1 == some .eq) = true
  · rw [if_pos c3] at H
    have c3b0 : (FloatKind.f64.format.order a0 a1 == some .eq) = true := c3
    (try (have c3b1 : decide (FloatKind.f64.format.order a0 a1 = some .eq) = true := by simpa using c3))
    (try (have c3b2 : (FloatKind.f64.format.order a0 a1 == some .eq) = true := by simpa using c3))
    clear c3
    obtain rfl := Option.some.inj H
    go_enter Tryz.func13, Tryz.ntmps13
    go_wp2
    go_ret
    exact ⟨by first | rfl | (simp only [show ∀ l : List UInt8, (l != []) = (!l.isEmpty) from fun l => by cases l <;> rfl]; rfl) | (simp; done) | (simp [*]; done), by repeat (first | exact Drawn0.refl _ | apply Drawn0.step)⟩
  · rw [if_neg c3] at H
    have c3b0 : (FloatKind.f64.format.order a0 a1 == some .eq) = false := by simpa using c3
    (try (have c3b1 : decide (FloatKind.f64.format.order a0 a1 = some .eq) = false := by simpa using c3))
    (try (have c3b2 : (FloatKind.f64.format.order a0 a1 == some .eq) = false := by simpa using c3))
    (try (have c3b3 : ¬ (FloatKind.f64.format.order a0 a1 = some .eq) := by simpa using c3))
    clear c3
    by_cases c4 : (FloatKind.f64.format.order a0 a0 != some .eq) = true
    · rw [if_pos c4] at H
      have c4b0 : (FloatKind.f64.format.order a0 a0 != some .eq) = true := c4
      (try (have c4b1 : decide (FloatKind.f64.format.order a0 a0 = some .eq) = false := by simpa using c4))
      (try (have c4b2 : (FloatKind.f64.format.order a0 a0 == some .eq) = false := by simpa using c4))
      (try (have c4b3 : ¬ (FloatKind.f64.format.order a0 a0 = some .eq) := by simpa using c4))
      clear c4
      obtain rfl := Option.some.inj H
      go_enter Tryz.func13, Tryz.ntmps13
      go_wp2
      go_ret
      exact ⟨by first | rfl | (simp only [show ∀ l : List UInt8, (l != []) = (!l.isEmpty) from fun l => by cases l <;> rfl]; rfl) | (simp; done) | (simp [*]; done), by repeat (first | exact Drawn0.refl _ | apply Drawn0.step)⟩
    · rw [if_neg c4] at H
      have c4b0 : (FloatKind.f64.format.order a0 a0 != some .eq) = false := by simpa using c4
      (try (have c4b1 : decide (FloatKind.f64.format.order a0 a0 = some .eq) = true := by simpa using c4))
      (try (have c4b2 : (FloatKind.f64.format.order a0 a0 == some .eq) = true := by simpa using c4))
      clear c4
      obtain rfl := Option.some.inj H
      go_enter Tryz.func13, Tryz.ntmps13
      go_wp2
      go_ret
      exact ⟨by first | rfl | (simp only [show ∀ l : List UInt8, (l != []) = (!l.isEmpty) from fun l => by cases l <;> rfl]; rfl) | (simp; done) | (simp [*]; done), by repeat (first | exact Drawn0.refl _ | apply Drawn0.step)⟩

/-! ### stevedoreref4_whole: function 34 -/
def stevedoreref4_whole.f (a0 : Nat) : Option (Int) := if (fintOk a0) = true then (if (FloatKind.f64.format.order (floatOfInt .f64 (fint a0)) a0 == some .gt) = true then (some (wrap64 ((fint a0) - 1))) else (some (fint a0))) else (none)
set_option maxHeartbeats 8000000 in
set_option maxRecDepth 100000 in
theorem stevedoreref4_whole.calls (a0 : Nat) (r : Int) (w : World) (h : stevedoreref4_whole.f a0 = some r) :
    Calls Tryz.prog 34 #[.float .f64 a0] w fun e w' => e = .returned (.int .i64 r) ∧ Drawn0 w w' := by
  have H : (if (fintOk a0) = true then (if (FloatKind.f64.format.order (floatOfInt .f64 (fint a0)) a0 == some .gt) = true then (some (wrap64 ((fint a0) - 1))) else (some (fint a0))) else (none)) = some r := h
  clear h
  by_cases c2 : (fintOk a0) = true
  · rw [if_pos c2] at H
    have c2b0 := eq_true c2
    have c2b1 : decide ((fintOk a0) = true) = true := decide_eq_true c2
    clear c2
    by_cases c3 : (FloatKind.f64.format.order (floatOfInt .f64 (fint a0)) a0 == some .gt) = true
    · rw [if_pos c3] at H
      have c3b0 : (FloatKind.f64.format.order (floatOfInt .f64 (fint a0)) a0 == some .gt) = true := c3
      (try (have c3b1 : decide (FloatKind.f64.format.order (floatOfInt .f64 (fint a0)) a0 = some .gt) = true := by simpa using c3))
      (try (have c3b2 : (FloatKind.f64.format.order (floatOfInt .f64 (fint a0)) a0 == some .gt) = true := by simpa using c3))
      clear c3
      obtain rfl := Option.some.inj H
      go_enter Tryz.func34, Tryz.ntmps34
      go_wp2
      go_ret
      exact ⟨by first | rfl | (simp only [show ∀ l : List UInt8, (l != []) = (!l.isEmpty) from fun l => by cases l <;> rfl]; rfl) | (simp; done) | (simp [*]; done), by repeat (first | exact Drawn0.refl _ | apply Drawn0.step)⟩
    · rw [if_neg c3] at H
      have c3b0 : (FloatKind.f64.format.order (floatOfInt .f64 (fint a0)) a0 == some .gt) = false := by simpa using c3
      (try (have c3b1 : decide (FloatKind.f64.format.order (floatOfInt .f64 (fint a0)) a0 = some .gt) = false := by simpa using c3))
      (try (have c3b2 : (FloatKind.f64.format.order (floatOfInt .f64 (fint a0)) a0 == some .gt) = false := by simpa using c3))
      (try (have c3b3 : ¬ (FloatKind.f64.format.order (floatOfInt .f64 (fint a0)) a0 = some .gt) := by simpa using c3))
      clear c3
      obtain rfl := Option.some.inj H
      go_enter Tryz.func34, Tryz.ntmps34
      go_wp2
      go_ret
      exact ⟨by first | rfl | (simp only [show ∀ l : List UInt8, (l != []) = (!l.isEmpty) from fun l => by cases l <;> rfl]; rfl) | (simp; done) | (simp [*]; done), by repeat (first | exact Drawn0.refl _ | apply Drawn0.step)⟩
  · rw [if_neg c2] at H
    exact absurd H (by simp)

/-! ### stevedoreref4_Unix: function 15 -/
def stevedoreref4_Unix.f (a0 : Nat) : Option (Int) := if ((FloatKind.f64.format.order a0 0 == some .gt || FloatKind.f64.format.order a0 0 == some .eq) = true) then (if (FloatKind.f64.format.order a0 4751297606873776128 == some .gt || FloatKind.f64.format.order a0 4751297606873776128 == some .eq) = true then (some 4294967295) else ((stevedoreref4_whole.f a0).bind fun t123 => (some t123))) else (some 0)
set_option maxHeartbeats 8000000 in
set_option maxRecDepth 100000 in
theorem stevedoreref4_Unix.calls (a0 : Nat) (r : Int) (w : World) (h : stevedoreref4_Unix.f a0 = some r) :
    Calls Tryz.prog 15 #[.float .f64 a0] w fun e w' => e = .returned (.int .i64 r) ∧ Drawn0 w w' := by
  have H : (if ((FloatKind.f64.format.order a0 0 == some .gt || FloatKind.f64.format.order a0 0 == some .eq) = true) then (if (FloatKind.f64.format.order a0 4751297606873776128 == some .gt || FloatKind.f64.format.order a0 4751297606873776128 == some .eq) = true then (some 4294967295) else ((stevedoreref4_whole.f a0).bind fun t123 => (some t123))) else (some 0)) = some r := h
  clear h
  by_cases c2 : ((FloatKind.f64.format.order a0 0 == some .gt || FloatKind.f64.format.order a0 0 == some .eq) = true)
  · rw [if_pos c2] at H
    have c2b0 : (FloatKind.f64.format.order a0 0 == some .gt || FloatKind.f64.format.order a0 0 == some .eq) = true := c2
    have c2b7 : (!(FloatKind.f64.format.order a0 0 == some .gt) && !(FloatKind.f64.format.order a0 0 == some .eq)) = false := by rw [← Bool.not_or, c2b0]; rfl
    (try (have c2b1 : decide (FloatKind.f64.format.order a0 0 = some .gt || FloatKind.f64.format.order a0 0 == some .eq) = true := by simpa using c2))
    (try (have c2b2 : (FloatKind.f64.format.order a0 0 == some .gt || FloatKind.f64.format.order a0 0 == some .eq) = true := by simpa using c2))
    clear c2
    by_cases c3 : (FloatKind.f64.format.order a0 4751297606873776128 == some .gt || FloatKind.f64.format.order a0 4751297606873776128 == some .eq) = true
    · rw [if_pos c3] at H
      have c3b0 : (FloatKind.f64.format.order a0 4751297606873776128 == some .gt || FloatKind.f64.format.order a0 4751297606873776128 == some .eq) = true := c3
      have c3b7 : (!(FloatKind.f64.format.order a0 4751297606873776128 == some .gt) && !(FloatKind.f64.format.order a0 4751297606873776128 == some .eq)) = false := by rw [← Bool.not_or, c3b0]; rfl
      (try (have c3b1 : decide (FloatKind.f64.format.order a0 4751297606873776128 = some .gt || FloatKind.f64.format.order a0 4751297606873776128 == some .eq) = true := by simpa using c3))
      (try (have c3b2 : (FloatKind.f64.format.order a0 4751297606873776128 == some .gt || FloatKind.f64.format.order a0 4751297606873776128 == some .eq) = true := by simpa using c3))
      clear c3
      obtain rfl := Option.some.inj H
      go_enter Tryz.func15, Tryz.ntmps15
      go_wp2
      go_ret
      exact ⟨by first | rfl | (simp only [show ∀ l : List UInt8, (l != []) = (!l.isEmpty) from fun l => by cases l <;> rfl]; rfl) | (simp; done) | (simp [*]; done), by repeat (first | exact Drawn0.refl _ | apply Drawn0.step)⟩
    · rw [if_neg c3] at H
      have c3b0 : (FloatKind.f64.format.order a0 4751297606873776128 == some .gt || FloatKind.f64.format.order a0 4751297606873776128 == some .eq) = false := by simpa using c3
      have c3b7 : (!(FloatKind.f64.format.order a0 4751297606873776128 == some .gt) && !(FloatKind.f64.format.order a0 4751297606873776128 == some .eq)) = true := by rw [← Bool.not_or, c3b0]; rfl
      (try (have c3b1 : decide (FloatKind.f64.format.order a0 4751297606873776128 = some .gt || FloatKind.f64.format.order a0 4751297606873776128 == some .eq) = false := by simpa using c3))
      (try (have c3b2 : (FloatKind.f64.format.order a0 4751297606873776128 == some .gt || FloatKind.f64.format.order a0 4751297606873776128 == some .eq) = false := by simpa using c3))
      (try (have c3b3 : ¬ (FloatKind.f64.format.order a0 4751297606873776128 = some .gt || FloatKind.f64.format.order a0 4751297606873776128 == some .eq) := by simpa using c3))
      clear c3
      replace H := Option.bind_eq_some_iff.mp H
      obtain ⟨t123, A40, H⟩ := H
      replace H : (some t123) = some r := H
      have A4 := Aside0.mk A40
      clear A40
      obtain rfl := Option.some.inj H
      go_enter Tryz.func15, Tryz.ntmps15
      go_wp2_with (first | ((with_reducible refine gate_callee (f := 34) rfl ?_); refine goesL_ (some 11) rfl rfl Tryz.func34 (by kernel_rfl) rfl #[.float .f64 a0] rfl (by (try simp only [List.map_toArray, List.map_cons, List.map_nil]); first | done | rfl | (simp only [List.length_drop, List.length_take]; rfl)) ?_; (with_reducible refine (stevedoreref4_whole.calls a0 t123 _ A4.out).mono ?_); rintro e w' ⟨rfl, ⟨nd, rfl⟩⟩; refine ⟨_, rfl, ?_⟩))
      go_ret
      exact ⟨by first | rfl | (simp only [show ∀ l : List UInt8, (l != []) = (!l.isEmpty) from fun l => by cases l <;> rfl]; rfl) | (simp; done) | (simp [*]; done), by repeat (first | exact Drawn0.refl _ | apply Drawn0.step)⟩
  · rw [if_neg c2] at H
    have c2b0 : (FloatKind.f64.format.order a0 0 == some .gt || FloatKind.f64.format.order a0 0 == some .eq) = false := by simpa using c2
    have c2b7 : (!(FloatKind.f64.format.order a0 0 == some .gt) && !(FloatKind.f64.format.order a0 0 == some .eq)) = true := by rw [← Bool.not_or, c2b0]; rfl
    (try (have c2b1 : decide (FloatKind.f64.format.order a0 0 = some .gt || FloatKind.f64.format.order a0 0 == some .eq) = false := by simpa using c2))
    (try (have c2b2 : (FloatKind.f64.format.order a0 0 == some .gt || FloatKind.f64.format.order a0 0 == some .eq) = false := by simpa using c2))
    (try (have c2b3 : ¬ (FloatKind.f64.format.order a0 0 = some .gt || FloatKind.f64.format.order a0 0 == some .eq) := by simpa using c2))
    clear c2
    obtain rfl := Option.some.inj H
    go_enter Tryz.func15, Tryz.ntmps15
    go_wp2
    go_ret
    exact ⟨by first | rfl | (simp only [show ∀ l : List UInt8, (l != []) = (!l.isEmpty) from fun l => by cases l <;> rfl]; rfl) | (simp; done) | (simp [*]; done), by repeat (first | exact Drawn0.refl _ | apply Drawn0.step)⟩

end Go.Proofs.YtfmfikodnpnblaaGreatDoor.PClkR

-- Written by this repo's clkdate.py out of the printer's text. Not trusted: Lean checks it.
import Derived.Test.YtfmfikodnpnblaaDoorProg
import Derived.Below
import Derived.Deep.Draws
import Derived.Deep.AppendLies
import Derived.Maps.AppendAt
import Derived.OwnWalk
import Derived.Laws.BytesArg
import Derived.Laws.MakeOwn
import Derived.Laws.OwnMore
import Derived.Deep.OwnRows
import Derived.Tactics
import Derived.Lib.ConvBytes
import Derived.Laws.Slices
import Derived.WalkKit
import Derived.KernelRfl
import Derived.RowKit3
import Derived.Deep.LoopGhost
import Derived.Deep.QuietTactic
import Derived.BigQuiet
import Derived.WideLaws
import Derived.Deep.DeepCutAuto
import Derived.Deep.CutBlock
import Derived.Deep.RegionHeld3
import Derived.Laws.Rows
import Derived.Lib.AppendStr
import Derived.ArgAppend
import Derived.Laws.IdiomCopy
import Derived.OrdersHeld
import Derived.Laws.BitsLemmas
import Derived.RowKit
import Derived.Test.YtfmfikodnpnblaaDoorFltWords
import Derived.Test.YtfmfikodnpnblaaDoorWWords
import Derived.Test.YtfmfikodnpnblaaDoorWLast
import Derived.Test.YtfmfikodnpnblaaDoorWTab
import Derived.Test.YtfmfikodnpnblaaDoorWFour
import Derived.Test.YtfmfikodnpnblaaDoorWQPut
import Derived.Test.YtfmfikodnpnblaaDoorWApart
import Derived.Test.YtfmfikodnpnblaaDoorWArr
import Derived.Test.YtfmfikodnpnblaaDoorWZeros
import Derived.Test.YtfmfikodnpnblaaDoorWFoot
import Derived.Test.YtfmfikodnpnblaaDoorWKept
import Derived.Test.YtfmfikodnpnblaaDoorWShare
import Derived.Test.YtfmfikodnpnblaaDoorWN
import Derived.Test.YtfmfikodnpnblaaDoorWFootNe
import Derived.Test.YtfmfikodnpnblaaDoorWAt
import Derived.Test.YtfmfikodnpnblaaDoorWEqStruct
import Derived.Test.YtfmfikodnpnblaaDoorWRepsOne
import Derived.Test.YtfmfikodnpnblaaDoorWInv
import Derived.Test.YtfmfikodnpnblaaDoorWInvWords
import Derived.Test.YtfmfikodnpnblaaDoorWGuard
import Derived.Test.YtfmfikodnpnblaaDoorWNEv
import Derived.Test.YtfmfikodnpnblaaDoorWMore
namespace Go.Proofs.YtfmfikodnpnblaaDoor.ClkDate
open Go.RowKit Go.Proofs.YtfmfikodnpnblaaDoorW.PrintWords Go.Proofs.YtfmfikodnpnblaaDoorW.PrintLast Go.Proofs.YtfmfikodnpnblaaDoorW.PrintMore
attribute [local go_sem] max2_int min2_int max_two min_two max_three min_three max_four min_four   -- for this text's walks alone

attribute [local go_sem] fop_run fint_run fofint_run
set_option linter.unusedVariables false
set_option linter.unusedSimpArgs false

/-! ### clock_down: function 81 -/
def clock_down.f (a0 : Int) (a1 : Int) : Option (Int × Int) := if a1 = 0 then (none) else (if (Int.tmod a0 a1) < 0 then (some (wrap64 ((wrap64 (Int.tdiv a0 a1)) - 1), wrap64 ((Int.tmod a0 a1) + a1))) else (some (wrap64 (Int.tdiv a0 a1), Int.tmod a0 a1)))
set_option maxHeartbeats 8000000 in
set_option maxRecDepth 100000 in
theorem clock_down.calls (a0 : Int) (a1 : Int) (r1 : Int) (r2 : Int) (w : World) (h : clock_down.f a0 a1 = some (r1, r2)) :
    Calls Tryd.prog 81 #[.int .i64 a0, .int .i64 a1] w fun e w' => e = .returned (.tuple #[.int .i64 r1, .int .i64 r2]) ∧ Drawn0 w w' := by
  have H : (if a1 = 0 then (none) else (if (Int.tmod a0 a1) < 0 then (some (wrap64 ((wrap64 (Int.tdiv a0 a1)) - 1), wrap64 ((Int.tmod a0 a1) + a1))) else (some (wrap64 (Int.tdiv a0 a1), Int.tmod a0 a1)))) = some (r1, r2) := h
  clear h
  by_cases c3 : a1 = 0
  · rw [if_pos c3] at H
    exact absurd H (by simp)
  · rw [if_neg c3] at H
    have c3b0 : (a1 == 0) = false := beq_eq_false_iff_ne.mpr c3
    have c3b1 : (a1 != 0) = true := bne_iff_ne.mpr c3
    by_cases c4 : (Int.tmod a0 a1) < 0
    · rw [if_pos c4] at H
      have c4b0 : decide ((Int.tmod a0 a1) < 0) = true := decide_eq_true c4
      clear c4
      simp only [Option.some.injEq, Prod.mk.injEq] at H
      obtain ⟨rfl, rfl⟩ := H
      go_enter Tryd.func81, Tryd.ntmps81
      go_wp2
      repeat (go_quiet (fail); try go_wp2)
      go_ret2
      exact ⟨by first | rfl | (simp; done) | (simp [*]; done), by repeat (first | exact Drawn0.refl _ | apply Drawn0.step)⟩
    · rw [if_neg c4] at H
      have c4b0 : decide ((Int.tmod a0 a1) < 0) = false := decide_eq_false c4
      clear c4
      simp only [Option.some.injEq, Prod.mk.injEq] at H
      obtain ⟨rfl, rfl⟩ := H
      go_enter Tryd.func81, Tryd.ntmps81
      go_wp2
      repeat (go_quiet (fail); try go_wp2)
      go_ret2
      exact ⟨by first | rfl | (simp; done) | (simp [*]; done), by repeat (first | exact Drawn0.refl _ | apply Drawn0.step)⟩

/-! ### clock_Date: function 45 -/
def clock_Date.j0 : Nat → Int → Bool → Option (Int × Int × Int × Int × Int × Int)
  | 0, _, _ => none
  | k + 1, x0, x16 => if x16 = true then (some (0, 0, 0, 0, 0, 0)) else ((clock_down.f x0 86400).bind fun bt149 => ((clock_down.f (wrap64 (bt149.1 + 719468)) 146097).bind fun bt151 => (if (wrap64 (Int.tdiv (wrap64 ((wrap64 (5 * (wrap64 (bt151.2 - (wrap64 ((wrap64 ((wrap64 (365 * (wrap64 (Int.tdiv (wrap64 ((wrap64 ((wrap64 (bt151.2 - (wrap64 (Int.tdiv bt151.2 1460)))) + (wrap64 (Int.tdiv bt151.2 36524)))) - (wrap64 (Int.tdiv bt151.2 146096)))) 365)))) + (wrap64 (Int.tdiv (wrap64 (Int.tdiv (wrap64 ((wrap64 ((wrap64 (bt151.2 - (wrap64 (Int.tdiv bt151.2 1460)))) + (wrap64 (Int.tdiv bt151.2 36524)))) - (wrap64 (Int.tdiv bt151.2 146096)))) 365)) 4)))) - (wrap64 (Int.tdiv (wrap64 (Int.tdiv (wrap64 ((wrap64 ((wrap64 (bt151.2 - (wrap64 (Int.tdiv bt151.2 1460)))) + (wrap64 (Int.tdiv bt151.2 36524)))) - (wrap64 (Int.tdiv bt151.2 146096)))) 365)) 100)))))))) + 2)) 153)) ≥ 10 then (some (wrap64 ((wrap64 ((wrap64 (Int.tdiv (wrap64 ((wrap64 ((wrap64 (bt151.2 - (wrap64 (Int.tdiv bt151.2 1460)))) + (wrap64 (Int.tdiv bt151.2 36524)))) - (wrap64 (Int.tdiv bt151.2 146096)))) 365)) + (wrap64 (bt151.1 * 400)))) + 1), wrap64 ((wrap64 (Int.tdiv (wrap64 ((wrap64 (5 * (wrap64 (bt151.2 - (wrap64 ((wrap64 ((wrap64 (365 * (wrap64 (Int.tdiv (wrap64 ((wrap64 ((wrap64 (bt151.2 - (wrap64 (Int.tdiv bt151.2 1460)))) + (wrap64 (Int.tdiv bt151.2 36524)))) - (wrap64 (Int.tdiv bt151.2 146096)))) 365)))) + (wrap64 (Int.tdiv (wrap64 (Int.tdiv (wrap64 ((wrap64 ((wrap64 (bt151.2 - (wrap64 (Int.tdiv bt151.2 1460)))) + (wrap64 (Int.tdiv bt151.2 36524)))) - (wrap64 (Int.tdiv bt151.2 146096)))) 365)) 4)))) - (wrap64 (Int.tdiv (wrap64 (Int.tdiv (wrap64 ((wrap64 ((wrap64 (bt151.2 - (wrap64 (Int.tdiv bt151.2 1460)))) + (wrap64 (Int.tdiv bt151.2 36524)))) - (wrap64 (Int.tdiv bt151.2 146096)))) 365)) 100)))))))) + 2)) 153)) - 9), wrap64 ((wrap64 ((wrap64 (bt151.2 - (wrap64 ((wrap64 ((wrap64 (365 * (wrap64 (Int.tdiv (wrap64 ((wrap64 ((wrap64 (bt151.2 - (wrap64 (Int.tdiv bt151.2 1460)))) + (wrap64 (Int.tdiv bt151.2 36524)))) - (wrap64 (Int.tdiv bt151.2 146096)))) 365)))) + (wrap64 (Int.tdiv (wrap64 (Int.tdiv (wrap64 ((wrap64 ((wrap64 (bt151.2 - (wrap64 (Int.tdiv bt151.2 1460)))) + (wrap64 (Int.tdiv bt151.2 36524)))) - (wrap64 (Int.tdiv bt151.2 146096)))) 365)) 4)))) - (wrap64 (Int.tdiv (wrap64 (Int.tdiv (wrap64 ((wrap64 ((wrap64 (bt151.2 - (wrap64 (Int.tdiv bt151.2 1460)))) + (wrap64 (Int.tdiv bt151.2 36524)))) - (wrap64 (Int.tdiv bt151.2 146096)))) 365)) 100)))))) - (wrap64 (Int.tdiv (wrap64 ((wrap64 (153 * (wrap64 (Int.tdiv (wrap64 ((wrap64 (5 * (wrap64 (bt151.2 - (wrap64 ((wrap64 ((wrap64 (365 * (wrap64 (Int.tdiv (wrap64 ((wrap64 ((wrap64 (bt151.2 - (wrap64 (Int.tdiv bt151.2 1460)))) + (wrap64 (Int.tdiv bt151.2 36524)))) - (wrap64 (Int.tdiv bt151.2 146096)))) 365)))) + (wrap64 (Int.tdiv (wrap64 (Int.tdiv (wrap64 ((wrap64 ((wrap64 (bt151.2 - (wrap64 (Int.tdiv bt151.2 1460)))) + (wrap64 (Int.tdiv bt151.2 36524)))) - (wrap64 (Int.tdiv bt151.2 146096)))) 365)) 4)))) - (wrap64 (Int.tdiv (wrap64 (Int.tdiv (wrap64 ((wrap64 ((wrap64 (bt151.2 - (wrap64 (Int.tdiv bt151.2 1460)))) + (wrap64 (Int.tdiv bt151.2 36524)))) - (wrap64 (Int.tdiv bt151.2 146096)))) 365)) 100)))))))) + 2)) 153)))) + 2)) 5)))) + 1), wrap64 (Int.tdiv bt149.2 3600), Int.tmod (wrap64 (Int.tdiv bt149.2 60)) 60, Int.tmod bt149.2 60)) else (some (wrap64 ((wrap64 (Int.tdiv (wrap64 ((wrap64 ((wrap64 (bt151.2 - (wrap64 (Int.tdiv bt151.2 1460)))) + (wrap64 (Int.tdiv bt151.2 36524)))) - (wrap64 (Int.tdiv bt151.2 146096)))) 365)) + (wrap64 (bt151.1 * 400))), wrap64 ((wrap64 (Int.tdiv (wrap64 ((wrap64 (5 * (wrap64 (bt151.2 - (wrap64 ((wrap64 ((wrap64 (365 * (wrap64 (Int.tdiv (wrap64 ((wrap64 ((wrap64 (bt151.2 - (wrap64 (Int.tdiv bt151.2 1460)))) + (wrap64 (Int.tdiv bt151.2 36524)))) - (wrap64 (Int.tdiv bt151.2 146096)))) 365)))) + (wrap64 (Int.tdiv (wrap64 (Int.tdiv (wrap64 ((wrap64 ((wrap64 (bt151.2 - (wrap64 (Int.tdiv bt151.2 1460)))) + (wrap64 (Int.tdiv bt151.2 36524)))) - (wrap64 (Int.tdiv bt151.2 146096)))) 365)) 4)))) - (wrap64 (Int.tdiv (wrap64 (Int.tdiv (wrap64 ((wrap64 ((wrap64 (bt151.2 - (wrap64 (Int.tdiv bt151.2 1460)))) + (wrap64 (Int.tdiv bt151.2 36524)))) - (wrap64 (Int.tdiv bt151.2 146096)))) 365)) 100)))))))) + 2)) 153)) + 3), wrap64 ((wrap64 ((wrap64 (bt151.2 - (wrap64 ((wrap64 ((wrap64 (365 * (wrap64 (Int.tdiv (wrap64 ((wrap64 ((wrap64 (bt151.2 - (wrap64 (Int.tdiv bt151.2 1460)))) + (wrap64 (Int.tdiv bt151.2 36524)))) - (wrap64 (Int.tdiv bt151.2 146096)))) 365)))) + (wrap64 (Int.tdiv (wrap64 (Int.tdiv (wrap64 ((wrap64 ((wrap64 (bt151.2 - (wrap64 (Int.tdiv bt151.2 1460)))) + (wrap64 (Int.tdiv bt151.2 36524)))) - (wrap64 (Int.tdiv bt151.2 146096)))) 365)) 4)))) - (wrap64 (Int.tdiv (wrap64 (Int.tdiv (wrap64 ((wrap64 ((wrap64 (bt151.2 - (wrap64 (Int.tdiv bt151.2 1460)))) + (wrap64 (Int.tdiv bt151.2 36524)))) - (wrap64 (Int.tdiv bt151.2 146096)))) 365)) 100)))))) - (wrap64 (Int.tdiv (wrap64 ((wrap64 (153 * (wrap64 (Int.tdiv (wrap64 ((wrap64 (5 * (wrap64 (bt151.2 - (wrap64 ((wrap64 ((wrap64 (365 * (wrap64 (Int.tdiv (wrap64 ((wrap64 ((wrap64 (bt151.2 - (wrap64 (Int.tdiv bt151.2 1460)))) + (wrap64 (Int.tdiv bt151.2 36524)))) - (wrap64 (Int.tdiv bt151.2 146096)))) 365)))) + (wrap64 (Int.tdiv (wrap64 (Int.tdiv (wrap64 ((wrap64 ((wrap64 (bt151.2 - (wrap64 (Int.tdiv bt151.2 1460)))) + (wrap64 (Int.tdiv bt151.2 36524)))) - (wrap64 (Int.tdiv bt151.2 146096)))) 365)) 4)))) - (wrap64 (Int.tdiv (wrap64 (Int.tdiv (wrap64 ((wrap64 ((wrap64 (bt151.2 - (wrap64 (Int.tdiv bt151.2 1460)))) + (wrap64 (Int.tdiv bt151.2 36524)))) - (wrap64 (Int.tdiv bt151.2 146096)))) 365)) 100)))))))) + 2)) 153)))) + 2)) 5)))) + 1), wrap64 (Int.tdiv bt149.2 3600), Int.tmod (wrap64 (Int.tdiv bt149.2 60)) 60, Int.tmod bt149.2 60)))))
def clock_Date.f (k : Nat) (a0 : Int) : Option (Int × Int × Int × Int × Int × Int) := if a0 < (-1099511627776) then (clock_Date.j0 k a0 true) else (clock_Date.j0 k a0 (decide (a0 > 1099511627776)))
theorem clock_Date.mono_l : ∀ k, (∀ y0 y1, LeO (clock_Date.j0 k y0 y1) (clock_Date.j0 (k + 1) y0 y1))
  | 0 => fun _ _ r h => by simp [clock_Date.j0] at h
  | k + 1 => by
    have ih0 := clock_Date.mono_l k
    · intro y0 y1
      unfold clock_Date.j0
      repeat' first
      | (with_reducible exact ih0 _ _)
      | (with_reducible exact LeO.refl _)
      | (with_reducible exact LeO.none _)
      | (with_reducible refine LeO.ite ?_ ?_)
      | (with_reducible refine LeO.bind ?_ (fun _ => ?_))
      | exact ih0 _ _
      | exact LeO.none _
      | refine LeO.ite ?_ ?_
      | refine LeO.bind ?_ (fun _ => ?_)
theorem clock_Date.mono : ∀ a0 k, LeO (clock_Date.f k a0) (clock_Date.f (k + 1) a0) := by
  intro a0 k
  have ih0 := clock_Date.mono_l k
  unfold clock_Date.f
  repeat' first
      | (with_reducible exact ih0 _ _)
      | (with_reducible exact LeO.refl _)
      | (with_reducible exact LeO.none _)
      | (with_reducible refine LeO.ite ?_ ?_)
      | (with_reducible refine LeO.bind ?_ (fun _ => ?_))
      | exact ih0 _ _
      | exact LeO.none _
      | refine LeO.ite ?_ ?_
      | refine LeO.bind ?_ (fun _ => ?_)
set_option maxHeartbeats 8000000 in
set_option maxRecDepth 100000 in
theorem clock_Date.calls (k : Nat) (a0 : Int) (r1 : Int) (r2 : Int) (r3 : Int) (r4 : Int) (r5 : Int) (r6 : Int) (w : World) (h : clock_Date.f k a0 = some (r1, r2, r3, r4, r5, r6)) :
    Calls Tryd.prog 45 #[.int .i64 a0] w fun e w' => e = .returned (.agg #[.int .i64 r1, .int .i64 r2, .int .i64 r3, .int .i64 r4, .int .i64 r5, .int .i64 r6]) ∧ Below w.heap.size w w' := by
  have hu59 := Tryd.underlying59
  have HB := Aside0.mk (Below.refl w.heap.size w)
  have H : (if a0 < (-1099511627776) then (clock_Date.j0 k a0 true) else (clock_Date.j0 k a0 (decide (a0 > 1099511627776)))) = some (r1, r2, r3, r4, r5, r6) := h
  clear h
  have HC2 := Aside0.mk H
  clear H
  go_enter Tryd.func45, Tryd.ntmps45
  go_upto_region 1 with (first | ((with_reducible refine gate_dst (N := 2) rfl ?_); refine box_event ?hg (N := 2) ?hd (cs := #[.int .i64 0, .int .i64 0, .int .i64 0, .int .i64 0, .int .i64 0, .int .i64 0]) (t := 59) ?hr ?_; (case hd => rfl); (case hg => rfl); (case hr => first | (go_simp; done) | (go_simp; rfl)); intro gb148 hg w3 hbox hb; have n0_ := Aside0.mk (below_step (by repeat (first | (with_reducible first | exact HB.out | apply below_alloc | apply pw_below_drewN | apply below_drew1) | exact HB.out)) hb); have n1_ := Aside0.mk (hbox); have n2_ := Aside0.mk ((by rw [hg]; exact (below_size (by repeat (first | (with_reducible first | exact HB.out | apply below_alloc | apply pw_below_drewN | apply below_drew1) | exact HB.out))) : w.heap.size ≤ gb148)); have n3_ := Aside0.mk ((by rw [hg]; exact (below_size (by repeat (first | (with_reducible first | exact HB.out | apply below_alloc | apply pw_below_drewN | apply below_drew1) | exact HB.out))) : w.heap.size ≤ gb148)); clear HB; have HB := n0_; have BK148 := n1_; have GW148 := n2_; have GE148 := n3_; clear n0_ n1_ n2_ n3_; clear hb hbox hg))
  (try simp only [Act.put, List.setIfInBounds_toArray, List.set_cons_zero, List.set_cons_succ])
  go_cut [16] (fun v16 wc => ∃ (kq : Nat) (x16_1 : Bool), v16 = .bool x16_1 ∧ Aside0 (clock_Date.j0 kq a0 x16_1 = some (r1, r2, r3, r4, r5, r6)) ∧ Aside0 (kq ≤ k) ∧ Aside0 (wc.heap[gb148]? = some (.cells #[.int .i64 0, .int .i64 0, .int .i64 0, .int .i64 0, .int .i64 0, .int .i64 0] 59 (0, 0))) ∧ Aside0 (Below w.heap.size w wc))
  case first =>
    have H := HC2.out
    clear HC2
    by_cases c4 : a0 < (-1099511627776)
    · rw [if_pos c4] at H
      have c4b0 : decide (a0 < (-1099511627776)) = true := decide_eq_true c4
      clear c4
      (first | rw [c4b0] | (simp only [i64_w, i32_w]; rw [c4b0]) | rw [c4b1] | skip)
      have H' := Aside0.mk H
      clear H
      go_wp2
      go_meet
      case rel => exact ⟨_, (true), (by first | rfl | (simp; done) | (simp [*]; done)), H', ⟨by first | omega | exact Nat.le_refl _⟩, ⟨by (with_reducible repeat (first | refine blk_drewN ?_ _ | refine blk_drew ?_ | refine blk_alloc ?_ _)); exact BK148.out⟩, ⟨by repeat (first | (with_reducible first | exact HB.out | apply below_alloc | apply pw_below_drewN | apply below_drew1 | refine below_set ?_ GE148.out) | exact HB.out)⟩⟩
    · rw [if_neg c4] at H
      have c4b0 : decide (a0 < (-1099511627776)) = false := decide_eq_false c4
      clear c4
      (first | rw [c4b0] | (simp only [i64_w, i32_w]; rw [c4b0]) | rw [c4b1] | skip)
      have H' := Aside0.mk H
      clear H
      go_wp2
      go_meet
      case rel => exact ⟨_, (decide (a0 > 1099511627776)), (by first | rfl | (simp; done) | (simp [*]; done)), H', ⟨by first | omega | exact Nat.le_refl _⟩, ⟨by (with_reducible repeat (first | refine blk_drewN ?_ _ | refine blk_drew ?_ | refine blk_alloc ?_ _)); exact BK148.out⟩, ⟨by repeat (first | (with_reducible first | exact HB.out | apply below_alloc | apply pw_below_drewN | apply below_drew1 | refine below_set ?_ GE148.out) | exact HB.out)⟩⟩
  case rest =>
    clear HC2
    try clear p2
    try clear c4
    try clear c4b0
    obtain ⟨kq, x16_1, rfl, HA, HJ1, BK148, HB⟩ := hcut
    cases kq with
    | zero => exact absurd HA.out (by simp [clock_Date.j0])
    | succ kj1 =>
      have H := HA.out
      clear HA
      simp only [clock_Date.j0] at H
      by_cases c5 : x16_1 = true
      · subst c5
        have H1 : (some (0, 0, 0, 0, 0, 0)) = some (r1, r2, r3, r4, r5, r6) := by rw [if_pos rfl] at H; exact H
        clear H
        have H := H1
        clear H1
        simp only [Option.some.injEq, Prod.mk.injEq] at H
        obtain ⟨rfl, rfl, rfl, rfl, rfl, rfl⟩ := H
        have hcz6_0 : wc.cell? ⟨gb148, 0, none⟩ = some (.int .i64 0) := (blk_cell BK148.out 0).trans rfl
        have hcz6_1 : wc.cell? ⟨gb148, 1, none⟩ = some (.int .i64 0) := (blk_cell BK148.out 1).trans rfl
        have hcz6_2 : wc.cell? ⟨gb148, 2, none⟩ = some (.int .i64 0) := (blk_cell BK148.out 2).trans rfl
        have hcz6_3 : wc.cell? ⟨gb148, 3, none⟩ = some (.int .i64 0) := (blk_cell BK148.out 3).trans rfl
        have hcz6_4 : wc.cell? ⟨gb148, 4, none⟩ = some (.int .i64 0) := (blk_cell BK148.out 4).trans rfl
        have hcz6_5 : wc.cell? ⟨gb148, 5, none⟩ = some (.int .i64 0) := (blk_cell BK148.out 5).trans rfl
        have hfz6_0 := blk_frozen BK148.out 0
        have hfz6_1 := blk_frozen BK148.out 1
        have hfz6_2 := blk_frozen BK148.out 2
        have hfz6_3 := blk_frozen BK148.out 3
        have hfz6_4 := blk_frozen BK148.out 4
        have hfz6_5 := blk_frozen BK148.out 5
        go_wp2
        refine bodyPost_ret (results_cell_row rfl _ _ gb148 59 #[.int .i64 0, .int .i64 0, .int .i64 0, .int .i64 0, .int .i64 0, .int .i64 0] (0, 0) _ rfl (by (with_reducible repeat (first | refine blk_drewN ?_ _ | refine blk_drew ?_ | refine blk_alloc ?_ _)); refine blk_put (cs := #[.int .i64 0, .int .i64 0, .int .i64 0, .int .i64 0, .int .i64 0, .int .i64 0]) ?_ 5 _ rfl; (with_reducible repeat (first | refine blk_drewN ?_ _ | refine blk_drew ?_ | refine blk_alloc ?_ _)); refine blk_put (cs := #[.int .i64 0, .int .i64 0, .int .i64 0, .int .i64 0, .int .i64 0, .int .i64 0]) ?_ 4 _ rfl; (with_reducible repeat (first | refine blk_drewN ?_ _ | refine blk_drew ?_ | refine blk_alloc ?_ _)); refine blk_put (cs := #[.int .i64 0, .int .i64 0, .int .i64 0, .int .i64 0, .int .i64 0, .int .i64 0]) ?_ 3 _ rfl; (with_reducible repeat (first | refine blk_drewN ?_ _ | refine blk_drew ?_ | refine blk_alloc ?_ _)); refine blk_put (cs := #[.int .i64 0, .int .i64 0, .int .i64 0, .int .i64 0, .int .i64 0, .int .i64 0]) ?_ 2 _ rfl; (with_reducible repeat (first | refine blk_drewN ?_ _ | refine blk_drew ?_ | refine blk_alloc ?_ _)); refine blk_put (cs := #[.int .i64 0, .int .i64 0, .int .i64 0, .int .i64 0, .int .i64 0, .int .i64 0]) ?_ 1 _ rfl; (with_reducible repeat (first | refine blk_drewN ?_ _ | refine blk_drew ?_ | refine blk_alloc ?_ _)); refine blk_put (cs := #[.int .i64 0, .int .i64 0, .int .i64 0, .int .i64 0, .int .i64 0, .int .i64 0]) ?_ 0 _ rfl; (with_reducible repeat (first | refine blk_drewN ?_ _ | refine blk_drew ?_ | refine blk_alloc ?_ _)); exact BK148.out) Tryd.underlying59 rfl (by kernel_rfl)) rfl ?_
        exact ⟨by first | rfl | (simp only [show ∀ l : List UInt8, (l != []) = (!l.isEmpty) from fun l => by cases l <;> rfl]; rfl) | (simp [errW_none, errW_some] <;> rfl) | (simp [*, errW_none, errW_some] <;> rfl), by repeat (first | (with_reducible first | exact HB.out | apply below_alloc | apply pw_below_drewN | apply below_drew1 | refine below_set ?_ GE148.out) | exact HB.out)⟩
      · replace c5 := Bool.eq_false_iff.mpr c5
        subst c5
        have H1 : ((clock_down.f a0 86400).bind fun bt149 => ((clock_down.f (wrap64 (bt149.1 + 719468)) 146097).bind fun bt151 => (if (wrap64 (Int.tdiv (wrap64 ((wrap64 (5 * (wrap64 (bt151.2 - (wrap64 ((wrap64 ((wrap64 (365 * (wrap64 (Int.tdiv (wrap64 ((wrap64 ((wrap64 (bt151.2 - (wrap64 (Int.tdiv bt151.2 1460)))) + (wrap64 (Int.tdiv bt151.2 36524)))) - (wrap64 (Int.tdiv bt151.2 146096)))) 365)))) + (wrap64 (Int.tdiv (wrap64 (Int.tdiv (wrap64 ((wrap64 ((wrap64 (bt151.2 - (wrap64 (Int.tdiv bt151.2 1460)))) + (wrap64 (Int.tdiv bt151.2 36524)))) - (wrap64 (Int.tdiv bt151.2 146096)))) 365)) 4)))) - (wrap64 (Int.tdiv (wrap64 (Int.tdiv (wrap64 ((wrap64 ((wrap64 (bt151.2 - (wrap64 (Int.tdiv bt151.2 1460)))) + (wrap64 (Int.tdiv bt151.2 36524)))) - (wrap64 (Int.tdiv bt151.2 146096)))) 365)) 100)))))))) + 2)) 153)) ≥ 10 then (some (wrap64 ((wrap64 ((wrap64 (Int.tdiv (wrap64 ((wrap64 ((wrap64 (bt151.2 - (wrap64 (Int.tdiv bt151.2 1460)))) + (wrap64 (Int.tdiv bt151.2 36524)))) - (wrap64 (Int.tdiv bt151.2 146096)))) 365)) + (wrap64 (bt151.1 * 400)))) + 1), wrap64 ((wrap64 (Int.tdiv (wrap64 ((wrap64 (5 * (wrap64 (bt151.2 - (wrap64 ((wrap64 ((wrap64 (365 * (wrap64 (Int.tdiv (wrap64 ((wrap64 ((wrap64 (bt151.2 - (wrap64 (Int.tdiv bt151.2 1460)))) + (wrap64 (Int.tdiv bt151.2 36524)))) - (wrap64 (Int.tdiv bt151.2 146096)))) 365)))) + (wrap64 (Int.tdiv (wrap64 (Int.tdiv (wrap64 ((wrap64 ((wrap64 (bt151.2 - (wrap64 (Int.tdiv bt151.2 1460)))) + (wrap64 (Int.tdiv bt151.2 36524)))) - (wrap64 (Int.tdiv bt151.2 146096)))) 365)) 4)))) - (wrap64 (Int.tdiv (wrap64 (Int.tdiv (wrap64 ((wrap64 ((wrap64 (bt151.2 - (wrap64 (Int.tdiv bt151.2 1460)))) + (wrap64 (Int.tdiv bt151.2 36524)))) - (wrap64 (Int.tdiv bt151.2 146096)))) 365)) 100)))))))) + 2)) 153)) - 9), wrap64 ((wrap64 ((wrap64 (bt151.2 - (wrap64 ((wrap64 ((wrap64 (365 * (wrap64 (Int.tdiv (wrap64 ((wrap64 ((wrap64 (bt151.2 - (wrap64 (Int.tdiv bt151.2 1460)))) + (wrap64 (Int.tdiv bt151.2 36524)))) - (wrap64 (Int.tdiv bt151.2 146096)))) 365)))) + (wrap64 (Int.tdiv (wrap64 (Int.tdiv (wrap64 ((wrap64 ((wrap64 (bt151.2 - (wrap64 (Int.tdiv bt151.2 1460)))) + (wrap64 (Int.tdiv bt151.2 36524)))) - (wrap64 (Int.tdiv bt151.2 146096)))) 365)) 4)))) - (wrap64 (Int.tdiv (wrap64 (Int.tdiv (wrap64 ((wrap64 ((wrap64 (bt151.2 - (wrap64 (Int.tdiv bt151.2 1460)))) + (wrap64 (Int.tdiv bt151.2 36524)))) - (wrap64 (Int.tdiv bt151.2 146096)))) 365)) 100)))))) - (wrap64 (Int.tdiv (wrap64 ((wrap64 (153 * (wrap64 (Int.tdiv (wrap64 ((wrap64 (5 * (wrap64 (bt151.2 - (wrap64 ((wrap64 ((wrap64 (365 * (wrap64 (Int.tdiv (wrap64 ((wrap64 ((wrap64 (bt151.2 - (wrap64 (Int.tdiv bt151.2 1460)))) + (wrap64 (Int.tdiv bt151.2 36524)))) - (wrap64 (Int.tdiv bt151.2 146096)))) 365)))) + (wrap64 (Int.tdiv (wrap64 (Int.tdiv (wrap64 ((wrap64 ((wrap64 (bt151.2 - (wrap64 (Int.tdiv bt151.2 1460)))) + (wrap64 (Int.tdiv bt151.2 36524)))) - (wrap64 (Int.tdiv bt151.2 146096)))) 365)) 4)))) - (wrap64 (Int.tdiv (wrap64 (Int.tdiv (wrap64 ((wrap64 ((wrap64 (bt151.2 - (wrap64 (Int.tdiv bt151.2 1460)))) + (wrap64 (Int.tdiv bt151.2 36524)))) - (wrap64 (Int.tdiv bt151.2 146096)))) 365)) 100)))))))) + 2)) 153)))) + 2)) 5)))) + 1), wrap64 (Int.tdiv bt149.2 3600), Int.tmod (wrap64 (Int.tdiv bt149.2 60)) 60, Int.tmod bt149.2 60)) else (some (wrap64 ((wrap64 (Int.tdiv (wrap64 ((wrap64 ((wrap64 (bt151.2 - (wrap64 (Int.tdiv bt151.2 1460)))) + (wrap64 (Int.tdiv bt151.2 36524)))) - (wrap64 (Int.tdiv bt151.2 146096)))) 365)) + (wrap64 (bt151.1 * 400))), wrap64 ((wrap64 (Int.tdiv (wrap64 ((wrap64 (5 * (wrap64 (bt151.2 - (wrap64 ((wrap64 ((wrap64 (365 * (wrap64 (Int.tdiv (wrap64 ((wrap64 ((wrap64 (bt151.2 - (wrap64 (Int.tdiv bt151.2 1460)))) + (wrap64 (Int.tdiv bt151.2 36524)))) - (wrap64 (Int.tdiv bt151.2 146096)))) 365)))) + (wrap64 (Int.tdiv (wrap64 (Int.tdiv (wrap64 ((wrap64 ((wrap64 (bt151.2 - (wrap64 (Int.tdiv bt151.2 1460)))) + (wrap64 (Int.tdiv bt151.2 36524)))) - (wrap64 (Int.tdiv bt151.2 146096)))) 365)) 4)))) - (wrap64 (Int.tdiv (wrap64 (Int.tdiv (wrap64 ((wrap64 ((wrap64 (bt151.2 - (wrap64 (Int.tdiv bt151.2 1460)))) + (wrap64 (Int.tdiv bt151.2 36524)))) - (wrap64 (Int.tdiv bt151.2 146096)))) 365)) 100)))))))) + 2)) 153)) + 3), wrap64 ((wrap64 ((wrap64 (bt151.2 - (wrap64 ((wrap64 ((wrap64 (365 * (wrap64 (Int.tdiv (wrap64 ((wrap64 ((wrap64 (bt151.2 - (wrap64 (Int.tdiv bt151.2 1460)))) + (wrap64 (Int.tdiv bt151.2 36524)))) - (wrap64 (Int.tdiv bt151.2 146096)))) 365)))) + (wrap64 (Int.tdiv (wrap64 (Int.tdiv (wrap64 ((wrap64 ((wrap64 (bt151.2 - (wrap64 (Int.tdiv bt151.2 1460)))) + (wrap64 (Int.tdiv bt151.2 36524)))) - (wrap64 (Int.tdiv bt151.2 146096)))) 365)) 4)))) - (wrap64 (Int.tdiv (wrap64 (Int.tdiv (wrap64 ((wrap64 ((wrap64 (bt151.2 - (wrap64 (Int.tdiv bt151.2 1460)))) + (wrap64 (Int.tdiv bt151.2 36524)))) - (wrap64 (Int.tdiv bt151.2 146096)))) 365)) 100)))))) - (wrap64 (Int.tdiv (wrap64 ((wrap64 (153 * (wrap64 (Int.tdiv (wrap64 ((wrap64 (5 * (wrap64 (bt151.2 - (wrap64 ((wrap64 ((wrap64 (365 * (wrap64 (Int.tdiv (wrap64 ((wrap64 ((wrap64 (bt151.2 - (wrap64 (Int.tdiv bt151.2 1460)))) + (wrap64 (Int.tdiv bt151.2 36524)))) - (wrap64 (Int.tdiv bt151.2 146096)))) 365)))) + (wrap64 (Int.tdiv (wrap64 (Int.tdiv (wrap64 ((wrap64 ((wrap64 (bt151.2 - (wrap64 (Int.tdiv bt151.2 1460)))) + (wrap64 (Int.tdiv bt151.2 36524)))) - (wrap64 (Int.tdiv bt151.2 146096)))) 365)) 4)))) - (wrap64 (Int.tdiv (wrap64 (Int.tdiv (wrap64 ((wrap64 ((wrap64 (bt151.2 - (wrap64 (Int.tdiv bt151.2 1460)))) + (wrap64 (Int.tdiv bt151.2 36524)))) - (wrap64 (Int.tdiv bt151.2 146096)))) 365)) 100)))))))) + 2)) 153)))) + 2)) 5)))) + 1), wrap64 (Int.tdiv bt149.2 3600), Int.tmod (wrap64 (Int.tdiv bt149.2 60)) 60, Int.tmod bt149.2 60))))) = some (r1, r2, r3, r4, r5, r6) := by rw [if_neg (show ¬ (false = true) by decide)] at H; exact H
        clear H
        have H := H1
        clear H1
        replace H := Option.bind_eq_some_iff.mp H
        obtain ⟨⟨t149, t150⟩, A70, H⟩ := H
        replace H : ((clock_down.f (wrap64 (t149 + 719468)) 146097).bind fun bt151 => (if (wrap64 (Int.tdiv (wrap64 ((wrap64 (5 * (wrap64 (bt151.2 - (wrap64 ((wrap64 ((wrap64 (365 * (wrap64 (Int.tdiv (wrap64 ((wrap64 ((wrap64 (bt151.2 - (wrap64 (Int.tdiv bt151.2 1460)))) + (wrap64 (Int.tdiv bt151.2 36524)))) - (wrap64 (Int.tdiv bt151.2 146096)))) 365)))) + (wrap64 (Int.tdiv (wrap64 (Int.tdiv (wrap64 ((wrap64 ((wrap64 (bt151.2 - (wrap64 (Int.tdiv bt151.2 1460)))) + (wrap64 (Int.tdiv bt151.2 36524)))) - (wrap64 (Int.tdiv bt151.2 146096)))) 365)) 4)))) - (wrap64 (Int.tdiv (wrap64 (Int.tdiv (wrap64 ((wrap64 ((wrap64 (bt151.2 - (wrap64 (Int.tdiv bt151.2 1460)))) + (wrap64 (Int.tdiv bt151.2 36524)))) - (wrap64 (Int.tdiv bt151.2 146096)))) 365)) 100)))))))) + 2)) 153)) ≥ 10 then (some (wrap64 ((wrap64 ((wrap64 (Int.tdiv (wrap64 ((wrap64 ((wrap64 (bt151.2 - (wrap64 (Int.tdiv bt151.2 1460)))) + (wrap64 (Int.tdiv bt151.2 36524)))) - (wrap64 (Int.tdiv bt151.2 146096)))) 365)) + (wrap64 (bt151.1 * 400)))) + 1), wrap64 ((wrap64 (Int.tdiv (wrap64 ((wrap64 (5 * (wrap64 (bt151.2 - (wrap64 ((wrap64 ((wrap64 (365 * (wrap64 (Int.tdiv (wrap64 ((wrap64 ((wrap64 (bt151.2 - (wrap64 (Int.tdiv bt151.2 1460)))) + (wrap64 (Int.tdiv bt151.2 36524)))) - (wrap64 (Int.tdiv bt151.2 146096)))) 365)))) + (wrap64 (Int.tdiv (wrap64 (Int.tdiv (wrap64 ((wrap64 ((wrap64 (bt151.2 - (wrap64 (Int.tdiv bt151.2 1460)))) + (wrap64 (Int.tdiv bt151.2 36524)))) - (wrap64 (Int.tdiv bt151.2 146096)))) 365)) 4)))) - (wrap64 (Int.tdiv (wrap64 (Int.tdiv (wrap64 ((wrap64 ((wrap64 (bt151.2 - (wrap64 (Int.tdiv bt151.2 1460)))) + (wrap64 (Int.tdiv bt151.2 36524)))) - (wrap64 (Int.tdiv bt151.2 146096)))) 365)) 100)))))))) + 2)) 153)) - 9), wrap64 ((wrap64 ((wrap64 (bt151.2 - (wrap64 ((wrap64 ((wrap64 (365 * (wrap64 (Int.tdiv (wrap64 ((wrap64 ((wrap64 (bt151.2 - (wrap64 (Int.tdiv bt151.2 1460)))) + (wrap64 (Int.tdiv bt151.2 36524)))) - (wrap64 (Int.tdiv bt151.2 146096)))) 365)))) + (wrap64 (Int.tdiv (wrap64 (Int.tdiv (wrap64 ((wrap64 ((wrap64 (bt151.2 - (wrap64 (Int.tdiv bt151.2 1460)))) + (wrap64 (Int.tdiv bt151.2 36524)))) - (wrap64 (Int.tdiv bt151.2 146096)))) 365)) 4)))) - (wrap64 (Int.tdiv (wrap64 (Int.tdiv (wrap64 ((wrap64 ((wrap64 (bt151.2 - (wrap64 (Int.tdiv bt151.2 1460)))) + (wrap64 (Int.tdiv bt151.2 36524)))) - (wrap64 (Int.tdiv bt151.2 146096)))) 365)) 100)))))) - (wrap64 (Int.tdiv (wrap64 ((wrap64 (153 * (wrap64 (Int.tdiv (wrap64 ((wrap64 (5 * (wrap64 (bt151.2 - (wrap64 ((wrap64 ((wrap64 (365 * (wrap64 (Int.tdiv (wrap64 ((wrap64 ((wrap64 (bt151.2 - (wrap64 (Int.tdiv bt151.2 1460)))) + (wrap64 (Int.tdiv bt151.2 36524)))) - (wrap64 (Int.tdiv bt151.2 146096)))) 365)))) + (wrap64 (Int.tdiv (wrap64 (Int.tdiv (wrap64 ((wrap64 ((wrap64 (bt151.2 - (wrap64 (Int.tdiv bt151.2 1460)))) + (wrap64 (Int.tdiv bt151.2 36524)))) - (wrap64 (Int.tdiv bt151.2 146096)))) 365)) 4)))) - (wrap64 (Int.tdiv (wrap64 (Int.tdiv (wrap64 ((wrap64 ((wrap64 (bt151.2 - (wrap64 (Int.tdiv bt151.2 1460)))) + (wrap64 (Int.tdiv bt151.2 36524)))) - (wrap64 (Int.tdiv bt151.2 146096)))) 365)) 100)))))))) + 2)) 153)))) + 2)) 5)))) + 1), wrap64 (Int.tdiv t150 3600), Int.tmod (wrap64 (Int.tdiv t150 60)) 60, Int.tmod t150 60)) else (some (wrap64 ((wrap64 (Int.tdiv (wrap64 ((wrap64 ((wrap64 (bt151.2 - (wrap64 (Int.tdiv bt151.2 1460)))) + (wrap64 (Int.tdiv bt151.2 36524)))) - (wrap64 (Int.tdiv bt151.2 146096)))) 365)) + (wrap64 (bt151.1 * 400))), wrap64 ((wrap64 (Int.tdiv (wrap64 ((wrap64 (5 * (wrap64 (bt151.2 - (wrap64 ((wrap64 ((wrap64 (365 * (wrap64 (Int.tdiv (wrap64 ((wrap64 ((wrap64 (bt151.2 - (wrap64 (Int.tdiv bt151.2 1460)))) + (wrap64 (Int.tdiv bt151.2 36524)))) - (wrap64 (Int.tdiv bt151.2 146096)))) 365)))) + (wrap64 (Int.tdiv (wrap64 (Int.tdiv (wrap64 ((wrap64 ((wrap64 (bt151.2 - (wrap64 (Int.tdiv bt151.2 1460)))) + (wrap64 (Int.tdiv bt151.2 36524)))) - (wrap64 (Int.tdiv bt151.2 146096)))) 365)) 4)))) - (wrap64 (Int.tdiv (wrap64 (Int.tdiv (wrap64 ((wrap64 ((wrap64 (bt151.2 - (wrap64 (Int.tdiv bt151.2 1460)))) + (wrap64 (Int.tdiv bt151.2 36524)))) - (wrap64 (Int.tdiv bt151.2 146096)))) 365)) 100)))))))) + 2)) 153)) + 3), wrap64 ((wrap64 ((wrap64 (bt151.2 - (wrap64 ((wrap64 ((wrap64 (365 * (wrap64 (Int.tdiv (wrap64 ((wrap64 ((wrap64 (bt151.2 - (wrap64 (Int.tdiv bt151.2 1460)))) + (wrap64 (Int.tdiv bt151.2 36524)))) - (wrap64 (Int.tdiv bt151.2 146096)))) 365)))) + (wrap64 (Int.tdiv (wrap64 (Int.tdiv (wrap64 ((wrap64 ((wrap64 (bt151.2 - (wrap64 (Int.tdiv bt151.2 1460)))) + (wrap64 (Int.tdiv bt151.2 36524)))) - (wrap64 (Int.tdiv bt151.2 146096)))) 365)) 4)))) - (wrap64 (Int.tdiv (wrap64 (Int.tdiv (wrap64 ((wrap64 ((wrap64 (bt151.2 - (wrap64 (Int.tdiv bt151.2 1460)))) + (wrap64 (Int.tdiv bt151.2 36524)))) - (wrap64 (Int.tdiv bt151.2 146096)))) 365)) 100)))))) - (wrap64 (Int.tdiv (wrap64 ((wrap64 (153 * (wrap64 (Int.tdiv (wrap64 ((wrap64 (5 * (wrap64 (bt151.2 - (wrap64 ((wrap64 ((wrap64 (365 * (wrap64 (Int.tdiv (wrap64 ((wrap64 ((wrap64 (bt151.2 - (wrap64 (Int.tdiv bt151.2 1460)))) + (wrap64 (Int.tdiv bt151.2 36524)))) - (wrap64 (Int.tdiv bt151.2 146096)))) 365)))) + (wrap64 (Int.tdiv (wrap64 (Int.tdiv (wrap64 ((wrap64 ((wrap64 (bt151.2 - (wrap64 (Int.tdiv bt151.2 1460)))) + (wrap64 (Int.tdiv bt151.2 36524)))) - (wrap64 (Int.tdiv bt151.2 146096)))) 365)) 4)))) - (wrap64 (Int.tdiv (wrap64 (Int.tdiv (wrap64 ((wrap64 ((wrap64 (bt151.2 - (wrap64 (Int.tdiv bt151.2 1460)))) + (wrap64 (Int.tdiv bt151.2 36524)))) - (wrap64 (Int.tdiv bt151.2 146096)))) 365)) 100)))))))) + 2)) 153)))) + 2)) 5)))) + 1), wrap64 (Int.tdiv t150 3600), Int.tmod (wrap64 (Int.tdiv t150 60)) 60, Int.tmod t150 60)))) = some (r1, r2, r3, r4, r5, r6) := H
        have A7 := Aside0.mk A70
        clear A70
        replace H := Option.bind_eq_some_iff.mp H
        obtain ⟨⟨t151, t152⟩, A80, H⟩ := H
        replace H : (if (wrap64 (Int.tdiv (wrap64 ((wrap64 (5 * (wrap64 (t152 - (wrap64 ((wrap64 ((wrap64 (365 * (wrap64 (Int.tdiv (wrap64 ((wrap64 ((wrap64 (t152 - (wrap64 (Int.tdiv t152 1460)))) + (wrap64 (Int.tdiv t152 36524)))) - (wrap64 (Int.tdiv t152 146096)))) 365)))) + (wrap64 (Int.tdiv (wrap64 (Int.tdiv (wrap64 ((wrap64 ((wrap64 (t152 - (wrap64 (Int.tdiv t152 1460)))) + (wrap64 (Int.tdiv t152 36524)))) - (wrap64 (Int.tdiv t152 146096)))) 365)) 4)))) - (wrap64 (Int.tdiv (wrap64 (Int.tdiv (wrap64 ((wrap64 ((wrap64 (t152 - (wrap64 (Int.tdiv t152 1460)))) + (wrap64 (Int.tdiv t152 36524)))) - (wrap64 (Int.tdiv t152 146096)))) 365)) 100)))))))) + 2)) 153)) ≥ 10 then (some (wrap64 ((wrap64 ((wrap64 (Int.tdiv (wrap64 ((wrap64 ((wrap64 (t152 - (wrap64 (Int.tdiv t152 1460)))) + (wrap64 (Int.tdiv t152 36524)))) - (wrap64 (Int.tdiv t152 146096)))) 365)) + (wrap64 (t151 * 400)))) + 1), wrap64 ((wrap64 (Int.tdiv (wrap64 ((wrap64 (5 * (wrap64 (t152 - (wrap64 ((wrap64 ((wrap64 (365 * (wrap64 (Int.tdiv (wrap64 ((wrap64 ((wrap64 (t152 - (wrap64 (Int.tdiv t152 1460)))) + (wrap64 (Int.tdiv t152 36524)))) - (wrap64 (Int.tdiv t152 146096)))) 365)))) + (wrap64 (Int.tdiv (wrap64 (Int.tdiv (wrap64 ((wrap64 ((wrap64 (t152 - (wrap64 (Int.tdiv t152 1460)))) + (wrap64 (Int.tdiv t152 36524)))) - (wrap64 (Int.tdiv t152 146096)))) 365)) 4)))) - (wrap64 (Int.tdiv (wrap64 (Int.tdiv (wrap64 ((wrap64 ((wrap64 (t152 - (wrap64 (Int.tdiv t152 1460)))) + (wrap64 (Int.tdiv t152 36524)))) - (wrap64 (Int.tdiv t152 146096)))) 365)) 100)))))))) + 2)) 153)) - 9), wrap64 ((wrap64 ((wrap64 (t152 - (wrap64 ((wrap64 ((wrap64 (365 * (wrap64 (Int.tdiv (wrap64 ((wrap64 ((wrap64 (t152 - (wrap64 (Int.tdiv t152 1460)))) + (wrap64 (Int.tdiv t152 36524)))) - (wrap64 (Int.tdiv t152 146096)))) 365)))) + (wrap64 (Int.tdiv (wrap64 (Int.tdiv (wrap64 ((wrap64 ((wrap64 (t152 - (wrap64 (Int.tdiv t152 1460)))) + (wrap64 (Int.tdiv t152 36524)))) - (wrap64 (Int.tdiv t152 146096)))) 365)) 4)))) - (wrap64 (Int.tdiv (wrap64 (Int.tdiv (wrap64 ((wrap64 ((wrap64 (t152 - (wrap64 (Int.tdiv t152 1460)))) + (wrap64 (Int.tdiv t152 36524)))) - (wrap64 (Int.tdiv t152 146096)))) 365)) 100)))))) - (wrap64 (Int.tdiv (wrap64 ((wrap64 (153 * (wrap64 (Int.tdiv (wrap64 ((wrap64 (5 * (wrap64 (t152 - (wrap64 ((wrap64 ((wrap64 (365 * (wrap64 (Int.tdiv (wrap64 ((wrap64 ((wrap64 (t152 - (wrap64 (Int.tdiv t152 1460)))) + (wrap64 (Int.tdiv t152 36524)))) - (wrap64 (Int.tdiv t152 146096)))) 365)))) + (wrap64 (Int.tdiv (wrap64 (Int.tdiv (wrap64 ((wrap64 ((wrap64 (t152 - (wrap64 (Int.tdiv t152 1460)))) + (wrap64 (Int.tdiv t152 36524)))) - (wrap64 (Int.tdiv t152 146096)))) 365)) 4)))) - (wrap64 (Int.tdiv (wrap64 (Int.tdiv (wrap64 ((wrap64 ((wrap64 (t152 - (wrap64 (Int.tdiv t152 1460)))) + (wrap64 (Int.tdiv t152 36524)))) - (wrap64 (Int.tdiv t152 146096)))) 365)) 100)))))))) + 2)) 153)))) + 2)) 5)))) + 1), wrap64 (Int.tdiv t150 3600), Int.tmod (wrap64 (Int.tdiv t150 60)) 60, Int.tmod t150 60)) else (some (wrap64 ((wrap64 (Int.tdiv (wrap64 ((wrap64 ((wrap64 (t152 - (wrap64 (Int.tdiv t152 1460)))) + (wrap64 (Int.tdiv t152 36524)))) - (wrap64 (Int.tdiv t152 146096)))) 365)) + (wrap64 (t151 * 400))), wrap64 ((wrap64 (Int.tdiv (wrap64 ((wrap64 (5 * (wrap64 (t152 - (wrap64 ((wrap64 ((wrap64 (365 * (wrap64 (Int.tdiv (wrap64 ((wrap64 ((wrap64 (t152 - (wrap64 (Int.tdiv t152 1460)))) + (wrap64 (Int.tdiv t152 36524)))) - (wrap64 (Int.tdiv t152 146096)))) 365)))) + (wrap64 (Int.tdiv (wrap64 (Int.tdiv (wrap64 ((wrap64 ((wrap64 (t152 - (wrap64 (Int.tdiv t152 1460)))) + (wrap64 (Int.tdiv t152 36524)))) - (wrap64 (Int.tdiv t152 146096)))) 365)) 4)))) - (wrap64 (Int.tdiv (wrap64 (Int.tdiv (wrap64 ((wrap64 ((wrap64 (t152 - (wrap64 (Int.tdiv t152 1460)))) + (wrap64 (Int.tdiv t152 36524)))) - (wrap64 (Int.tdiv t152 146096)))) 365)) 100)))))))) + 2)) 153)) + 3), wrap64 ((wrap64 ((wrap64 (t152 - (wrap64 ((wrap64 ((wrap64 (365 * (wrap64 (Int.tdiv (wrap64 ((wrap64 ((wrap64 (t152 - (wrap64 (Int.tdiv t152 1460)))) + (wrap64 (Int.tdiv t152 36524)))) - (wrap64 (Int.tdiv t152 146096)))) 365)))) + (wrap64 (Int.tdiv (wrap64 (Int.tdiv (wrap64 ((wrap64 ((wrap64 (t152 - (wrap64 (Int.tdiv t152 1460)))) + (wrap64 (Int.tdiv t152 36524)))) - (wrap64 (Int.tdiv t152 146096)))) 365)) 4)))) - (wrap64 (Int.tdiv (wrap64 (Int.tdiv (wrap64 ((wrap64 ((wrap64 (t152 - (wrap64 (Int.tdiv t152 1460)))) + (wrap64 (Int.tdiv t152 36524)))) - (wrap64 (Int.tdiv t152 146096)))) 365)) 100)))))) - (wrap64 (Int.tdiv (wrap64 ((wrap64 (153 * (wrap64 (Int.tdiv (wrap64 ((wrap64 (5 * (wrap64 (t152 - (wrap64 ((wrap64 ((wrap64 (365 * (wrap64 (Int.tdiv (wrap64 ((wrap64 ((wrap64 (t152 - (wrap64 (Int.tdiv t152 1460)))) + (wrap64 (Int.tdiv t152 36524)))) - (wrap64 (Int.tdiv t152 146096)))) 365)))) + (wrap64 (Int.tdiv (wrap64 (Int.tdiv (wrap64 ((wrap64 ((wrap64 (t152 - (wrap64 (Int.tdiv t152 1460)))) + (wrap64 (Int.tdiv t152 36524)))) - (wrap64 (Int.tdiv t152 146096)))) 365)) 4)))) - (wrap64 (Int.tdiv (wrap64 (Int.tdiv (wrap64 ((wrap64 ((wrap64 (t152 - (wrap64 (Int.tdiv t152 1460)))) + (wrap64 (Int.tdiv t152 36524)))) - (wrap64 (Int.tdiv t152 146096)))) 365)) 100)))))))) + 2)) 153)))) + 2)) 5)))) + 1), wrap64 (Int.tdiv t150 3600), Int.tmod (wrap64 (Int.tdiv t150 60)) 60, Int.tmod t150 60))) = some (r1, r2, r3, r4, r5, r6) := H
        have A8 := Aside0.mk A80
        clear A80
        generalize ez_0 : wrap64 (Int.tdiv t152 1460) = z_0 at H
        generalize ez_1 : wrap64 (t152 - z_0) = z_1 at H
        generalize ez_2 : wrap64 (Int.tdiv t152 36524) = z_2 at H
        generalize ez_3 : wrap64 (z_1 + z_2) = z_3 at H
        generalize ez_4 : wrap64 (Int.tdiv t152 146096) = z_4 at H
        generalize ez_5 : wrap64 (z_3 - z_4) = z_5 at H
        generalize ez_6 : wrap64 (Int.tdiv z_5 365) = z_6 at H
        generalize ez_7 : wrap64 (365 * z_6) = z_7 at H
        generalize ez_8 : wrap64 (Int.tdiv z_6 4) = z_8 at H
        generalize ez_9 : wrap64 (z_7 + z_8) = z_9 at H
        generalize ez_10 : wrap64 (Int.tdiv z_6 100) = z_10 at H
        generalize ez_11 : wrap64 (z_9 - z_10) = z_11 at H
        generalize ez_12 : wrap64 (t152 - z_11) = z_12 at H
        generalize ez_13 : wrap64 (5 * z_12) = z_13 at H
        generalize ez_14 : wrap64 (z_13 + 2) = z_14 at H
        generalize ez_15 : wrap64 (Int.tdiv z_14 153) = z_15 at H
        generalize ez_16 : wrap64 (t151 * 400) = z_16 at H
        generalize ez_17 : wrap64 (z_6 + z_16) = z_17 at H
        generalize ez_18 : wrap64 (z_17 + 1) = z_18 at H
        generalize ez_19 : wrap64 (z_15 - 9) = z_19 at H
        generalize ez_20 : wrap64 (153 * z_15) = z_20 at H
        generalize ez_21 : wrap64 (z_20 + 2) = z_21 at H
        generalize ez_22 : wrap64 (Int.tdiv z_21 5) = z_22 at H
        generalize ez_23 : wrap64 (z_12 - z_22) = z_23 at H
        generalize ez_24 : wrap64 (z_23 + 1) = z_24 at H
        generalize ez_25 : wrap64 (Int.tdiv t150 3600) = z_25 at H
        generalize ez_26 : wrap64 (Int.tdiv t150 60) = z_26 at H
        generalize ez_27 : wrap64 (z_15 + 3) = z_27 at H
        by_cases c9 : z_15 ≥ 10
        · rw [if_pos c9] at H
          have c9b0 : decide (10 ≤ z_15) = true := decide_eq_true c9
          clear c9
          simp only [Option.some.injEq, Prod.mk.injEq] at H
          obtain ⟨rfl, rfl, rfl, rfl, rfl, rfl⟩ := H
          go_upto_region 11 with (first | ((with_reducible refine gate_callee (f := 81) rfl ?_); refine goesL_ (some 20) rfl rfl Tryd.func81 (by kernel_rfl) rfl #[.int .i64 a0, .int .i64 86400] rfl (by (try simp only [List.map_toArray, List.map_cons, List.map_nil]); first | done | rfl | (simp only [List.length_drop, List.length_take]; rfl)) ?_; (with_reducible refine (clock_down.calls a0 86400 t149 t150 _ A7.out).mono ?_); rintro e w' ⟨rfl, ⟨nd, rfl⟩⟩; refine ⟨_, rfl, ?_⟩; (try (rw [drewN_self wc]; generalize hq_ : World.drewN wc _ = wc; have n0_ : Aside0 (wc.heap[gb148]? = some (.cells #[.int .i64 0, .int .i64 0, .int .i64 0, .int .i64 0, .int .i64 0, .int .i64 0] 59 (0, 0))) := ⟨by rw [← hq_]; exact (by (with_reducible repeat (first | refine blk_drewN ?_ _ | refine blk_drew ?_ | refine blk_alloc ?_ _)); exact BK148.out)⟩; have n1_ : Aside0 (Below w.heap.size w wc) := ⟨by rw [← hq_]; exact (by repeat (first | (with_reducible first | exact HB.out | apply below_alloc | apply pw_below_drewN | apply below_drew1 | refine below_set ?_ GE148.out) | exact HB.out))⟩; clear BK148 HB hq_; have BK148 := n0_; have HB := n1_; clear n0_ n1_))) | ((with_reducible refine gate_callee (f := 81) rfl ?_); refine goesL_ (some 26) rfl rfl Tryd.func81 (by kernel_rfl) rfl #[.int .i64 (wrap64 (t149 + 719468)), .int .i64 146097] rfl (by (try simp only [List.map_toArray, List.map_cons, List.map_nil]); first | done | rfl | (simp only [List.length_drop, List.length_take]; rfl)) ?_; (with_reducible refine (clock_down.calls (wrap64 (t149 + 719468)) 146097 t151 t152 _ A8.out).mono ?_); rintro e w' ⟨rfl, ⟨nd, rfl⟩⟩; refine ⟨_, rfl, ?_⟩; (try (rw [drewN_self wc]; generalize hq_ : World.drewN wc _ = wc; have n0_ : Aside0 (wc.heap[gb148]? = some (.cells #[.int .i64 0, .int .i64 0, .int .i64 0, .int .i64 0, .int .i64 0, .int .i64 0] 59 (0, 0))) := ⟨by rw [← hq_]; exact (by (with_reducible repeat (first | refine blk_drewN ?_ _ | refine blk_drew ?_ | refine blk_alloc ?_ _)); exact BK148.out)⟩; have n1_ : Aside0 (Below w.heap.size w wc) := ⟨by rw [← hq_]; exact (by repeat (first | (with_reducible first | exact HB.out | apply below_alloc | apply pw_below_drewN | apply below_drew1 | refine below_set ?_ GE148.out) | exact HB.out))⟩; clear BK148 HB hq_; have BK148 := n0_; have HB := n1_; clear n0_ n1_))) | ((with_reducible refine gate_dst (N := 10) rfl ?_); refine box_event ?hg (N := 10) ?hd (cs := #[.int .i64 0, .int .i64 0, .int .i64 0, .int .i64 0, .int .i64 0, .int .i64 0]) (t := 59) ?hr ?_; (case hd => rfl); (case hg => rfl); (case hr => first | (go_simp; done) | (go_simp; rfl)); intro gb153 hg w10 hbox hb; have n0_ := Aside0.mk (blk_below (g := gb148) (o := .cells #[.int .i64 0, .int .i64 0, .int .i64 0, .int .i64 0, .int .i64 0, .int .i64 0] 59 (0, 0)) (by (with_reducible repeat (first | refine blk_drewN ?_ _ | refine blk_drew ?_ | refine blk_alloc ?_ _)); exact BK148.out) hb); have n1_ := Aside0.mk (below_step (by repeat (first | (with_reducible first | exact HB.out | apply below_alloc | apply pw_below_drewN | apply below_drew1 | refine below_set ?_ GE148.out) | exact HB.out)) hb); have n2_ := Aside0.mk (hbox); have n3_ := Aside0.mk ((by rw [hg]; exact (below_size (by repeat (first | (with_reducible first | exact HB.out | apply below_alloc | apply pw_below_drewN | apply below_drew1 | refine below_set ?_ GE148.out) | exact HB.out))) : w.heap.size ≤ gb153)); have n4_ := Aside0.mk ((by rw [hg]; exact (below_size (by repeat (first | (with_reducible first | exact HB.out | apply below_alloc | apply pw_below_drewN | apply below_drew1 | refine below_set ?_ GE148.out) | exact HB.out))) : w.heap.size ≤ gb153)); have n5_ := Aside0.mk ((by rw [hg]; exact Nat.ne_of_lt (blk_lt (g := gb148) (o := .cells #[.int .i64 0, .int .i64 0, .int .i64 0, .int .i64 0, .int .i64 0, .int .i64 0] 59 (0, 0)) (by (with_reducible repeat (first | refine blk_drewN ?_ _ | refine blk_drew ?_ | refine blk_alloc ?_ _)); exact BK148.out)) : gb148 ≠ gb153)); have n6_ := Aside0.mk ((by rw [hg]; exact Nat.ne_of_gt (blk_lt (g := gb148) (o := .cells #[.int .i64 0, .int .i64 0, .int .i64 0, .int .i64 0, .int .i64 0, .int .i64 0] 59 (0, 0)) (by (with_reducible repeat (first | refine blk_drewN ?_ _ | refine blk_drew ?_ | refine blk_alloc ?_ _)); exact BK148.out)) : gb153 ≠ gb148)); clear BK148; clear HB; have BK148 := n0_; have HB := n1_; have BK153 := n2_; have GW153 := n3_; have GE153 := n4_; have NB148_153 := n5_; have NB153_148 := n6_; clear n0_ n1_ n2_ n3_ n4_ n5_ n6_; clear hb hbox hg; have hnb11 := NB153_148.out; have hnc11 := NB148_153.out; have hcz12_0 : w10.cell? ⟨gb153, 0, none⟩ = some (.int .i64 0) := (blk_cell BK153.out 0).trans rfl; have hcz12_1 : w10.cell? ⟨gb153, 1, none⟩ = some (.int .i64 0) := (blk_cell BK153.out 1).trans rfl; have hcz12_2 : w10.cell? ⟨gb153, 2, none⟩ = some (.int .i64 0) := (blk_cell BK153.out 2).trans rfl; have hcz12_3 : w10.cell? ⟨gb153, 3, none⟩ = some (.int .i64 0) := (blk_cell BK153.out 3).trans rfl; have hcz12_4 : w10.cell? ⟨gb153, 4, none⟩ = some (.int .i64 0) := (blk_cell BK153.out 4).trans rfl; have hcz12_5 : w10.cell? ⟨gb153, 5, none⟩ = some (.int .i64 0) := (blk_cell BK153.out 5).trans rfl; have hfz12_0 := blk_frozen BK153.out 0; have hfz12_1 := blk_frozen BK153.out 1; have hfz12_2 := blk_frozen BK153.out 2; have hfz12_3 := blk_frozen BK153.out 3; have hfz12_4 := blk_frozen BK153.out 4; have hfz12_5 := blk_frozen BK153.out 5; have hcz13_0 : w10.cell? ⟨gb148, 0, none⟩ = some (.int .i64 0) := (blk_cell BK148.out 0).trans rfl; have hcz13_1 : w10.cell? ⟨gb148, 1, none⟩ = some (.int .i64 0) := (blk_cell BK148.out 1).trans rfl; have hcz13_2 : w10.cell? ⟨gb148, 2, none⟩ = some (.int .i64 0) := (blk_cell BK148.out 2).trans rfl; have hcz13_3 : w10.cell? ⟨gb148, 3, none⟩ = some (.int .i64 0) := (blk_cell BK148.out 3).trans rfl; have hcz13_4 : w10.cell? ⟨gb148, 4, none⟩ = some (.int .i64 0) := (blk_cell BK148.out 4).trans rfl; have hcz13_5 : w10.cell? ⟨gb148, 5, none⟩ = some (.int .i64 0) := (blk_cell BK148.out 5).trans rfl; have hfz13_0 := blk_frozen BK148.out 0; have hfz13_1 := blk_frozen BK148.out 1; have hfz13_2 := blk_frozen BK148.out 2; have hfz13_3 := blk_frozen BK148.out 3; have hfz13_4 := blk_frozen BK148.out 4; have hfz13_5 := blk_frozen BK148.out 5))
          have BK153n : Aside0 ((World.heap (World.setCell (World.setCell (World.setCell (World.setCell (World.setCell (World.setCell (World.setCell (World.setCell w10 ⟨gb153, 0, none⟩ (.int .i64 z_17)) ⟨gb153, 1, none⟩ (.int .i64 z_27)) ⟨gb153, 2, none⟩ (.int .i64 z_24)) ⟨gb153, 3, none⟩ (.int .i64 z_25)) ⟨gb153, 4, none⟩ (.int .i64 (Int.tmod z_26 60))) ⟨gb153, 5, none⟩ (.int .i64 (Int.tmod t150 60))) ⟨gb153, 1, none⟩ (.int .i64 z_19)) ⟨gb153, 0, none⟩ (.int .i64 z_18)))[gb153]? = some (.cells #[.int .i64 z_18, .int .i64 z_19, .int .i64 z_24, .int .i64 z_25, .int .i64 (Int.tmod z_26 60), .int .i64 (Int.tmod t150 60)] 59 (0, 0))) := ⟨by refine blk_put (cs := #[.int .i64 z_17, .int .i64 z_19, .int .i64 z_24, .int .i64 z_25, .int .i64 (Int.tmod z_26 60), .int .i64 (Int.tmod t150 60)]) ?_ 0 _ rfl; refine blk_put (cs := #[.int .i64 z_17, .int .i64 z_27, .int .i64 z_24, .int .i64 z_25, .int .i64 (Int.tmod z_26 60), .int .i64 (Int.tmod t150 60)]) ?_ 1 _ rfl; refine blk_put (cs := #[.int .i64 z_17, .int .i64 z_27, .int .i64 z_24, .int .i64 z_25, .int .i64 (Int.tmod z_26 60), .int .i64 0]) ?_ 5 _ rfl; refine blk_put (cs := #[.int .i64 z_17, .int .i64 z_27, .int .i64 z_24, .int .i64 z_25, .int .i64 0, .int .i64 0]) ?_ 4 _ rfl; refine blk_put (cs := #[.int .i64 z_17, .int .i64 z_27, .int .i64 z_24, .int .i64 0, .int .i64 0, .int .i64 0]) ?_ 3 _ rfl; refine blk_put (cs := #[.int .i64 z_17, .int .i64 z_27, .int .i64 0, .int .i64 0, .int .i64 0, .int .i64 0]) ?_ 2 _ rfl; refine blk_put (cs := #[.int .i64 z_17, .int .i64 0, .int .i64 0, .int .i64 0, .int .i64 0, .int .i64 0]) ?_ 1 _ rfl; refine blk_put (cs := #[.int .i64 0, .int .i64 0, .int .i64 0, .int .i64 0, .int .i64 0, .int .i64 0]) ?_ 0 _ rfl; exact BK153.out⟩
          have BK148n : Aside0 ((World.heap (World.setCell (World.setCell (World.setCell (World.setCell (World.setCell (World.setCell (World.setCell (World.setCell w10 ⟨gb153, 0, none⟩ (.int .i64 z_17)) ⟨gb153, 1, none⟩ (.int .i64 z_27)) ⟨gb153, 2, none⟩ (.int .i64 z_24)) ⟨gb153, 3, none⟩ (.int .i64 z_25)) ⟨gb153, 4, none⟩ (.int .i64 (Int.tmod z_26 60))) ⟨gb153, 5, none⟩ (.int .i64 (Int.tmod t150 60))) ⟨gb153, 1, none⟩ (.int .i64 z_19)) ⟨gb153, 0, none⟩ (.int .i64 z_18)))[gb148]? = some (.cells #[.int .i64 0, .int .i64 0, .int .i64 0, .int .i64 0, .int .i64 0, .int .i64 0] 59 (0, 0))) := ⟨by refine blk_far ?_ NB148_153.out _; refine blk_far ?_ NB148_153.out _; refine blk_far ?_ NB148_153.out _; refine blk_far ?_ NB148_153.out _; refine blk_far ?_ NB148_153.out _; refine blk_far ?_ NB148_153.out _; refine blk_far ?_ NB148_153.out _; refine blk_far ?_ NB148_153.out _; exact BK148.out⟩
          have HBn : Aside0 (Below w.heap.size w (World.setCell (World.setCell (World.setCell (World.setCell (World.setCell (World.setCell (World.setCell (World.setCell w10 ⟨gb153, 0, none⟩ (.int .i64 z_17)) ⟨gb153, 1, none⟩ (.int .i64 z_27)) ⟨gb153, 2, none⟩ (.int .i64 z_24)) ⟨gb153, 3, none⟩ (.int .i64 z_25)) ⟨gb153, 4, none⟩ (.int .i64 (Int.tmod z_26 60))) ⟨gb153, 5, none⟩ (.int .i64 (Int.tmod t150 60))) ⟨gb153, 1, none⟩ (.int .i64 z_19)) ⟨gb153, 0, none⟩ (.int .i64 z_18))) := ⟨by refine below_set ?_ GE153.out; refine below_set ?_ GE153.out; refine below_set ?_ GE153.out; refine below_set ?_ GE153.out; refine below_set ?_ GE153.out; refine below_set ?_ GE153.out; refine below_set ?_ GE153.out; refine below_set ?_ GE153.out; exact HB.out⟩
          generalize (World.setCell (World.setCell (World.setCell (World.setCell (World.setCell (World.setCell (World.setCell (World.setCell w10 ⟨gb153, 0, none⟩ (.int .i64 z_17)) ⟨gb153, 1, none⟩ (.int .i64 z_27)) ⟨gb153, 2, none⟩ (.int .i64 z_24)) ⟨gb153, 3, none⟩ (.int .i64 z_25)) ⟨gb153, 4, none⟩ (.int .i64 (Int.tmod z_26 60))) ⟨gb153, 5, none⟩ (.int .i64 (Int.tmod t150 60))) ⟨gb153, 1, none⟩ (.int .i64 z_19)) ⟨gb153, 0, none⟩ (.int .i64 z_18)) = wd at BK153n BK148n HBn ⊢
          clear BK153 BK148 HB hcz12_0 hcz12_1 hcz12_2 hcz12_3 hcz12_4 hcz12_5 hcz13_0 hcz13_1 hcz13_2 hcz13_3 hcz13_4 hcz13_5 hfz12_0 hfz12_1 hfz12_2 hfz12_3 hfz12_4 hfz12_5 hfz13_0 hfz13_1 hfz13_2 hfz13_3 hfz13_4 hfz13_5
          have hcy_0 : wd.cell? ⟨gb153, 0, none⟩ = some (.int .i64 z_18) := (blk_cell BK153n.out 0).trans rfl
          have hfy_0 := blk_frozen BK153n.out 0
          have hcx_0 : wd.cell? ⟨gb148, 0, none⟩ = some (.int .i64 0) := (blk_cell BK148n.out 0).trans rfl
          have hfx_0 := blk_frozen BK148n.out 0
          have hcy_1 : wd.cell? ⟨gb153, 1, none⟩ = some (.int .i64 z_19) := (blk_cell BK153n.out 1).trans rfl
          have hfy_1 := blk_frozen BK153n.out 1
          have hcx_1 : wd.cell? ⟨gb148, 1, none⟩ = some (.int .i64 0) := (blk_cell BK148n.out 1).trans rfl
          have hfx_1 := blk_frozen BK148n.out 1
          have hcy_2 : wd.cell? ⟨gb153, 2, none⟩ = some (.int .i64 z_24) := (blk_cell BK153n.out 2).trans rfl
          have hfy_2 := blk_frozen BK153n.out 2
          have hcx_2 : wd.cell? ⟨gb148, 2, none⟩ = some (.int .i64 0) := (blk_cell BK148n.out 2).trans rfl
          have hfx_2 := blk_frozen BK148n.out 2
          have hcy_3 : wd.cell? ⟨gb153, 3, none⟩ = some (.int .i64 z_25) := (blk_cell BK153n.out 3).trans rfl
          have hfy_3 := blk_frozen BK153n.out 3
          have hcx_3 : wd.cell? ⟨gb148, 3, none⟩ = some (.int .i64 0) := (blk_cell BK148n.out 3).trans rfl
          have hfx_3 := blk_frozen BK148n.out 3
          have hcy_4 : wd.cell? ⟨gb153, 4, none⟩ = some (.int .i64 (Int.tmod z_26 60)) := (blk_cell BK153n.out 4).trans rfl
          have hfy_4 := blk_frozen BK153n.out 4
          have hcx_4 : wd.cell? ⟨gb148, 4, none⟩ = some (.int .i64 0) := (blk_cell BK148n.out 4).trans rfl
          have hfx_4 := blk_frozen BK148n.out 4
          have hcy_5 : wd.cell? ⟨gb153, 5, none⟩ = some (.int .i64 (Int.tmod t150 60)) := (blk_cell BK153n.out 5).trans rfl
          have hfy_5 := blk_frozen BK153n.out 5
          have hcx_5 : wd.cell? ⟨gb148, 5, none⟩ = some (.int .i64 0) := (blk_cell BK148n.out 5).trans rfl
          have hfx_5 := blk_frozen BK148n.out 5
          go_wp2
          refine bodyPost_ret (results_cell_row rfl _ _ gb148 59 #[.int .i64 z_18, .int .i64 z_19, .int .i64 z_24, .int .i64 z_25, .int .i64 (Int.tmod z_26 60), .int .i64 (Int.tmod t150 60)] (0, 0) _ rfl (by refine blk_put (cs := #[.int .i64 z_18, .int .i64 z_19, .int .i64 z_24, .int .i64 z_25, .int .i64 (Int.tmod z_26 60), .int .i64 0]) ?_ 5 _ rfl; refine blk_put (cs := #[.int .i64 z_18, .int .i64 z_19, .int .i64 z_24, .int .i64 z_25, .int .i64 0, .int .i64 0]) ?_ 4 _ rfl; refine blk_put (cs := #[.int .i64 z_18, .int .i64 z_19, .int .i64 z_24, .int .i64 0, .int .i64 0, .int .i64 0]) ?_ 3 _ rfl; refine blk_put (cs := #[.int .i64 z_18, .int .i64 z_19, .int .i64 0, .int .i64 0, .int .i64 0, .int .i64 0]) ?_ 2 _ rfl; refine blk_put (cs := #[.int .i64 z_18, .int .i64 0, .int .i64 0, .int .i64 0, .int .i64 0, .int .i64 0]) ?_ 1 _ rfl; refine blk_put (cs := #[.int .i64 0, .int .i64 0, .int .i64 0, .int .i64 0, .int .i64 0, .int .i64 0]) ?_ 0 _ rfl; exact BK148n.out) Tryd.underlying59 rfl (by kernel_rfl)) rfl ?_
          exact ⟨rfl, by refine below_set ?_ GE148.out; refine below_set ?_ GE148.out; refine below_set ?_ GE148.out; refine below_set ?_ GE148.out; refine below_set ?_ GE148.out; refine below_set ?_ GE148.out; exact HBn.out⟩
        · rw [if_neg c9] at H
          have c9b0 : decide (10 ≤ z_15) = false := decide_eq_false c9
          clear c9
          simp only [Option.some.injEq, Prod.mk.injEq] at H
          obtain ⟨rfl, rfl, rfl, rfl, rfl, rfl⟩ := H
          go_upto_region 11 with (first | ((with_reducible refine gate_callee (f := 81) rfl ?_); refine goesL_ (some 20) rfl rfl Tryd.func81 (by kernel_rfl) rfl #[.int .i64 a0, .int .i64 86400] rfl (by (try simp only [List.map_toArray, List.map_cons, List.map_nil]); first | done | rfl | (simp only [List.length_drop, List.length_take]; rfl)) ?_; (with_reducible refine (clock_down.calls a0 86400 t149 t150 _ A7.out).mono ?_); rintro e w' ⟨rfl, ⟨nd, rfl⟩⟩; refine ⟨_, rfl, ?_⟩; (try (rw [drewN_self wc]; generalize hq_ : World.drewN wc _ = wc; have n0_ : Aside0 (wc.heap[gb148]? = some (.cells #[.int .i64 0, .int .i64 0, .int .i64 0, .int .i64 0, .int .i64 0, .int .i64 0] 59 (0, 0))) := ⟨by rw [← hq_]; exact (by (with_reducible repeat (first | refine blk_drewN ?_ _ | refine blk_drew ?_ | refine blk_alloc ?_ _)); exact BK148.out)⟩; have n1_ : Aside0 (Below w.heap.size w wc) := ⟨by rw [← hq_]; exact (by repeat (first | (with_reducible first | exact HB.out | apply below_alloc | apply pw_below_drewN | apply below_drew1 | refine below_set ?_ GE148.out) | exact HB.out))⟩; clear BK148 HB hq_; have BK148 := n0_; have HB := n1_; clear n0_ n1_))) | ((with_reducible refine gate_callee (f := 81) rfl ?_); refine goesL_ (some 26) rfl rfl Tryd.func81 (by kernel_rfl) rfl #[.int .i64 (wrap64 (t149 + 719468)), .int .i64 146097] rfl (by (try simp only [List.map_toArray, List.map_cons, List.map_nil]); first | done | rfl | (simp only [List.length_drop, List.length_take]; rfl)) ?_; (with_reducible refine (clock_down.calls (wrap64 (t149 + 719468)) 146097 t151 t152 _ A8.out).mono ?_); rintro e w' ⟨rfl, ⟨nd, rfl⟩⟩; refine ⟨_, rfl, ?_⟩; (try (rw [drewN_self wc]; generalize hq_ : World.drewN wc _ = wc; have n0_ : Aside0 (wc.heap[gb148]? = some (.cells #[.int .i64 0, .int .i64 0, .int .i64 0, .int .i64 0, .int .i64 0, .int .i64 0] 59 (0, 0))) := ⟨by rw [← hq_]; exact (by (with_reducible repeat (first | refine blk_drewN ?_ _ | refine blk_drew ?_ | refine blk_alloc ?_ _)); exact BK148.out)⟩; have n1_ : Aside0 (Below w.heap.size w wc) := ⟨by rw [← hq_]; exact (by repeat (first | (with_reducible first | exact HB.out | apply below_alloc | apply pw_below_drewN | apply below_drew1 | refine below_set ?_ GE148.out) | exact HB.out))⟩; clear BK148 HB hq_; have BK148 := n0_; have HB := n1_; clear n0_ n1_))) | ((with_reducible refine gate_dst (N := 10) rfl ?_); refine box_event ?hg (N := 10) ?hd (cs := #[.int .i64 0, .int .i64 0, .int .i64 0, .int .i64 0, .int .i64 0, .int .i64 0]) (t := 59) ?hr ?_; (case hd => rfl); (case hg => rfl); (case hr => first | (go_simp; done) | (go_simp; rfl)); intro gb153 hg w14 hbox hb; have n0_ := Aside0.mk (blk_below (g := gb148) (o := .cells #[.int .i64 0, .int .i64 0, .int .i64 0, .int .i64 0, .int .i64 0, .int .i64 0] 59 (0, 0)) (by (with_reducible repeat (first | refine blk_drewN ?_ _ | refine blk_drew ?_ | refine blk_alloc ?_ _)); exact BK148.out) hb); have n1_ := Aside0.mk (below_step (by repeat (first | (with_reducible first | exact HB.out | apply below_alloc | apply pw_below_drewN | apply below_drew1 | refine below_set ?_ GE148.out) | exact HB.out)) hb); have n2_ := Aside0.mk (hbox); have n3_ := Aside0.mk ((by rw [hg]; exact (below_size (by repeat (first | (with_reducible first | exact HB.out | apply below_alloc | apply pw_below_drewN | apply below_drew1 | refine below_set ?_ GE148.out) | exact HB.out))) : w.heap.size ≤ gb153)); have n4_ := Aside0.mk ((by rw [hg]; exact (below_size (by repeat (first | (with_reducible first | exact HB.out | apply below_alloc | apply pw_below_drewN | apply below_drew1 | refine below_set ?_ GE148.out) | exact HB.out))) : w.heap.size ≤ gb153)); have n5_ := Aside0.mk ((by rw [hg]; exact Nat.ne_of_lt (blk_lt (g := gb148) (o := .cells #[.int .i64 0, .int .i64 0, .int .i64 0, .int .i64 0, .int .i64 0, .int .i64 0] 59 (0, 0)) (by (with_reducible repeat (first | refine blk_drewN ?_ _ | refine blk_drew ?_ | refine blk_alloc ?_ _)); exact BK148.out)) : gb148 ≠ gb153)); have n6_ := Aside0.mk ((by rw [hg]; exact Nat.ne_of_gt (blk_lt (g := gb148) (o := .cells #[.int .i64 0, .int .i64 0, .int .i64 0, .int .i64 0, .int .i64 0, .int .i64 0] 59 (0, 0)) (by (with_reducible repeat (first | refine blk_drewN ?_ _ | refine blk_drew ?_ | refine blk_alloc ?_ _)); exact BK148.out)) : gb153 ≠ gb148)); clear BK148; clear HB; have BK148 := n0_; have HB := n1_; have BK153 := n2_; have GW153 := n3_; have GE153 := n4_; have NB148_153 := n5_; have NB153_148 := n6_; clear n0_ n1_ n2_ n3_ n4_ n5_ n6_; clear hb hbox hg; have hnb15 := NB153_148.out; have hnc15 := NB148_153.out; have hcz16_0 : w14.cell? ⟨gb153, 0, none⟩ = some (.int .i64 0) := (blk_cell BK153.out 0).trans rfl; have hcz16_1 : w14.cell? ⟨gb153, 1, none⟩ = some (.int .i64 0) := (blk_cell BK153.out 1).trans rfl; have hcz16_2 : w14.cell? ⟨gb153, 2, none⟩ = some (.int .i64 0) := (blk_cell BK153.out 2).trans rfl; have hcz16_3 : w14.cell? ⟨gb153, 3, none⟩ = some (.int .i64 0) := (blk_cell BK153.out 3).trans rfl; have hcz16_4 : w14.cell? ⟨gb153, 4, none⟩ = some (.int .i64 0) := (blk_cell BK153.out 4).trans rfl; have hcz16_5 : w14.cell? ⟨gb153, 5, none⟩ = some (.int .i64 0) := (blk_cell BK153.out 5).trans rfl; have hfz16_0 := blk_frozen BK153.out 0; have hfz16_1 := blk_frozen BK153.out 1; have hfz16_2 := blk_frozen BK153.out 2; have hfz16_3 := blk_frozen BK153.out 3; have hfz16_4 := blk_frozen BK153.out 4; have hfz16_5 := blk_frozen BK153.out 5; have hcz17_0 : w14.cell? ⟨gb148, 0, none⟩ = some (.int .i64 0) := (blk_cell BK148.out 0).trans rfl; have hcz17_1 : w14.cell? ⟨gb148, 1, none⟩ = some (.int .i64 0) := (blk_cell BK148.out 1).trans rfl; have hcz17_2 : w14.cell? ⟨gb148, 2, none⟩ = some (.int .i64 0) := (blk_cell BK148.out 2).trans rfl; have hcz17_3 : w14.cell? ⟨gb148, 3, none⟩ = some (.int .i64 0) := (blk_cell BK148.out 3).trans rfl; have hcz17_4 : w14.cell? ⟨gb148, 4, none⟩ = some (.int .i64 0) := (blk_cell BK148.out 4).trans rfl; have hcz17_5 : w14.cell? ⟨gb148, 5, none⟩ = some (.int .i64 0) := (blk_cell BK148.out 5).trans rfl; have hfz17_0 := blk_frozen BK148.out 0; have hfz17_1 := blk_frozen BK148.out 1; have hfz17_2 := blk_frozen BK148.out 2; have hfz17_3 := blk_frozen BK148.out 3; have hfz17_4 := blk_frozen BK148.out 4; have hfz17_5 := blk_frozen BK148.out 5))
          have BK153n : Aside0 ((World.heap (World.setCell (World.setCell (World.setCell (World.setCell (World.setCell (World.setCell w14 ⟨gb153, 0, none⟩ (.int .i64 z_17)) ⟨gb153, 1, none⟩ (.int .i64 z_27)) ⟨gb153, 2, none⟩ (.int .i64 z_24)) ⟨gb153, 3, none⟩ (.int .i64 z_25)) ⟨gb153, 4, none⟩ (.int .i64 (Int.tmod z_26 60))) ⟨gb153, 5, none⟩ (.int .i64 (Int.tmod t150 60))))[gb153]? = some (.cells #[.int .i64 z_17, .int .i64 z_27, .int .i64 z_24, .int .i64 z_25, .int .i64 (Int.tmod z_26 60), .int .i64 (Int.tmod t150 60)] 59 (0, 0))) := ⟨by refine blk_put (cs := #[.int .i64 z_17, .int .i64 z_27, .int .i64 z_24, .int .i64 z_25, .int .i64 (Int.tmod z_26 60), .int .i64 0]) ?_ 5 _ rfl; refine blk_put (cs := #[.int .i64 z_17, .int .i64 z_27, .int .i64 z_24, .int .i64 z_25, .int .i64 0, .int .i64 0]) ?_ 4 _ rfl; refine blk_put (cs := #[.int .i64 z_17, .int .i64 z_27, .int .i64 z_24, .int .i64 0, .int .i64 0, .int .i64 0]) ?_ 3 _ rfl; refine blk_put (cs := #[.int .i64 z_17, .int .i64 z_27, .int .i64 0, .int .i64 0, .int .i64 0, .int .i64 0]) ?_ 2 _ rfl; refine blk_put (cs := #[.int .i64 z_17, .int .i64 0, .int .i64 0, .int .i64 0, .int .i64 0, .int .i64 0]) ?_ 1 _ rfl; refine blk_put (cs := #[.int .i64 0, .int .i64 0, .int .i64 0, .int .i64 0, .int .i64 0, .int .i64 0]) ?_ 0 _ rfl; exact BK153.out⟩
          have BK148n : Aside0 ((World.heap (World.setCell (World.setCell (World.setCell (World.setCell (World.setCell (World.setCell w14 ⟨gb153, 0, none⟩ (.int .i64 z_17)) ⟨gb153, 1, none⟩ (.int .i64 z_27)) ⟨gb153, 2, none⟩ (.int .i64 z_24)) ⟨gb153, 3, none⟩ (.int .i64 z_25)) ⟨gb153, 4, none⟩ (.int .i64 (Int.tmod z_26 60))) ⟨gb153, 5, none⟩ (.int .i64 (Int.tmod t150 60))))[gb148]? = some (.cells #[.int .i64 0, .int .i64 0, .int .i64 0, .int .i64 0, .int .i64 0, .int .i64 0] 59 (0, 0))) := ⟨by refine blk_far ?_ NB148_153.out _; refine blk_far ?_ NB148_153.out _; refine blk_far ?_ NB148_153.out _; refine blk_far ?_ NB148_153.out _; refine blk_far ?_ NB148_153.out _; refine blk_far ?_ NB148_153.out _; exact BK148.out⟩
          have HBn : Aside0 (Below w.heap.size w (World.setCell (World.setCell (World.setCell (World.setCell (World.setCell (World.setCell w14 ⟨gb153, 0, none⟩ (.int .i64 z_17)) ⟨gb153, 1, none⟩ (.int .i64 z_27)) ⟨gb153, 2, none⟩ (.int .i64 z_24)) ⟨gb153, 3, none⟩ (.int .i64 z_25)) ⟨gb153, 4, none⟩ (.int .i64 (Int.tmod z_26 60))) ⟨gb153, 5, none⟩ (.int .i64 (Int.tmod t150 60)))) := ⟨by refine below_set ?_ GE153.out; refine below_set ?_ GE153.out; refine below_set ?_ GE153.out; refine below_set ?_ GE153.out; refine below_set ?_ GE153.out; refine below_set ?_ GE153.out; exact HB.out⟩
          generalize (World.setCell (World.setCell (World.setCell (World.setCell (World.setCell (World.setCell w14 ⟨gb153, 0, none⟩ (.int .i64 z_17)) ⟨gb153, 1, none⟩ (.int .i64 z_27)) ⟨gb153, 2, none⟩ (.int .i64 z_24)) ⟨gb153, 3, none⟩ (.int .i64 z_25)) ⟨gb153, 4, none⟩ (.int .i64 (Int.tmod z_26 60))) ⟨gb153, 5, none⟩ (.int .i64 (Int.tmod t150 60))) = wd at BK153n BK148n HBn ⊢
          clear BK153 BK148 HB hcz16_0 hcz16_1 hcz16_2 hcz16_3 hcz16_4 hcz16_5 hcz17_0 hcz17_1 hcz17_2 hcz17_3 hcz17_4 hcz17_5 hfz16_0 hfz16_1 hfz16_2 hfz16_3 hfz16_4 hfz16_5 hfz17_0 hfz17_1 hfz17_2 hfz17_3 hfz17_4 hfz17_5
          have hcy_0 : wd.cell? ⟨gb153, 0, none⟩ = some (.int .i64 z_17) := (blk_cell BK153n.out 0).trans rfl
          have hfy_0 := blk_frozen BK153n.out 0
          have hcx_0 : wd.cell? ⟨gb148, 0, none⟩ = some (.int .i64 0) := (blk_cell BK148n.out 0).trans rfl
          have hfx_0 := blk_frozen BK148n.out 0
          have hcy_1 : wd.cell? ⟨gb153, 1, none⟩ = some (.int .i64 z_27) := (blk_cell BK153n.out 1).trans rfl
          have hfy_1 := blk_frozen BK153n.out 1
          have hcx_1 : wd.cell? ⟨gb148, 1, none⟩ = some (.int .i64 0) := (blk_cell BK148n.out 1).trans rfl
          have hfx_1 := blk_frozen BK148n.out 1
          have hcy_2 : wd.cell? ⟨gb153, 2, none⟩ = some (.int .i64 z_24) := (blk_cell BK153n.out 2).trans rfl
          have hfy_2 := blk_frozen BK153n.out 2
          have hcx_2 : wd.cell? ⟨gb148, 2, none⟩ = some (.int .i64 0) := (blk_cell BK148n.out 2).trans rfl
          have hfx_2 := blk_frozen BK148n.out 2
          have hcy_3 : wd.cell? ⟨gb153, 3, none⟩ = some (.int .i64 z_25) := (blk_cell BK153n.out 3).trans rfl
          have hfy_3 := blk_frozen BK153n.out 3
          have hcx_3 : wd.cell? ⟨gb148, 3, none⟩ = some (.int .i64 0) := (blk_cell BK148n.out 3).trans rfl
          have hfx_3 := blk_frozen BK148n.out 3
          have hcy_4 : wd.cell? ⟨gb153, 4, none⟩ = some (.int .i64 (Int.tmod z_26 60)) := (blk_cell BK153n.out 4).trans rfl
          have hfy_4 := blk_frozen BK153n.out 4
          have hcx_4 : wd.cell? ⟨gb148, 4, none⟩ = some (.int .i64 0) := (blk_cell BK148n.out 4).trans rfl
          have hfx_4 := blk_frozen BK148n.out 4
          have hcy_5 : wd.cell? ⟨gb153, 5, none⟩ = some (.int .i64 (Int.tmod t150 60)) := (blk_cell BK153n.out 5).trans rfl
          have hfy_5 := blk_frozen BK153n.out 5
          have hcx_5 : wd.cell? ⟨gb148, 5, none⟩ = some (.int .i64 0) := (blk_cell BK148n.out 5).trans rfl
          have hfx_5 := blk_frozen BK148n.out 5
          go_wp2
          refine bodyPost_ret (results_cell_row rfl _ _ gb148 59 #[.int .i64 z_17, .int .i64 z_27, .int .i64 z_24, .int .i64 z_25, .int .i64 (Int.tmod z_26 60), .int .i64 (Int.tmod t150 60)] (0, 0) _ rfl (by refine blk_put (cs := #[.int .i64 z_17, .int .i64 z_27, .int .i64 z_24, .int .i64 z_25, .int .i64 (Int.tmod z_26 60), .int .i64 0]) ?_ 5 _ rfl; refine blk_put (cs := #[.int .i64 z_17, .int .i64 z_27, .int .i64 z_24, .int .i64 z_25, .int .i64 0, .int .i64 0]) ?_ 4 _ rfl; refine blk_put (cs := #[.int .i64 z_17, .int .i64 z_27, .int .i64 z_24, .int .i64 0, .int .i64 0, .int .i64 0]) ?_ 3 _ rfl; refine blk_put (cs := #[.int .i64 z_17, .int .i64 z_27, .int .i64 0, .int .i64 0, .int .i64 0, .int .i64 0]) ?_ 2 _ rfl; refine blk_put (cs := #[.int .i64 z_17, .int .i64 0, .int .i64 0, .int .i64 0, .int .i64 0, .int .i64 0]) ?_ 1 _ rfl; refine blk_put (cs := #[.int .i64 0, .int .i64 0, .int .i64 0, .int .i64 0, .int .i64 0, .int .i64 0]) ?_ 0 _ rfl; exact BK148n.out) Tryd.underlying59 rfl (by kernel_rfl)) rfl ?_
          exact ⟨rfl, by refine below_set ?_ GE148.out; refine below_set ?_ GE148.out; refine below_set ?_ GE148.out; refine below_set ?_ GE148.out; refine below_set ?_ GE148.out; refine below_set ?_ GE148.out; exact HBn.out⟩
end Go.Proofs.YtfmfikodnpnblaaDoor.ClkDate

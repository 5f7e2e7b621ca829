-- Written by this repo's gprint.py over the kit's printer, out of the translation. Not trusted: Lean checks it.
import Derived.Test.YtfnicahlnpngkaaDoorPPaxPutsx0
import Derived.Test.YtfnicahlnpngkaaDoorPPaxPutsx3
import Derived.Test.YtfnicahlnpngkaaDoorDoorPutOfPaxPuts
import Derived.Test.YtfnicahlnpngkaaDoorPaxMergeOfPaxPuts
namespace Go.Proofs.YtfnicahlnpngkaaDoor.PPaxPuts
open Go.RowKit Go.Proofs.YtfnicahlnpngkaaDoorW.PrintWords Go.Proofs.YtfnicahlnpngkaaDoorW.PrintLast Go.Proofs.YtfnicahlnpngkaaDoorW.PrintMore
attribute [local go_sem] max2_int min2_int max_two min_two max_three min_three max_four min_four   -- for this text's walks alone
open Go.Proofs.YtfnicahlnpngkaaDoor.DoorCut Go.Proofs.YtfnicahlnpngkaaDoor.DoorLen Go.Proofs.YtfnicahlnpngkaaDoor.DoorPutOfPaxPuts Go.Proofs.YtfnicahlnpngkaaDoor.PaxMergeOfPaxPuts
set_option linter.unusedVariables false
set_option linter.unusedSimpArgs false

/-! ### stevedoreref23_PutRecords: function 10 -/
mutual
def stevedoreref23_PutRecords.l0 : Nat → List (S39) → ByteArray → Int → Option (ByteArray × Int)
  | 0, _, _, _ => none
  | k + 1, x0, x4, x5 => if x5 < (x0.length : Int) then (if 0 ≤ x5 then (if ((rd_T39 x0 x5).f0).toList = ([] : List UInt8) then (stevedoreref23_PutRecords.j1 k x0 x4 x5 true ((rd_T39 x0 x5).f0) ((rd_T39 x0 x5).f1)) else (if (((rd_T39 x0 x5).f0).size : Int) > 1048576 then (stevedoreref23_PutRecords.j1 k x0 x4 x5 true ((rd_T39 x0 x5).f0) ((rd_T39 x0 x5).f1)) else (stevedoreref23_PutRecords.j1 k x0 x4 x5 (decide ((((rd_T39 x0 x5).f1).size : Int) > 1048576)) ((rd_T39 x0 x5).f0) ((rd_T39 x0 x5).f1)))) else (none)) else (some (x4, 0))
def stevedoreref23_PutRecords.j1 : Nat → List (S39) → ByteArray → Int → Bool → ByteArray → ByteArray → Option (ByteArray × Int)
  | 0, _, _, _, _, _, _ => none
  | k + 1, x0, x4, x5, x35, x139000, x139001 => if x35 = true then (some ((⟨#[]⟩ : ByteArray), 1)) else (stevedoreref23_PutRecords.l1 k x0 x4 x5 0 x139000 x139001)
def stevedoreref23_PutRecords.l1 : Nat → List (S39) → ByteArray → Int → Int → ByteArray → ByteArray → Option (ByteArray × Int)
  | 0, _, _, _, _, _, _ => none
  | k + 1, x0, x4, x5, x7, x139000, x139001 => if x7 < (x139000.size : Int) then (if 0 ≤ x7 then (if (bt x139000 x7) = 61 then (some ((⟨#[]⟩ : ByteArray), 1)) else (if (bt x139000 x7) = 10 then (some ((⟨#[]⟩ : ByteArray), 1)) else (if (bt x139000 x7) = 0 then (some ((⟨#[]⟩ : ByteArray), 1)) else (stevedoreref23_PutRecords.l1 k x0 x4 x5 (wrap64 (x7 + 1)) x139000 x139001)))) else (none)) else ((stevedoreref23_Len.f k x139000 x139001).bind fun t139 => ((strconv_Itoa.f t139).bind fun t140 => (if x4.size + t140.size ≤ 9223372036854775807 then (if (x4 ++ t140).size + 1 ≤ 9223372036854775807 then (if ((x4 ++ t140) ++ (⟨#[32]⟩ : ByteArray)).size + x139000.size ≤ 9223372036854775807 then (if (((x4 ++ t140) ++ (⟨#[32]⟩ : ByteArray)) ++ x139000).size + 1 ≤ 9223372036854775807 then (if ((((x4 ++ t140) ++ (⟨#[32]⟩ : ByteArray)) ++ x139000) ++ (⟨#[61]⟩ : ByteArray)).size + x139001.size ≤ 9223372036854775807 then (if (((((x4 ++ t140) ++ (⟨#[32]⟩ : ByteArray)) ++ x139000) ++ (⟨#[61]⟩ : ByteArray)) ++ x139001).size + 1 ≤ 9223372036854775807 then (if (((((((x4 ++ t140) ++ (⟨#[32]⟩ : ByteArray)) ++ x139000) ++ (⟨#[61]⟩ : ByteArray)) ++ x139001) ++ (⟨#[10]⟩ : ByteArray)).size : Int) > 1048576 then (some ((⟨#[]⟩ : ByteArray), 1)) else (stevedoreref23_PutRecords.l0 k x0 ((((((x4 ++ t140) ++ (⟨#[32]⟩ : ByteArray)) ++ x139000) ++ (⟨#[61]⟩ : ByteArray)) ++ x139001) ++ (⟨#[10]⟩ : ByteArray)) (wrap64 (x5 + 1)))) else (none)) else (none)) else (none)) else (none)) else (none)) else (none))))
end
def stevedoreref23_PutRecords.f (k : Nat) (l0 : List (S39)) : Option (ByteArray × Int) := if (l0.length : Int) > 1000 then (some ((⟨#[]⟩ : ByteArray), 1)) else (stevedoreref23_PutRecords.l0 k l0 (⟨#[]⟩ : ByteArray) 0)
theorem stevedoreref23_PutRecords.mono_l : ∀ k, (∀ y0 y1 y2, LeO (stevedoreref23_PutRecords.l0 k y0 y1 y2) (stevedoreref23_PutRecords.l0 (k + 1) y0 y1 y2)) ∧ (∀ y0 y1 y2 y3 y4 y5, LeO (stevedoreref23_PutRecords.j1 k y0 y1 y2 y3 y4 y5) (stevedoreref23_PutRecords.j1 (k + 1) y0 y1 y2 y3 y4 y5)) ∧ (∀ y0 y1 y2 y3 y4 y5, LeO (stevedoreref23_PutRecords.l1 k y0 y1 y2 y3 y4 y5) (stevedoreref23_PutRecords.l1 (k + 1) y0 y1 y2 y3 y4 y5))
  | 0 => ⟨fun _ _ _ r h => by simp [stevedoreref23_PutRecords.l0] at h, fun _ _ _ _ _ _ r h => by simp [stevedoreref23_PutRecords.j1] at h, fun _ _ _ _ _ _ r h => by simp [stevedoreref23_PutRecords.l1] at h⟩
  | k + 1 => by
    obtain ⟨ih0, ih1, ih2⟩ := stevedoreref23_PutRecords.mono_l k
    refine ⟨?_, ?_, ?_⟩
    · intro y0 y1 y2
      unfold stevedoreref23_PutRecords.l0
      repeat' first
      | (with_reducible exact ih0 _ _ _)
      | (with_reducible exact ih1 _ _ _ _ _ _)
      | (with_reducible exact ih2 _ _ _ _ _ _)
      | (with_reducible exact stevedoreref23_Len.mono _ _ _)
      | (with_reducible exact LeO.refl _)
      | (with_reducible exact LeO.none _)
      | (with_reducible refine LeO.ite ?_ ?_)
      | (with_reducible refine LeO.bind ?_ (fun _ => ?_))
      | exact ih0 _ _ _
      | exact ih1 _ _ _ _ _ _
      | exact ih2 _ _ _ _ _ _
      | exact stevedoreref23_Len.mono _ _ _
      | exact LeO.none _
      | refine LeO.ite ?_ ?_
      | refine LeO.bind ?_ (fun _ => ?_)
    · intro y0 y1 y2 y3 y4 y5
      unfold stevedoreref23_PutRecords.j1
      repeat' first
      | (with_reducible exact ih0 _ _ _)
      | (with_reducible exact ih1 _ _ _ _ _ _)
      | (with_reducible exact ih2 _ _ _ _ _ _)
      | (with_reducible exact stevedoreref23_Len.mono _ _ _)
      | (with_reducible exact LeO.refl _)
      | (with_reducible exact LeO.none _)
      | (with_reducible refine LeO.ite ?_ ?_)
      | (with_reducible refine LeO.bind ?_ (fun _ => ?_))
      | exact ih0 _ _ _
      | exact ih1 _ _ _ _ _ _
      | exact ih2 _ _ _ _ _ _
      | exact stevedoreref23_Len.mono _ _ _
      | exact LeO.none _
      | refine LeO.ite ?_ ?_
      | refine LeO.bind ?_ (fun _ => ?_)
    · intro y0 y1 y2 y3 y4 y5
      unfold stevedoreref23_PutRecords.l1
      repeat' first
      | (with_reducible exact ih0 _ _ _)
      | (with_reducible exact ih1 _ _ _ _ _ _)
      | (with_reducible exact ih2 _ _ _ _ _ _)
      | (with_reducible exact stevedoreref23_Len.mono _ _ _)
      | (with_reducible exact LeO.refl _)
      | (with_reducible exact LeO.none _)
      | (with_reducible refine LeO.ite ?_ ?_)
      | (with_reducible refine LeO.bind ?_ (fun _ => ?_))
      | exact ih0 _ _ _
      | exact ih1 _ _ _ _ _ _
      | exact ih2 _ _ _ _ _ _
      | exact stevedoreref23_Len.mono _ _ _
      | exact LeO.none _
      | refine LeO.ite ?_ ?_
      | refine LeO.bind ?_ (fun _ => ?_)
theorem stevedoreref23_PutRecords.mono : ∀ a0 k, LeO (stevedoreref23_PutRecords.f k a0) (stevedoreref23_PutRecords.f (k + 1) a0) := by
  intro a0 k
  obtain ⟨ih0, ih1, ih2⟩ := stevedoreref23_PutRecords.mono_l k
  unfold stevedoreref23_PutRecords.f
  repeat' first
      | (with_reducible exact ih0 _ _ _)
      | (with_reducible exact ih1 _ _ _ _ _ _)
      | (with_reducible exact ih2 _ _ _ _ _ _)
      | (with_reducible exact stevedoreref23_Len.mono _ _ _)
      | (with_reducible exact LeO.refl _)
      | (with_reducible exact LeO.none _)
      | (with_reducible refine LeO.ite ?_ ?_)
      | (with_reducible refine LeO.bind ?_ (fun _ => ?_))
      | exact ih0 _ _ _
      | exact ih1 _ _ _ _ _ _
      | exact ih2 _ _ _ _ _ _
      | exact stevedoreref23_Len.mono _ _ _
      | exact LeO.none _
      | refine LeO.ite ?_ ?_
      | refine LeO.bind ?_ (fun _ => ?_)
def stevedoreref23_PutRecords.T15 : Bool × List (List Nat × List Nat) := (true, [([], []), ([], []), ([1], [1]), ([2, 2], [2]), ([0, 3], [0, 3]), ([4], [4]), ([], []), ([6], [6]), ([5, 7], [5, 7]), ([8], [8]), ([], []), ([10], [10]), ([9, 11], [9, 11]), ([12], [12]), ([13, 3, 0, 1, 2, 3, 4, 5, 6, 7, 8, 9, 10, 11, 12, 13], [0, 13])])
def stevedoreref23_PutRecords.B15 : List Nat := [0, 0, 2, 6, 15, 31, 0, 64, 255, 511, 0, 1024, 4095, 8191, 16383]
theorem stevedoreref23_PutRecords.tab15 : rtab .any (opsOf Tryd.f10 15) = stevedoreref23_PutRecords.T15 := by kernel_rfl
theorem stevedoreref23_PutRecords.bits15 : waitsOk stevedoreref23_PutRecords.T15.2 stevedoreref23_PutRecords.B15 = true := by kernel_rfl
set_option maxHeartbeats 8000000 in
set_option maxRecDepth 100000 in
theorem stevedoreref23_PutRecords.calls (k : Nat) (A0 : Option Addr) (c0 : Nat) (l0 : List (S39)) (r1 : ByteArray) (r2 : Int) (w : World) (hr0 : Kd.C k39 w A0 l0.length l0) (hc0 : l0.length ≤ c0) (h : stevedoreref23_PutRecords.f k l0 = some (r1, r2)) (hv : Go.Proofs.YtfnicahlnpngkaaDoor.DoorCut.Vars w) :
    Calls Tryd.prog 10 #[.slice A0 l0.length c0] w fun e w' => e = .returned (.tuple #[.string r1, .int .i64 r2]) ∧ Below w.heap.size w w' := by
  have HVARS := Aside0.mk hv
  have hu39 := Tryd.underlying39
  have HR0 := Aside0.mk hr0
  have HC0 := Aside0.mk hc0
  clear hr0 hc0
  have HB := Aside0.mk (Below.refl w.heap.size w)
  have H : (if (l0.length : Int) > 1000 then (some ((⟨#[]⟩ : ByteArray), 1)) else (stevedoreref23_PutRecords.l0 k l0 (⟨#[]⟩ : ByteArray) 0)) = some (r1, r2) := h
  clear h
  by_cases c2 : (l0.length : Int) > 1000
  · rw [if_pos c2] at H
    have c2b0 : decide (1000 < (l0.length : Int)) = true := decide_eq_true c2
    have c2b1 : decide (1000 < l0.length) = true := decide_eq_true (by omega)
    clear c2
    simp only [Option.some.injEq, Prod.mk.injEq] at H
    obtain ⟨rfl, rfl⟩ := H
    go_enter Tryd.func10, Tryd.ntmps10
    go_wp2
    go_ret2
    exact ⟨by first | rfl | (simp only [show ∀ l : List UInt8, (l != []) = (!l.isEmpty) from fun l => by cases l <;> rfl]; rfl) | (simp [errW_none, errW_some] <;> rfl) | (simp [*, errW_none, errW_some] <;> rfl), by repeat (first | (with_reducible first | exact HB.out | apply below_alloc | apply pw_below_drewN | apply below_drew1) | exact HB.out)⟩
  · rw [if_neg c2] at H
    have c2b0 : decide (1000 < (l0.length : Int)) = false := decide_eq_false c2
    have c2b1 : decide (1000 < l0.length) = false := decide_eq_false (by omega)
    clear c2
    have H' := Aside0.mk H
    clear H
    go_enter Tryd.func10, Tryd.ntmps10
    go_wp2
    go_loopg [4, 5] k (fun kq v4 v5 w' => ∃ (x4_1 : ByteArray) (x5_1 : Int), v4 = .string x4_1 ∧ v5 = .int .i64 x5_1 ∧ Aside0 (stevedoreref23_PutRecords.l0 kq l0 x4_1 x5_1 = some (r1, r2)) ∧ Aside0 (kq ≤ k) ∧ Aside0 (Below w.heap.size w w'))
    case atStart => exact ⟨((⟨#[]⟩ : ByteArray)), (0), (by first | rfl | (simp; done) | (simp [*]; done)), (by first | rfl | (simp; done) | (simp [*]; done)), H', ⟨Nat.le_refl _⟩, ⟨by repeat (first | (with_reducible first | exact HB.out | apply below_alloc | apply pw_below_drewN | apply below_drew1) | exact HB.out)⟩⟩
    case round =>
      clear H'
      try clear c1
      try clear c2
      try clear c2b0
      try clear c2b1
      try clear p2
      obtain ⟨x4_1, x5_1, rfl, rfl, HA, HK1, HB⟩ := hrel
      cases gk with
      | zero => exact absurd HA.out (by simp [stevedoreref23_PutRecords.l0])
      | succ k1 =>
        have H := HA.out
        clear HA
        simp only [stevedoreref23_PutRecords.l0] at H
        by_cases c3 : x5_1 < (l0.length : Int)
        · rw [if_pos c3] at H
          have c3b0 : decide (x5_1 < (l0.length : Int)) = true := decide_eq_true c3
          clear c3
          by_cases c4 : 0 ≤ x5_1
          · rw [if_pos c4] at H
            have c4b0 : decide (0 ≤ x5_1) = true := decide_eq_true c4
            clear c4
            have HC5 := Aside0.mk H
            clear H
            have p137 : 0 ≤ (x5_1 : Int) := of_decide_eq_true (by first | (with_reducible assumption) | assumption)
            have q137 : x5_1 < (l0.length : Int) := of_decide_eq_true (by first | (with_reducible assumption) | assumption)
            obtain ⟨ad137, e137, hx137_0, hx137_1⟩ := at_T39 HR0.out x5_1 p137 q137
            cases e137
            replace hx137_0 := (HB.out.cell (World.block_lt_of_cell? w _ hx137_0)).trans hx137_0
            replace hx137_1 := (HB.out.cell (World.block_lt_of_cell? w _ hx137_1)).trans hx137_1
            replace p137 := eq_true p137
            replace q137 := eq_true q137
            go_upto_region 8 with (first | ((with_reducible refine gate_dst (N := 6) rfl ?_); (try (refine gate_guard (by rfl) ?_; dsimp only)); refine box_event ?hg (N := 6) ?hd (cs := #[.string (⟨#[]⟩ : ByteArray), .string (⟨#[]⟩ : ByteArray)]) (t := 39) ?hr ?_; (case hd => rfl); (case hg => rfl); (case hr => first | (go_simp; done) | (go_simp; rfl)); intro gb138 hg w6 hbox hb; have n0_ := Aside0.mk (below_step (by repeat (first | (with_reducible first | exact HB.out | apply below_alloc | apply pw_below_drewN | apply below_drew1) | exact HB.out)) hb); have n1_ := Aside0.mk (hbox); have n2_ := Aside0.mk ((by rw [hg]; exact (below_size (by repeat (first | (with_reducible first | exact HB.out | apply below_alloc | apply pw_below_drewN | apply below_drew1) | exact HB.out))) : w.heap.size ≤ gb138)); have n3_ := Aside0.mk ((by rw [hg]; exact (below_size (by repeat (first | (with_reducible first | exact HB.out | apply below_alloc | apply pw_below_drewN | apply below_drew1) | exact HB.out))) : w.heap.size ≤ gb138)); clear HB; have HB := n0_; have BK138 := n1_; have GW138 := n2_; have GE138 := n3_; clear n0_ n1_ n2_ n3_; clear hb hbox hg; have hcz7_0 : w6.cell? ⟨gb138, 0, none⟩ = some (.string (⟨#[]⟩ : ByteArray)) := (blk_cell BK138.out 0).trans rfl; have hcz7_1 : w6.cell? ⟨gb138, 1, none⟩ = some (.string (⟨#[]⟩ : ByteArray)) := (blk_cell BK138.out 1).trans rfl; have hfz7_0 := blk_frozen BK138.out 0; have hfz7_1 := blk_frozen BK138.out 1))
            (try simp only [Act.put, List.setIfInBounds_toArray, List.set_cons_zero, List.set_cons_succ])
            go_cut [35] (fun v35 wc => ∃ (kq : Nat) (x35_4 : Bool), v35 = .bool x35_4 ∧ Aside0 (stevedoreref23_PutRecords.j1 kq l0 x4_1 x5_1 x35_4 ((rd_T39 l0 x5_1).f0) ((rd_T39 l0 x5_1).f1) = some (r1, r2)) ∧ Aside0 (kq ≤ k1) ∧ Aside0 (wc.heap[gb138]? = some (.cells #[.string ((rd_T39 l0 x5_1).f0), .string ((rd_T39 l0 x5_1).f1)] 39 (0, 0))) ∧ Aside0 (Below w.heap.size w wc))
            case first =>
              have H := HC5.out
              clear HC5
              by_cases c8 : ((rd_T39 l0 x5_1).f0).toList = ([] : List UInt8)
              · rw [if_pos c8] at H
                have c8b0 : (((rd_T39 l0 x5_1).f0).toList == ([] : List UInt8)) = true := beq_iff_eq.mpr c8
                have c8b1 : (((rd_T39 l0 x5_1).f0).toList != ([] : List UInt8)) = false := bne_eq_false_iff_eq.mpr c8
                clear c8
                (first | rw [c8b0] | (simp only [i64_w, i32_w]; rw [c8b0]) | rw [c8b1] | skip)
                have H' := Aside0.mk H
                clear H
                have hcz9_0 : w6.cell? ⟨gb138, 0, none⟩ = some (.string (⟨#[]⟩ : ByteArray)) := (blk_cell BK138.out 0).trans rfl
                have hcz9_1 : w6.cell? ⟨gb138, 1, none⟩ = some (.string (⟨#[]⟩ : ByteArray)) := (blk_cell BK138.out 1).trans rfl
                have hfz9_0 := blk_frozen BK138.out 0
                have hfz9_1 := blk_frozen BK138.out 1
                go_wp2
                go_meet
                case rel => exact ⟨_, (true), (by first | rfl | (simp; done) | (simp [*]; done)), H', ⟨by have := HK1.out; first | omega | exact Nat.le_refl _⟩, ⟨by (with_reducible repeat (first | refine blk_drewN ?_ _ | refine blk_drew ?_ | refine blk_alloc ?_ _)); refine blk_put (cs := #[.string ((rd_T39 l0 x5_1).f0), .string (⟨#[]⟩ : ByteArray)]) ?_ 1 _ rfl; (with_reducible repeat (first | refine blk_drewN ?_ _ | refine blk_drew ?_ | refine blk_alloc ?_ _)); refine blk_put (cs := #[.string (⟨#[]⟩ : ByteArray), .string (⟨#[]⟩ : ByteArray)]) ?_ 0 _ rfl; (with_reducible repeat (first | refine blk_drewN ?_ _ | refine blk_drew ?_ | refine blk_alloc ?_ _)); exact BK138.out⟩, ⟨by repeat (first | (with_reducible first | exact HB.out | apply below_alloc | apply pw_below_drewN | apply below_drew1 | refine below_set ?_ GE138.out) | exact HB.out)⟩⟩
              · rw [if_neg c8] at H
                have c8b0 : (((rd_T39 l0 x5_1).f0).toList == ([] : List UInt8)) = false := beq_eq_false_iff_ne.mpr c8
                have c8b1 : (((rd_T39 l0 x5_1).f0).toList != ([] : List UInt8)) = true := bne_iff_ne.mpr c8
                (first | rw [c8b0] | (simp only [i64_w, i32_w]; rw [c8b0]) | rw [c8b1] | skip)
                by_cases c10 : (((rd_T39 l0 x5_1).f0).size : Int) > 1048576
                · rw [if_pos c10] at H
                  have c10b0 : decide (1048576 < (((rd_T39 l0 x5_1).f0).size : Int)) = true := decide_eq_true c10
                  have c10b1 : decide (1048576 < ((rd_T39 l0 x5_1).f0).size) = true := decide_eq_true (by omega)
                  clear c10
                  have H' := Aside0.mk H
                  clear H
                  have hcz11_0 : w6.cell? ⟨gb138, 0, none⟩ = some (.string (⟨#[]⟩ : ByteArray)) := (blk_cell BK138.out 0).trans rfl
                  have hcz11_1 : w6.cell? ⟨gb138, 1, none⟩ = some (.string (⟨#[]⟩ : ByteArray)) := (blk_cell BK138.out 1).trans rfl
                  have hfz11_0 := blk_frozen BK138.out 0
                  have hfz11_1 := blk_frozen BK138.out 1
                  go_wp2
                  go_meet
                  case rel => exact ⟨_, (true), (by first | rfl | (simp; done) | (simp [*]; done)), H', ⟨by have := HK1.out; first | omega | exact Nat.le_refl _⟩, ⟨by (with_reducible repeat (first | refine blk_drewN ?_ _ | refine blk_drew ?_ | refine blk_alloc ?_ _)); refine blk_put (cs := #[.string ((rd_T39 l0 x5_1).f0), .string (⟨#[]⟩ : ByteArray)]) ?_ 1 _ rfl; (with_reducible repeat (first | refine blk_drewN ?_ _ | refine blk_drew ?_ | refine blk_alloc ?_ _)); refine blk_put (cs := #[.string (⟨#[]⟩ : ByteArray), .string (⟨#[]⟩ : ByteArray)]) ?_ 0 _ rfl; (with_reducible repeat (first | refine blk_drewN ?_ _ | refine blk_drew ?_ | refine blk_alloc ?_ _)); exact BK138.out⟩, ⟨by repeat (first | (with_reducible first | exact HB.out | apply below_alloc | apply pw_below_drewN | apply below_drew1 | refine below_set ?_ GE138.out) | exact HB.out)⟩⟩
                · rw [if_neg c10] at H
                  have c10b0 : decide (1048576 < (((rd_T39 l0 x5_1).f0).size : Int)) = false := decide_eq_false c10
                  have c10b1 : decide (1048576 < ((rd_T39 l0 x5_1).f0).size) = false := decide_eq_false (by omega)
                  clear c10
                  have H' := Aside0.mk H
                  clear H
                  have hcz12_0 : w6.cell? ⟨gb138, 0, none⟩ = some (.string (⟨#[]⟩ : ByteArray)) := (blk_cell BK138.out 0).trans rfl
                  have hcz12_1 : w6.cell? ⟨gb138, 1, none⟩ = some (.string (⟨#[]⟩ : ByteArray)) := (blk_cell BK138.out 1).trans rfl
                  have hfz12_0 := blk_frozen BK138.out 0
                  have hfz12_1 := blk_frozen BK138.out 1
                  go_wp2
                  go_meet
                  case rel => exact ⟨_, (decide ((((rd_T39 l0 x5_1).f1).size : Int) > 1048576)), (by first | rfl | (simp; done) | (simp [*]; done)), H', ⟨by have := HK1.out; first | omega | exact Nat.le_refl _⟩, ⟨by (with_reducible repeat (first | refine blk_drewN ?_ _ | refine blk_drew ?_ | refine blk_alloc ?_ _)); refine blk_put (cs := #[.string ((rd_T39 l0 x5_1).f0), .string (⟨#[]⟩ : ByteArray)]) ?_ 1 _ rfl; (with_reducible repeat (first | refine blk_drewN ?_ _ | refine blk_drew ?_ | refine blk_alloc ?_ _)); refine blk_put (cs := #[.string (⟨#[]⟩ : ByteArray), .string (⟨#[]⟩ : ByteArray)]) ?_ 0 _ rfl; (with_reducible repeat (first | refine blk_drewN ?_ _ | refine blk_drew ?_ | refine blk_alloc ?_ _)); exact BK138.out⟩, ⟨by repeat (first | (with_reducible first | exact HB.out | apply below_alloc | apply pw_below_drewN | apply below_drew1 | refine below_set ?_ GE138.out) | exact HB.out)⟩⟩
            case rest =>
              clear HC5
              try clear c1
              try clear p1
              try clear q1
              try clear hx1
              try clear c2
              try clear c2b0
              try clear c2b1
              try clear p2
              try clear c3
              try clear c3b0
              try clear c4
              try clear c4b0
              try clear c8
              try clear c8b0
              try clear c8b1
              try clear c10
              try clear c10b0
              try clear c10b1
              try clear hcz11_0
              try clear hcz11_1
              try clear hcz12_0
              try clear hcz12_1
              try clear hcz7_0
              try clear hcz7_1
              try clear hcz9_0
              try clear hcz9_1
              try clear hfz11_0
              try clear hfz11_1
              try clear hfz12_0
              try clear hfz12_1
              try clear hfz7_0
              try clear hfz7_1
              try clear hfz9_0
              try clear hfz9_1
              try clear hx137_0
              try clear hx137_1
              try clear p137
              try clear p2
              try clear q137
              obtain ⟨kq, x35_4, rfl, HA, HJ4, BK138, HB⟩ := hcut
              cases kq with
              | zero => exact absurd HA.out (by simp [stevedoreref23_PutRecords.j1])
              | succ kj4 =>
                have H := HA.out
                clear HA
                simp only [stevedoreref23_PutRecords.j1] at H
                by_cases c13 : x35_4 = true
                · subst c13
                  have H1 : (some ((⟨#[]⟩ : ByteArray), 1)) = some (r1, r2) := by rw [if_pos rfl] at H; exact H
                  clear H
                  have H := H1
                  clear H1
                  simp only [Option.some.injEq, Prod.mk.injEq] at H
                  obtain ⟨rfl, rfl⟩ := H
                  go_wp2
                  go_ret2
                  exact ⟨by first | rfl | (simp only [show ∀ l : List UInt8, (l != []) = (!l.isEmpty) from fun l => by cases l <;> rfl]; rfl) | (simp [errW_none, errW_some] <;> rfl) | (simp [*, errW_none, errW_some] <;> rfl), by repeat (first | (with_reducible first | exact HB.out | apply below_alloc | apply pw_below_drewN | apply below_drew1 | refine below_set ?_ GE138.out) | exact HB.out)⟩
                · replace c13 := Bool.eq_false_iff.mpr c13
                  subst c13
                  have H1 : (stevedoreref23_PutRecords.l1 kj4 l0 x4_1 x5_1 0 ((rd_T39 l0 x5_1).f0) ((rd_T39 l0 x5_1).f1)) = some (r1, r2) := by rw [if_neg (show ¬ (false = true) by decide)] at H; exact H
                  clear H
                  have H := H1
                  clear H1
                  have H' := Aside0.mk H
                  clear H
                  go_wp2
                  go_loopg [7] kj4 (fun kq v7 w' => ∃ (x7_3 : Int), v7 = .int .i64 x7_3 ∧ Aside0 (stevedoreref23_PutRecords.l1 kq l0 x4_1 x5_1 x7_3 ((rd_T39 l0 x5_1).f0) ((rd_T39 l0 x5_1).f1) = some (r1, r2)) ∧ Aside0 (kq ≤ kj4) ∧ Aside0 (w'.heap[gb138]? = some (.cells #[.string ((rd_T39 l0 x5_1).f0), .string ((rd_T39 l0 x5_1).f1)] 39 (0, 0))) ∧ Aside0 (Below w.heap.size w w'))
                  case atStart => exact ⟨(0), (by first | rfl | (simp; done) | (simp [*]; done)), H', ⟨Nat.le_refl _⟩, ⟨by (with_reducible repeat (first | refine blk_drewN ?_ _ | refine blk_drew ?_ | refine blk_alloc ?_ _)); exact BK138.out⟩, ⟨by repeat (first | (with_reducible first | exact HB.out | apply below_alloc | apply pw_below_drewN | apply below_drew1 | refine below_set ?_ GE138.out) | exact HB.out)⟩⟩
                  case round =>
                    clear H'
                    try clear c1
                    try clear p1
                    try clear q1
                    try clear hx1
                    try clear c2
                    try clear c2b0
                    try clear c2b1
                    try clear p2
                    try clear c3
                    try clear c3b0
                    try clear c4
                    try clear c4b0
                    try clear c8
                    try clear c8b0
                    try clear c8b1
                    try clear c10
                    try clear c10b0
                    try clear c10b1
                    try clear c13
                    try clear p13
                    try clear q13
                    try clear hx13
                    try clear hcz11_0
                    try clear hcz11_1
                    try clear hcz12_0
                    try clear hcz12_1
                    try clear hcz7_0
                    try clear hcz7_1
                    try clear hcz9_0
                    try clear hcz9_1
                    try clear hfz11_0
                    try clear hfz11_1
                    try clear hfz12_0
                    try clear hfz12_1
                    try clear hfz7_0
                    try clear hfz7_1
                    try clear hfz9_0
                    try clear hfz9_1
                    try clear hx137_0
                    try clear hx137_1
                    try clear p1
                    try clear p137
                    try clear p2
                    try clear q1
                    try clear q137
                    obtain ⟨x7_3, rfl, HA, HK3, BK138, HB⟩ := hrel
                    cases gk with
                    | zero => exact absurd HA.out (by simp [stevedoreref23_PutRecords.l1])
                    | succ k3 =>
                      have H := HA.out
                      clear HA
                      simp only [stevedoreref23_PutRecords.l1] at H
                      by_cases c14 : x7_3 < (((rd_T39 l0 x5_1).f0).size : Int)
                      · rw [if_pos c14] at H
                        have c14b0 : decide (x7_3 < (((rd_T39 l0 x5_1).f0).size : Int)) = true := decide_eq_true c14
                        clear c14
                        by_cases c15 : 0 ≤ x7_3
                        · rw [if_pos c15] at H
                          have c15b0 : decide (0 ≤ x7_3) = true := decide_eq_true c15
                          clear c15
                          by_cases c17 : (bt ((rd_T39 l0 x5_1).f0) x7_3) = 61
                          · rw [if_pos c17] at H
                            have c17b0 : ((bt ((rd_T39 l0 x5_1).f0) x7_3) == 61) = true := beq_iff_eq.mpr c17
                            have c17b1 : ((bt ((rd_T39 l0 x5_1).f0) x7_3) != 61) = false := bne_eq_false_iff_eq.mpr c17
                            clear c17
                            simp only [Option.some.injEq, Prod.mk.injEq] at H
                            obtain ⟨rfl, rfl⟩ := H
                            have hcz18_0 : wr.cell? ⟨gb138, 0, none⟩ = some (.string ((rd_T39 l0 x5_1).f0)) := (blk_cell BK138.out 0).trans rfl
                            have hcz18_1 : wr.cell? ⟨gb138, 1, none⟩ = some (.string ((rd_T39 l0 x5_1).f1)) := (blk_cell BK138.out 1).trans rfl
                            have hfz18_0 := blk_frozen BK138.out 0
                            have hfz18_1 := blk_frozen BK138.out 1
                            have p16 : 0 ≤ (x7_3 : Int) := of_decide_eq_true (by first | (with_reducible assumption) | assumption)
                            have q16 : x7_3 < (((rd_T39 l0 x5_1).f0).size : Int) := of_decide_eq_true (by first | (with_reducible assumption) | assumption)
                            have hx16 := bt_at ((rd_T39 l0 x5_1).f0) x7_3
                            replace p16 := eq_true p16
                            replace q16 := eq_true q16
                            go_wp2
                            go_ret2
                            exact ⟨by first | rfl | (simp only [show ∀ l : List UInt8, (l != []) = (!l.isEmpty) from fun l => by cases l <;> rfl]; rfl) | (simp [errW_none, errW_some] <;> rfl) | (simp [*, errW_none, errW_some] <;> rfl), by repeat (first | (with_reducible first | exact HB.out | apply below_alloc | apply pw_below_drewN | apply below_drew1 | refine below_set ?_ GE138.out) | exact HB.out)⟩
                          · rw [if_neg c17] at H
                            have c17b0 : ((bt ((rd_T39 l0 x5_1).f0) x7_3) == 61) = false := beq_eq_false_iff_ne.mpr c17
                            have c17b1 : ((bt ((rd_T39 l0 x5_1).f0) x7_3) != 61) = true := bne_iff_ne.mpr c17
                            by_cases c20 : (bt ((rd_T39 l0 x5_1).f0) x7_3) = 10
                            · rw [if_pos c20] at H
                              have c20b0 : ((bt ((rd_T39 l0 x5_1).f0) x7_3) == 10) = true := beq_iff_eq.mpr c20
                              have c20b1 : ((bt ((rd_T39 l0 x5_1).f0) x7_3) != 10) = false := bne_eq_false_iff_eq.mpr c20
                              clear c20
                              simp only [Option.some.injEq, Prod.mk.injEq] at H
                              obtain ⟨rfl, rfl⟩ := H
                              have hcz21_0 : wr.cell? ⟨gb138, 0, none⟩ = some (.string ((rd_T39 l0 x5_1).f0)) := (blk_cell BK138.out 0).trans rfl
                              have hcz21_1 : wr.cell? ⟨gb138, 1, none⟩ = some (.string ((rd_T39 l0 x5_1).f1)) := (blk_cell BK138.out 1).trans rfl
                              have hfz21_0 := blk_frozen BK138.out 0
                              have hfz21_1 := blk_frozen BK138.out 1
                              have p16 : 0 ≤ (x7_3 : Int) := of_decide_eq_true (by first | (with_reducible assumption) | assumption)
                              have q16 : x7_3 < (((rd_T39 l0 x5_1).f0).size : Int) := of_decide_eq_true (by first | (with_reducible assumption) | assumption)
                              have hx16 := bt_at ((rd_T39 l0 x5_1).f0) x7_3
                              replace p16 := eq_true p16
                              replace q16 := eq_true q16
                              have p19 : 0 ≤ (x7_3 : Int) := of_decide_eq_true (by first | (with_reducible assumption) | assumption)
                              have q19 : x7_3 < (((rd_T39 l0 x5_1).f0).size : Int) := of_decide_eq_true (by first | (with_reducible assumption) | assumption)
                              have hx19 := bt_at ((rd_T39 l0 x5_1).f0) x7_3
                              replace p19 := eq_true p19
                              replace q19 := eq_true q19
                              go_wp2
                              go_ret2
                              exact ⟨by first | rfl | (simp only [show ∀ l : List UInt8, (l != []) = (!l.isEmpty) from fun l => by cases l <;> rfl]; rfl) | (simp [errW_none, errW_some] <;> rfl) | (simp [*, errW_none, errW_some] <;> rfl), by repeat (first | (with_reducible first | exact HB.out | apply below_alloc | apply pw_below_drewN | apply below_drew1 | refine below_set ?_ GE138.out) | exact HB.out)⟩
                            · rw [if_neg c20] at H
                              have c20b0 : ((bt ((rd_T39 l0 x5_1).f0) x7_3) == 10) = false := beq_eq_false_iff_ne.mpr c20
                              have c20b1 : ((bt ((rd_T39 l0 x5_1).f0) x7_3) != 10) = true := bne_iff_ne.mpr c20
                              by_cases c23 : (bt ((rd_T39 l0 x5_1).f0) x7_3) = 0
                              · rw [if_pos c23] at H
                                have c23b0 : ((bt ((rd_T39 l0 x5_1).f0) x7_3) == 0) = true := beq_iff_eq.mpr c23
                                have c23b1 : ((bt ((rd_T39 l0 x5_1).f0) x7_3) != 0) = false := bne_eq_false_iff_eq.mpr c23
                                clear c23
                                simp only [Option.some.injEq, Prod.mk.injEq] at H
                                obtain ⟨rfl, rfl⟩ := H
                                have hcz24_0 : wr.cell? ⟨gb138, 0, none⟩ = some (.string ((rd_T39 l0 x5_1).f0)) := (blk_cell BK138.out 0).trans rfl
                                have hcz24_1 : wr.cell? ⟨gb138, 1, none⟩ = some (.string ((rd_T39 l0 x5_1).f1)) := (blk_cell BK138.out 1).trans rfl
                                have hfz24_0 := blk_frozen BK138.out 0
                                have hfz24_1 := blk_frozen BK138.out 1
                                have p16 : 0 ≤ (x7_3 : Int) := of_decide_eq_true (by first | (with_reducible assumption) | assumption)
                                have q16 : x7_3 < (((rd_T39 l0 x5_1).f0).size : Int) := of_decide_eq_true (by first | (with_reducible assumption) | assumption)
                                have hx16 := bt_at ((rd_T39 l0 x5_1).f0) x7_3
                                replace p16 := eq_true p16
                                replace q16 := eq_true q16
                                have p19 : 0 ≤ (x7_3 : Int) := of_decide_eq_true (by first | (with_reducible assumption) | assumption)
                                have q19 : x7_3 < (((rd_T39 l0 x5_1).f0).size : Int) := of_decide_eq_true (by first | (with_reducible assumption) | assumption)
                                have hx19 := bt_at ((rd_T39 l0 x5_1).f0) x7_3
                                replace p19 := eq_true p19
                                replace q19 := eq_true q19
                                have p22 : 0 ≤ (x7_3 : Int) := of_decide_eq_true (by first | (with_reducible assumption) | assumption)
                                have q22 : x7_3 < (((rd_T39 l0 x5_1).f0).size : Int) := of_decide_eq_true (by first | (with_reducible assumption) | assumption)
                                have hx22 := bt_at ((rd_T39 l0 x5_1).f0) x7_3
                                replace p22 := eq_true p22
                                replace q22 := eq_true q22
                                go_wp2
                                go_ret2
                                exact ⟨by first | rfl | (simp only [show ∀ l : List UInt8, (l != []) = (!l.isEmpty) from fun l => by cases l <;> rfl]; rfl) | (simp [errW_none, errW_some] <;> rfl) | (simp [*, errW_none, errW_some] <;> rfl), by repeat (first | (with_reducible first | exact HB.out | apply below_alloc | apply pw_below_drewN | apply below_drew1 | refine below_set ?_ GE138.out) | exact HB.out)⟩
                              · rw [if_neg c23] at H
                                have c23b0 : ((bt ((rd_T39 l0 x5_1).f0) x7_3) == 0) = false := beq_eq_false_iff_ne.mpr c23
                                have c23b1 : ((bt ((rd_T39 l0 x5_1).f0) x7_3) != 0) = true := bne_iff_ne.mpr c23
                                have H' := Aside0.mk H
                                clear H
                                have hcz25_0 : wr.cell? ⟨gb138, 0, none⟩ = some (.string ((rd_T39 l0 x5_1).f0)) := (blk_cell BK138.out 0).trans rfl
                                have hcz25_1 : wr.cell? ⟨gb138, 1, none⟩ = some (.string ((rd_T39 l0 x5_1).f1)) := (blk_cell BK138.out 1).trans rfl
                                have hfz25_0 := blk_frozen BK138.out 0
                                have hfz25_1 := blk_frozen BK138.out 1
                                have p16 : 0 ≤ (x7_3 : Int) := of_decide_eq_true (by first | (with_reducible assumption) | assumption)
                                have q16 : x7_3 < (((rd_T39 l0 x5_1).f0).size : Int) := of_decide_eq_true (by first | (with_reducible assumption) | assumption)
                                have hx16 := bt_at ((rd_T39 l0 x5_1).f0) x7_3
                                replace p16 := eq_true p16
                                replace q16 := eq_true q16
                                have p19 : 0 ≤ (x7_3 : Int) := of_decide_eq_true (by first | (with_reducible assumption) | assumption)
                                have q19 : x7_3 < (((rd_T39 l0 x5_1).f0).size : Int) := of_decide_eq_true (by first | (with_reducible assumption) | assumption)
                                have hx19 := bt_at ((rd_T39 l0 x5_1).f0) x7_3
                                replace p19 := eq_true p19
                                replace q19 := eq_true q19
                                have p22 : 0 ≤ (x7_3 : Int) := of_decide_eq_true (by first | (with_reducible assumption) | assumption)
                                have q22 : x7_3 < (((rd_T39 l0 x5_1).f0).size : Int) := of_decide_eq_true (by first | (with_reducible assumption) | assumption)
                                have hx22 := bt_at ((rd_T39 l0 x5_1).f0) x7_3
                                replace p22 := eq_true p22
                                replace q22 := eq_true q22
                                go_wp2
                                go_roundg k3
                                case measure => have := HK1.out; have := HJ4.out; have := HK3.out; omega
                                case rel => exact ⟨(wrap64 (x7_3 + 1)), (by first | rfl | (simp; done) | (simp [*]; done)), H', ⟨by have := HK1.out; have := HJ4.out; have := HK3.out; omega⟩, ⟨by (with_reducible repeat (first | refine blk_drewN ?_ _ | refine blk_drew ?_ | refine blk_alloc ?_ _)); exact BK138.out⟩, ⟨by repeat (first | (with_reducible first | exact HB.out | apply below_alloc | apply pw_below_drewN | apply below_drew1 | refine below_set ?_ GE138.out) | exact HB.out)⟩⟩
                        · rw [if_neg c15] at H
                          exact absurd H (by simp)
                      · rw [if_neg c14] at H
                        have c14b0 : decide (x7_3 < (((rd_T39 l0 x5_1).f0).size : Int)) = false := decide_eq_false c14
                        clear c14
                        replace H := Option.bind_eq_some_iff.mp H
                        obtain ⟨t139, A260, H⟩ := H
                        replace H : ((strconv_Itoa.f t139).bind fun t140 => (if x4_1.size + t140.size ≤ 9223372036854775807 then (if (x4_1 ++ t140).size + 1 ≤ 9223372036854775807 then (if ((x4_1 ++ t140) ++ (⟨#[32]⟩ : ByteArray)).size + ((rd_T39 l0 x5_1).f0).size ≤ 9223372036854775807 then (if (((x4_1 ++ t140) ++ (⟨#[32]⟩ : ByteArray)) ++ ((rd_T39 l0 x5_1).f0)).size + 1 ≤ 9223372036854775807 then (if ((((x4_1 ++ t140) ++ (⟨#[32]⟩ : ByteArray)) ++ ((rd_T39 l0 x5_1).f0)) ++ (⟨#[61]⟩ : ByteArray)).size + ((rd_T39 l0 x5_1).f1).size ≤ 9223372036854775807 then (if (((((x4_1 ++ t140) ++ (⟨#[32]⟩ : ByteArray)) ++ ((rd_T39 l0 x5_1).f0)) ++ (⟨#[61]⟩ : ByteArray)) ++ ((rd_T39 l0 x5_1).f1)).size + 1 ≤ 9223372036854775807 then (if (((((((x4_1 ++ t140) ++ (⟨#[32]⟩ : ByteArray)) ++ ((rd_T39 l0 x5_1).f0)) ++ (⟨#[61]⟩ : ByteArray)) ++ ((rd_T39 l0 x5_1).f1)) ++ (⟨#[10]⟩ : ByteArray)).size : Int) > 1048576 then (some ((⟨#[]⟩ : ByteArray), 1)) else (stevedoreref23_PutRecords.l0 k3 l0 ((((((x4_1 ++ t140) ++ (⟨#[32]⟩ : ByteArray)) ++ ((rd_T39 l0 x5_1).f0)) ++ (⟨#[61]⟩ : ByteArray)) ++ ((rd_T39 l0 x5_1).f1)) ++ (⟨#[10]⟩ : ByteArray)) (wrap64 (x5_1 + 1)))) else (none)) else (none)) else (none)) else (none)) else (none)) else (none))) = some (r1, r2) := H
                        have A26 := Aside0.mk A260
                        clear A260
                        replace H := Option.bind_eq_some_iff.mp H
                        obtain ⟨t140, A270, H⟩ := H
                        replace H : (if x4_1.size + t140.size ≤ 9223372036854775807 then (if (x4_1 ++ t140).size + 1 ≤ 9223372036854775807 then (if ((x4_1 ++ t140) ++ (⟨#[32]⟩ : ByteArray)).size + ((rd_T39 l0 x5_1).f0).size ≤ 9223372036854775807 then (if (((x4_1 ++ t140) ++ (⟨#[32]⟩ : ByteArray)) ++ ((rd_T39 l0 x5_1).f0)).size + 1 ≤ 9223372036854775807 then (if ((((x4_1 ++ t140) ++ (⟨#[32]⟩ : ByteArray)) ++ ((rd_T39 l0 x5_1).f0)) ++ (⟨#[61]⟩ : ByteArray)).size + ((rd_T39 l0 x5_1).f1).size ≤ 9223372036854775807 then (if (((((x4_1 ++ t140) ++ (⟨#[32]⟩ : ByteArray)) ++ ((rd_T39 l0 x5_1).f0)) ++ (⟨#[61]⟩ : ByteArray)) ++ ((rd_T39 l0 x5_1).f1)).size + 1 ≤ 9223372036854775807 then (if (((((((x4_1 ++ t140) ++ (⟨#[32]⟩ : ByteArray)) ++ ((rd_T39 l0 x5_1).f0)) ++ (⟨#[61]⟩ : ByteArray)) ++ ((rd_T39 l0 x5_1).f1)) ++ (⟨#[10]⟩ : ByteArray)).size : Int) > 1048576 then (some ((⟨#[]⟩ : ByteArray), 1)) else (stevedoreref23_PutRecords.l0 k3 l0 ((((((x4_1 ++ t140) ++ (⟨#[32]⟩ : ByteArray)) ++ ((rd_T39 l0 x5_1).f0)) ++ (⟨#[61]⟩ : ByteArray)) ++ ((rd_T39 l0 x5_1).f1)) ++ (⟨#[10]⟩ : ByteArray)) (wrap64 (x5_1 + 1)))) else (none)) else (none)) else (none)) else (none)) else (none)) else (none)) = some (r1, r2) := H
                        have A27 := Aside0.mk A270
                        clear A270
                        by_cases c28 : x4_1.size + t140.size ≤ 9223372036854775807
                        · rw [if_pos c28] at H
                          have c28b0 := eq_true c28
                          have c28b1 : decide (x4_1.size + t140.size ≤ 9223372036854775807) = true := decide_eq_true c28
                          try have c28b2 : (9223372036854775807 < x4_1.size + t140.size) = False := eq_false (Nat.not_lt.2 c28)
                          by_cases c29 : (x4_1 ++ t140).size + 1 ≤ 9223372036854775807
                          · rw [if_pos c29] at H
                            have c29b0 := eq_true c29
                            have c29b1 : decide ((x4_1 ++ t140).size + 1 ≤ 9223372036854775807) = true := decide_eq_true c29
                            (try (have c29b1s := c29b1; simp only [ByteArray.size_append] at c29b1s))
                            (try (have c29b1t := c29b1; simp only [ByteArray.size_append, Int.natCast_add, Int.cast_ofNat_Int] at c29b1t))
                            try have c29b2 : (9223372036854775807 < (x4_1 ++ t140).size + 1) = False := eq_false (Nat.not_lt.2 c29)
                            (try (have c29b2s := c29b2; simp only [ByteArray.size_append] at c29b2s))
                            (try (have c29b2t := c29b2; simp only [ByteArray.size_append, Int.natCast_add, Int.cast_ofNat_Int] at c29b2t))
                            by_cases c30 : ((x4_1 ++ t140) ++ (⟨#[32]⟩ : ByteArray)).size + ((rd_T39 l0 x5_1).f0).size ≤ 9223372036854775807
                            · rw [if_pos c30] at H
                              have c30b0 := eq_true c30
                              have c30b1 : decide (((x4_1 ++ t140) ++ (⟨#[32]⟩ : ByteArray)).size + ((rd_T39 l0 x5_1).f0).size ≤ 9223372036854775807) = true := decide_eq_true c30
                              (try (have c30b1s := c30b1; simp only [ByteArray.size_append, show (ByteArray.mk #[32]).size = 1 from rfl] at c30b1s))
                              (try (have c30b1t := c30b1; simp only [ByteArray.size_append, show (ByteArray.mk #[32]).size = 1 from rfl, Int.natCast_add, Int.cast_ofNat_Int] at c30b1t))
                              try have c30b2 : (9223372036854775807 < ((x4_1 ++ t140) ++ (⟨#[32]⟩ : ByteArray)).size + ((rd_T39 l0 x5_1).f0).size) = False := eq_false (Nat.not_lt.2 c30)
                              (try (have c30b2s := c30b2; simp only [ByteArray.size_append, show (ByteArray.mk #[32]).size = 1 from rfl] at c30b2s))
                              (try (have c30b2t := c30b2; simp only [ByteArray.size_append, show (ByteArray.mk #[32]).size = 1 from rfl, Int.natCast_add, Int.cast_ofNat_Int] at c30b2t))
                              by_cases c31 : (((x4_1 ++ t140) ++ (⟨#[32]⟩ : ByteArray)) ++ ((rd_T39 l0 x5_1).f0)).size + 1 ≤ 9223372036854775807
                              · rw [if_pos c31] at H
                                have c31b0 := eq_true c31
                                have c31b1 : decide ((((x4_1 ++ t140) ++ (⟨#[32]⟩ : ByteArray)) ++ ((rd_T39 l0 x5_1).f0)).size + 1 ≤ 9223372036854775807) = true := decide_eq_true c31
                                (try (have c31b1s := c31b1; simp only [ByteArray.size_append, show (ByteArray.mk #[32]).size = 1 from rfl] at c31b1s))
                                (try (have c31b1t := c31b1; simp only [ByteArray.size_append, show (ByteArray.mk #[32]).size = 1 from rfl, Int.natCast_add, Int.cast_ofNat_Int] at c31b1t))
                                try have c31b2 : (9223372036854775807 < (((x4_1 ++ t140) ++ (⟨#[32]⟩ : ByteArray)) ++ ((rd_T39 l0 x5_1).f0)).size + 1) = False := eq_false (Nat.not_lt.2 c31)
                                (try (have c31b2s := c31b2; simp only [ByteArray.size_append, show (ByteArray.mk #[32]).size = 1 from rfl] at c31b2s))
                                (try (have c31b2t := c31b2; simp only [ByteArray.size_append, show (ByteArray.mk #[32]).size = 1 from rfl, Int.natCast_add, Int.cast_ofNat_Int] at c31b2t))
                                by_cases c32 : ((((x4_1 ++ t140) ++ (⟨#[32]⟩ : ByteArray)) ++ ((rd_T39 l0 x5_1).f0)) ++ (⟨#[61]⟩ : ByteArray)).size + ((rd_T39 l0 x5_1).f1).size ≤ 9223372036854775807
                                · rw [if_pos c32] at H
                                  have c32b0 := eq_true c32
                                  have c32b1 : decide (((((x4_1 ++ t140) ++ (⟨#[32]⟩ : ByteArray)) ++ ((rd_T39 l0 x5_1).f0)) ++ (⟨#[61]⟩ : ByteArray)).size + ((rd_T39 l0 x5_1).f1).size ≤ 9223372036854775807) = true := decide_eq_true c32
                                  (try (have c32b1s := c32b1; simp only [ByteArray.size_append, show (ByteArray.mk #[32]).size = 1 from rfl, show (ByteArray.mk #[61]).size = 1 from rfl] at c32b1s))
                                  (try (have c32b1t := c32b1; simp only [ByteArray.size_append, show (ByteArray.mk #[32]).size = 1 from rfl, show (ByteArray.mk #[61]).size = 1 from rfl, Int.natCast_add, Int.cast_ofNat_Int] at c32b1t))
                                  try have c32b2 : (9223372036854775807 < ((((x4_1 ++ t140) ++ (⟨#[32]⟩ : ByteArray)) ++ ((rd_T39 l0 x5_1).f0)) ++ (⟨#[61]⟩ : ByteArray)).size + ((rd_T39 l0 x5_1).f1).size) = False := eq_false (Nat.not_lt.2 c32)
                                  (try (have c32b2s := c32b2; simp only [ByteArray.size_append, show (ByteArray.mk #[32]).size = 1 from rfl, show (ByteArray.mk #[61]).size = 1 from rfl] at c32b2s))
                                  (try (have c32b2t := c32b2; simp only [ByteArray.size_append, show (ByteArray.mk #[32]).size = 1 from rfl, show (ByteArray.mk #[61]).size = 1 from rfl, Int.natCast_add, Int.cast_ofNat_Int] at c32b2t))
                                  by_cases c33 : (((((x4_1 ++ t140) ++ (⟨#[32]⟩ : ByteArray)) ++ ((rd_T39 l0 x5_1).f0)) ++ (⟨#[61]⟩ : ByteArray)) ++ ((rd_T39 l0 x5_1).f1)).size + 1 ≤ 9223372036854775807
                                  · rw [if_pos c33] at H
                                    have c33b0 := eq_true c33
                                    have c33b1 : decide ((((((x4_1 ++ t140) ++ (⟨#[32]⟩ : ByteArray)) ++ ((rd_T39 l0 x5_1).f0)) ++ (⟨#[61]⟩ : ByteArray)) ++ ((rd_T39 l0 x5_1).f1)).size + 1 ≤ 9223372036854775807) = true := decide_eq_true c33
                                    (try (have c33b1s := c33b1; simp only [ByteArray.size_append, show (ByteArray.mk #[32]).size = 1 from rfl, show (ByteArray.mk #[61]).size = 1 from rfl] at c33b1s))
                                    (try (have c33b1t := c33b1; simp only [ByteArray.size_append, show (ByteArray.mk #[32]).size = 1 from rfl, show (ByteArray.mk #[61]).size = 1 from rfl, Int.natCast_add, Int.cast_ofNat_Int] at c33b1t))
                                    try have c33b2 : (9223372036854775807 < (((((x4_1 ++ t140) ++ (⟨#[32]⟩ : ByteArray)) ++ ((rd_T39 l0 x5_1).f0)) ++ (⟨#[61]⟩ : ByteArray)) ++ ((rd_T39 l0 x5_1).f1)).size + 1) = False := eq_false (Nat.not_lt.2 c33)
                                    (try (have c33b2s := c33b2; simp only [ByteArray.size_append, show (ByteArray.mk #[32]).size = 1 from rfl, show (ByteArray.mk #[61]).size = 1 from rfl] at c33b2s))
                                    (try (have c33b2t := c33b2; simp only [ByteArray.size_append, show (ByteArray.mk #[32]).size = 1 from rfl, show (ByteArray.mk #[61]).size = 1 from rfl, Int.natCast_add, Int.cast_ofNat_Int] at c33b2t))
                                    by_cases c34 : (((((((x4_1 ++ t140) ++ (⟨#[32]⟩ : ByteArray)) ++ ((rd_T39 l0 x5_1).f0)) ++ (⟨#[61]⟩ : ByteArray)) ++ ((rd_T39 l0 x5_1).f1)) ++ (⟨#[10]⟩ : ByteArray)).size : Int) > 1048576
                                    · rw [if_pos c34] at H
                                      have c34b0 : decide (1048576 < (((((((x4_1 ++ t140) ++ (⟨#[32]⟩ : ByteArray)) ++ ((rd_T39 l0 x5_1).f0)) ++ (⟨#[61]⟩ : ByteArray)) ++ ((rd_T39 l0 x5_1).f1)) ++ (⟨#[10]⟩ : ByteArray)).size : Int)) = true := decide_eq_true c34
                                      (try (have c34b0s := c34b0; simp only [ByteArray.size_append, show (ByteArray.mk #[10]).size = 1 from rfl, show (ByteArray.mk #[32]).size = 1 from rfl, show (ByteArray.mk #[61]).size = 1 from rfl] at c34b0s))
                                      (try (have c34b0t := c34b0; simp only [ByteArray.size_append, show (ByteArray.mk #[10]).size = 1 from rfl, show (ByteArray.mk #[32]).size = 1 from rfl, show (ByteArray.mk #[61]).size = 1 from rfl, Int.natCast_add, Int.cast_ofNat_Int] at c34b0t))
                                      have c34b1 : decide (1048576 < ((((((x4_1 ++ t140) ++ (⟨#[32]⟩ : ByteArray)) ++ ((rd_T39 l0 x5_1).f0)) ++ (⟨#[61]⟩ : ByteArray)) ++ ((rd_T39 l0 x5_1).f1)) ++ (⟨#[10]⟩ : ByteArray)).size) = true := decide_eq_true (by omega)
                                      (try (have c34b1s := c34b1; simp only [ByteArray.size_append, show (ByteArray.mk #[10]).size = 1 from rfl, show (ByteArray.mk #[32]).size = 1 from rfl, show (ByteArray.mk #[61]).size = 1 from rfl] at c34b1s))
                                      (try (have c34b1t := c34b1; simp only [ByteArray.size_append, show (ByteArray.mk #[10]).size = 1 from rfl, show (ByteArray.mk #[32]).size = 1 from rfl, show (ByteArray.mk #[61]).size = 1 from rfl, Int.natCast_add, Int.cast_ofNat_Int] at c34b1t))
                                      clear c34
                                      simp only [Option.some.injEq, Prod.mk.injEq] at H
                                      obtain ⟨rfl, rfl⟩ := H
                                      have hcz35_0 : wr.cell? ⟨gb138, 0, none⟩ = some (.string ((rd_T39 l0 x5_1).f0)) := (blk_cell BK138.out 0).trans rfl
                                      have hcz35_1 : wr.cell? ⟨gb138, 1, none⟩ = some (.string ((rd_T39 l0 x5_1).f1)) := (blk_cell BK138.out 1).trans rfl
                                      have hfz35_0 := blk_frozen BK138.out 0
                                      have hfz35_1 := blk_frozen BK138.out 1
                                      try go_wp2
                                      have n0_ := Aside0.mk (blk_drew BK138.out)
                                      have n1_ := Aside0.mk (below_drew1 HB.out)
                                      clear BK138
                                      clear HB
                                      have BK138 := n0_
                                      have HB := n1_
                                      clear n0_ n1_
                                      refine start_ (n := 15) (S := fun w' => w'.cell? ⟨gb138, 0, none⟩ = some (.string ((rd_T39 l0 x5_1).f0)) ∧ w'.cell? ⟨gb138, 1, none⟩ = some (.string ((rd_T39 l0 x5_1).f1))) (ds := []) #[false, false, false, false, false, false, false, false, false, false, false, false, false, false, false] (by kernel_rfl) rfl rfl ⟨(blk_cell BK138.out 0).trans rfl, (blk_cell BK138.out 1).trans rfl⟩ (fun hHeld => ?_); refine with_tabW stevedoreref23_PutRecords.tab15 stevedoreref23_PutRecords.bits15 (fun HT_ HW_ => ?_)
                                      generalize wr.drew = w36 at BK138 HB hHeld ⊢
                                      refine pure_ (i := 0) (N := some 62) (v := ?_) (a' := ?_) #[true, false, false, false, false, false, false, false, false, false, false, false, false, false, false] rfl rfl (any_of HT_.out (by kernel_rfl)) (fun _ _ _ h => h) (Or.inl ⟨by rfl, ?_⟩) ?_ ?_
                                      rotate_left
                                      · intro w'
                                        go_simp
                                        with_reducible rfl
                                      rotate_left
                                      · simp only [Act.put, List.setIfInBounds_toArray, List.set_cons_zero, List.set_cons_succ, i64_w, i32_w]
                                        rfl
                                      refine pure_ (i := 6) (N := some 68) (v := ?_) (a' := ?_) #[true, false, false, false, false, false, true, false, false, false, false, false, false, false, false] rfl rfl (any_of HT_.out (by kernel_rfl)) (fun _ _ _ h => h) (Or.inl ⟨by rfl, ?_⟩) ?_ ?_
                                      rotate_left
                                      · intro w'
                                        go_simp
                                        with_reducible rfl
                                      rotate_left
                                      · simp only [Act.put, List.setIfInBounds_toArray, List.set_cons_zero, List.set_cons_succ, i64_w, i32_w]
                                        rfl
                                      refine pure_ (i := 10) (N := some 72) (v := ?_) (a' := ?_) #[true, false, false, false, false, false, true, false, false, false, true, false, false, false, false] rfl rfl (any_of HT_.out (by kernel_rfl)) (fun _ _ _ h => h) (Or.inl ⟨by rfl, ?_⟩) ?_ ?_
                                      rotate_left
                                      · intro w'
                                        go_simp
                                        with_reducible rfl
                                      rotate_left
                                      · simp only [Act.put, List.setIfInBounds_toArray, List.set_cons_zero, List.set_cons_succ, i64_w, i32_w]
                                        rfl
                                      refine take_ (i := 1) (N := some 63) (v := ?_) (a' := ?_) #[true, true, false, false, false, false, true, false, false, false, true, false, false, false, false] rfl rfl (take_ofW HT_.out HW_.out (by kernel_rfl)) (fun _ _ _ h => h) (Or.inl ⟨by rfl, ?_⟩) hHeld ?_ ?_
                                      rotate_left
                                      · rintro w' ⟨s0, s1⟩
                                        go_simp
                                        with_reducible rfl
                                      rotate_left
                                      · simp only [Act.put, List.setIfInBounds_toArray, List.set_cons_zero, List.set_cons_succ, i64_w, i32_w]
                                        rfl
                                      refine take_ (i := 7) (N := some 69) (v := ?_) (a' := ?_) #[true, true, false, false, false, false, true, true, false, false, true, false, false, false, false] rfl rfl (take_ofW HT_.out HW_.out (by kernel_rfl)) (fun _ _ _ h => h) (Or.inl ⟨by rfl, ?_⟩) hHeld ?_ ?_
                                      rotate_left
                                      · rintro w' ⟨s0, s1⟩
                                        go_simp
                                        with_reducible rfl
                                      rotate_left
                                      · simp only [Act.put, List.setIfInBounds_toArray, List.set_cons_zero, List.set_cons_succ, i64_w, i32_w]
                                        rfl
                                      refine take_ (i := 11) (N := some 73) (v := ?_) (a' := ?_) #[true, true, false, false, false, false, true, true, false, false, true, true, false, false, false] rfl rfl (take_ofW HT_.out HW_.out (by kernel_rfl)) (fun _ _ _ h => h) (Or.inl ⟨by rfl, ?_⟩) hHeld ?_ ?_
                                      rotate_left
                                      · rintro w' ⟨s0, s1⟩
                                        go_simp
                                        with_reducible rfl
                                      rotate_left
                                      · simp only [Act.put, List.setIfInBounds_toArray, List.set_cons_zero, List.set_cons_succ, i64_w, i32_w]
                                        rfl
                                      refine one_ (i := 2) (N := some 64) #[true, true, true, false, false, false, true, true, false, false, true, true, false, false, false] rfl rfl (one_of HT_.out (by kernel_rfl)) (by decide) (fun K hK => ?_)
                                      refine goes_ Tryd.func17 (by kernel_rfl) rfl #[.agg #[.string ((rd_T39 l0 x5_1).f0), .string ((rd_T39 l0 x5_1).f1)]] (by rfl) rfl rfl (by (try simp only [List.map_toArray, List.map_cons, List.map_nil]); first | done | rfl | (simp only [List.length_drop, List.length_take]; rfl)) ?_
                                      with_reducible refine (stevedoreref23_Len.calls k3 ((rd_T39 l0 x5_1).f0) ((rd_T39 l0 x5_1).f1) t139 _ A26.out (Go.Proofs.YtfnicahlnpngkaaDoor.DoorCut.Vars.below HVARS.out (by repeat (first | (with_reducible first | exact HB.out | apply below_alloc | apply pw_below_drewN | apply below_drew1 | refine below_set ?_ (Aside0.out (by assumption))) | exact HB.out)))).mono ?_
                                      rintro e w37 ⟨rfl, hb⟩
                                      refine ⟨_, rfl, ?_⟩
                                      have n0_ := Aside0.mk (blk_below (g := gb138) (o := .cells #[.string ((rd_T39 l0 x5_1).f0), .string ((rd_T39 l0 x5_1).f1)] 39 (0, 0)) (by (with_reducible repeat (first | refine blk_drewN ?_ _ | refine blk_drew ?_ | refine blk_alloc ?_ _)); exact BK138.out) hb)
                                      have n1_ := Aside0.mk (below_step (by repeat (first | (with_reducible first | exact HB.out | apply below_alloc | apply pw_below_drewN | apply below_drew1 | refine below_set ?_ GE138.out) | exact HB.out)) hb)
                                      clear BK138
                                      clear HB
                                      have BK138 := n0_
                                      have HB := n1_
                                      clear n0_ n1_
                                      (try clear hb)
                                      (try clear hb2)
                                      (try clear hk)
                                      (try clear hi)
                                      refine hK.out _ _ ⟨(blk_cell BK138.out 0).trans rfl, (blk_cell BK138.out 1).trans rfl⟩ (fun hHeld => ?_)
                                      clear hK K
                                      refine norm_ (a' := ?_) ?_ ?_
                                      rotate_left
                                      · show Act.put _ (some 64) _ = _
                                        simp only [Act.put, List.setIfInBounds_toArray, List.set_cons_zero, List.set_cons_succ, i64_w, i32_w]
                                        rfl
                                      refine one_ (i := 3) (N := some 65) #[true, true, true, true, false, false, true, true, false, false, true, true, false, false, false] rfl rfl (one_of HT_.out (by kernel_rfl)) (by decide) (fun K hK => ?_)
                                      refine goes_ Tryd.func22 (by kernel_rfl) rfl #[.int .i64 t139] (by rfl) rfl rfl (by (try simp only [List.map_toArray, List.map_cons, List.map_nil]); first | done | rfl | (simp only [List.length_drop, List.length_take]; rfl)) ?_
                                      with_reducible refine (strconv_Itoa.calls t139 t140 _ A27.out (Go.Proofs.YtfnicahlnpngkaaDoor.DoorCut.Vars.below HVARS.out (by repeat (first | (with_reducible first | exact HB.out | apply below_alloc | apply pw_below_drewN | apply below_drew1 | refine below_set ?_ (Aside0.out (by assumption))) | exact HB.out)))).mono ?_
                                      rintro e w38 ⟨rfl, hb⟩
                                      refine ⟨_, rfl, ?_⟩
                                      have n0_ := Aside0.mk (blk_below (g := gb138) (o := .cells #[.string ((rd_T39 l0 x5_1).f0), .string ((rd_T39 l0 x5_1).f1)] 39 (0, 0)) (by (with_reducible repeat (first | refine blk_drewN ?_ _ | refine blk_drew ?_ | refine blk_alloc ?_ _)); exact BK138.out) hb)
                                      have n1_ := Aside0.mk (below_step (by repeat (first | (with_reducible first | exact HB.out | apply below_alloc | apply pw_below_drewN | apply below_drew1 | refine below_set ?_ GE138.out) | exact HB.out)) hb)
                                      clear BK138
                                      clear HB
                                      have BK138 := n0_
                                      have HB := n1_
                                      clear n0_ n1_
                                      (try clear hb)
                                      (try clear hb2)
                                      (try clear hk)
                                      (try clear hi)
                                      refine hK.out _ _ ⟨(blk_cell BK138.out 0).trans rfl, (blk_cell BK138.out 1).trans rfl⟩ (fun hHeld => ?_)
                                      clear hK K
                                      refine norm_ (a' := ?_) ?_ ?_
                                      rotate_left
                                      · show Act.put _ (some 65) _ = _
                                        simp only [Act.put, List.setIfInBounds_toArray, List.set_cons_zero, List.set_cons_succ, i64_w, i32_w]
                                        rfl
                                      refine pure_ (i := 4) (N := some 66) (v := ?_) (a' := ?_) #[true, true, true, true, true, false, true, true, false, false, true, true, false, false, false] rfl rfl (any_of HT_.out (by kernel_rfl)) (fun _ _ _ h => h) (Or.inl ⟨by rfl, ?_⟩) ?_ ?_
                                      rotate_left
                                      · intro w'
                                        go_simp
                                        with_reducible rfl
                                      rotate_left
                                      · simp only [Act.put, List.setIfInBounds_toArray, List.set_cons_zero, List.set_cons_succ, i64_w, i32_w]
                                        rfl
                                      refine pure_ (i := 5) (N := some 67) (v := ?_) (a' := ?_) #[true, true, true, true, true, true, true, true, false, false, true, true, false, false, false] rfl rfl (any_of HT_.out (by kernel_rfl)) (fun _ _ _ h => h) (Or.inl ⟨by rfl, ?_⟩) ?_ ?_
                                      rotate_left
                                      · intro w'
                                        go_simp
                                        with_reducible rfl
                                      rotate_left
                                      · simp only [Act.put, List.setIfInBounds_toArray, List.set_cons_zero, List.set_cons_succ, i64_w, i32_w]
                                        rfl
                                      refine pure_ (i := 8) (N := some 70) (v := ?_) (a' := ?_) #[true, true, true, true, true, true, true, true, true, false, true, true, false, false, false] rfl rfl (any_of HT_.out (by kernel_rfl)) (fun _ _ _ h => h) (Or.inl ⟨by rfl, ?_⟩) ?_ ?_
                                      rotate_left
                                      · intro w'
                                        go_simp
                                        with_reducible rfl
                                      rotate_left
                                      · simp only [Act.put, List.setIfInBounds_toArray, List.set_cons_zero, List.set_cons_succ, i64_w, i32_w]
                                        rfl
                                      refine pure_ (i := 9) (N := some 71) (v := ?_) (a' := ?_) #[true, true, true, true, true, true, true, true, true, true, true, true, false, false, false] rfl rfl (any_of HT_.out (by kernel_rfl)) (fun _ _ _ h => h) (Or.inl ⟨by rfl, ?_⟩) ?_ ?_
                                      rotate_left
                                      · intro w'
                                        go_simp
                                        with_reducible rfl
                                      rotate_left
                                      · simp only [Act.put, List.setIfInBounds_toArray, List.set_cons_zero, List.set_cons_succ, i64_w, i32_w]
                                        rfl
                                      refine pure_ (i := 12) (N := some 74) (v := ?_) (a' := ?_) #[true, true, true, true, true, true, true, true, true, true, true, true, true, false, false] rfl rfl (any_of HT_.out (by kernel_rfl)) (fun _ _ _ h => h) (Or.inl ⟨by rfl, ?_⟩) ?_ ?_
                                      rotate_left
                                      · intro w'
                                        go_simp
                                        with_reducible rfl
                                      rotate_left
                                      · simp only [Act.put, List.setIfInBounds_toArray, List.set_cons_zero, List.set_cons_succ, i64_w, i32_w]
                                        rfl
                                      refine pure_ (i := 13) (N := some 75) (v := ?_) (a' := ?_) #[true, true, true, true, true, true, true, true, true, true, true, true, true, true, false] rfl rfl (any_of HT_.out (by kernel_rfl)) (fun _ _ _ h => h) (Or.inl ⟨by rfl, ?_⟩) ?_ ?_
                                      rotate_left
                                      · intro w'
                                        go_simp
                                        with_reducible rfl
                                      rotate_left
                                      · simp only [Act.put, List.setIfInBounds_toArray, List.set_cons_zero, List.set_cons_succ, i64_w, i32_w]
                                        rfl
                                      refine pure_ (i := 14) (N := some 4) (v := ?_) (a' := ?_) #[true, true, true, true, true, true, true, true, true, true, true, true, true, true, true] rfl rfl (any_of HT_.out (by kernel_rfl)) (fun _ _ _ h => h) (Or.inl ⟨by rfl, ?_⟩) ?_ ?_
                                      rotate_left
                                      · intro w'
                                        go_simp
                                        with_reducible rfl
                                      rotate_left
                                      · simp only [Act.put, List.setIfInBounds_toArray, List.set_cons_zero, List.set_cons_succ, i64_w, i32_w]
                                        rfl
                                      refine done_ (done_of HT_.out (by kernel_rfl)) ?_
                                      try go_wp2
                                      go_ret2
                                      exact ⟨by first | rfl | (simp only [show ∀ l : List UInt8, (l != []) = (!l.isEmpty) from fun l => by cases l <;> rfl]; rfl) | (simp [errW_none, errW_some] <;> rfl) | (simp [*, errW_none, errW_some] <;> rfl), by repeat (first | (with_reducible first | exact HB.out | apply below_alloc | apply pw_below_drewN | apply below_drew1 | refine below_set ?_ GE138.out) | exact HB.out)⟩
                                    · rw [if_neg c34] at H
                                      have c34b0 : decide (1048576 < (((((((x4_1 ++ t140) ++ (⟨#[32]⟩ : ByteArray)) ++ ((rd_T39 l0 x5_1).f0)) ++ (⟨#[61]⟩ : ByteArray)) ++ ((rd_T39 l0 x5_1).f1)) ++ (⟨#[10]⟩ : ByteArray)).size : Int)) = false := decide_eq_false c34
                                      (try (have c34b0s := c34b0; simp only [ByteArray.size_append, show (ByteArray.mk #[10]).size = 1 from rfl, show (ByteArray.mk #[32]).size = 1 from rfl, show (ByteArray.mk #[61]).size = 1 from rfl] at c34b0s))
                                      (try (have c34b0t := c34b0; simp only [ByteArray.size_append, show (ByteArray.mk #[10]).size = 1 from rfl, show (ByteArray.mk #[32]).size = 1 from rfl, show (ByteArray.mk #[61]).size = 1 from rfl, Int.natCast_add, Int.cast_ofNat_Int] at c34b0t))
                                      have c34b1 : decide (1048576 < ((((((x4_1 ++ t140) ++ (⟨#[32]⟩ : ByteArray)) ++ ((rd_T39 l0 x5_1).f0)) ++ (⟨#[61]⟩ : ByteArray)) ++ ((rd_T39 l0 x5_1).f1)) ++ (⟨#[10]⟩ : ByteArray)).size) = false := decide_eq_false (by omega)
                                      (try (have c34b1s := c34b1; simp only [ByteArray.size_append, show (ByteArray.mk #[10]).size = 1 from rfl, show (ByteArray.mk #[32]).size = 1 from rfl, show (ByteArray.mk #[61]).size = 1 from rfl] at c34b1s))
                                      (try (have c34b1t := c34b1; simp only [ByteArray.size_append, show (ByteArray.mk #[10]).size = 1 from rfl, show (ByteArray.mk #[32]).size = 1 from rfl, show (ByteArray.mk #[61]).size = 1 from rfl, Int.natCast_add, Int.cast_ofNat_Int] at c34b1t))
                                      clear c34
                                      have H' := Aside0.mk H
                                      clear H
                                      have hcz39_0 : wr.cell? ⟨gb138, 0, none⟩ = some (.string ((rd_T39 l0 x5_1).f0)) := (blk_cell BK138.out 0).trans rfl
                                      have hcz39_1 : wr.cell? ⟨gb138, 1, none⟩ = some (.string ((rd_T39 l0 x5_1).f1)) := (blk_cell BK138.out 1).trans rfl
                                      have hfz39_0 := blk_frozen BK138.out 0
                                      have hfz39_1 := blk_frozen BK138.out 1
                                      try go_wp2
                                      have n0_ := Aside0.mk (blk_drew BK138.out)
                                      have n1_ := Aside0.mk (below_drew1 HB.out)
                                      clear BK138
                                      clear HB
                                      have BK138 := n0_
                                      have HB := n1_
                                      clear n0_ n1_
                                      refine start_ (n := 15) (S := fun w' => w'.cell? ⟨gb138, 0, none⟩ = some (.string ((rd_T39 l0 x5_1).f0)) ∧ w'.cell? ⟨gb138, 1, none⟩ = some (.string ((rd_T39 l0 x5_1).f1))) (ds := []) #[false, false, false, false, false, false, false, false, false, false, false, false, false, false, false] (by kernel_rfl) rfl rfl ⟨(blk_cell BK138.out 0).trans rfl, (blk_cell BK138.out 1).trans rfl⟩ (fun hHeld => ?_); refine with_tabW stevedoreref23_PutRecords.tab15 stevedoreref23_PutRecords.bits15 (fun HT_ HW_ => ?_)
                                      generalize wr.drew = w40 at BK138 HB hHeld ⊢
                                      refine pure_ (i := 0) (N := some 62) (v := ?_) (a' := ?_) #[true, false, false, false, false, false, false, false, false, false, false, false, false, false, false] rfl rfl (any_of HT_.out (by kernel_rfl)) (fun _ _ _ h => h) (Or.inl ⟨by rfl, ?_⟩) ?_ ?_
                                      rotate_left
                                      · intro w'
                                        go_simp
                                        with_reducible rfl
                                      rotate_left
                                      · simp only [Act.put, List.setIfInBounds_toArray, List.set_cons_zero, List.set_cons_succ, i64_w, i32_w]
                                        rfl
                                      refine pure_ (i := 6) (N := some 68) (v := ?_) (a' := ?_) #[true, false, false, false, false, false, true, false, false, false, false, false, false, false, false] rfl rfl (any_of HT_.out (by kernel_rfl)) (fun _ _ _ h => h) (Or.inl ⟨by rfl, ?_⟩) ?_ ?_
                                      rotate_left
                                      · intro w'
                                        go_simp
                                        with_reducible rfl
                                      rotate_left
                                      · simp only [Act.put, List.setIfInBounds_toArray, List.set_cons_zero, List.set_cons_succ, i64_w, i32_w]
                                        rfl
                                      refine pure_ (i := 10) (N := some 72) (v := ?_) (a' := ?_) #[true, false, false, false, false, false, true, false, false, false, true, false, false, false, false] rfl rfl (any_of HT_.out (by kernel_rfl)) (fun _ _ _ h => h) (Or.inl ⟨by rfl, ?_⟩) ?_ ?_
                                      rotate_left
                                      · intro w'
                                        go_simp
                                        with_reducible rfl
                                      rotate_left
                                      · simp only [Act.put, List.setIfInBounds_toArray, List.set_cons_zero, List.set_cons_succ, i64_w, i32_w]
                                        rfl
                                      refine take_ (i := 1) (N := some 63) (v := ?_) (a' := ?_) #[true, true, false, false, false, false, true, false, false, false, true, false, false, false, false] rfl rfl (take_ofW HT_.out HW_.out (by kernel_rfl)) (fun _ _ _ h => h) (Or.inl ⟨by rfl, ?_⟩) hHeld ?_ ?_
                                      rotate_left
                                      · rintro w' ⟨s0, s1⟩
                                        go_simp
                                        with_reducible rfl
                                      rotate_left
                                      · simp only [Act.put, List.setIfInBounds_toArray, List.set_cons_zero, List.set_cons_succ, i64_w, i32_w]
                                        rfl
                                      refine take_ (i := 7) (N := some 69) (v := ?_) (a' := ?_) #[true, true, false, false, false, false, true, true, false, false, true, false, false, false, false] rfl rfl (take_ofW HT_.out HW_.out (by kernel_rfl)) (fun _ _ _ h => h) (Or.inl ⟨by rfl, ?_⟩) hHeld ?_ ?_
                                      rotate_left
                                      · rintro w' ⟨s0, s1⟩
                                        go_simp
                                        with_reducible rfl
                                      rotate_left
                                      · simp only [Act.put, List.setIfInBounds_toArray, List.set_cons_zero, List.set_cons_succ, i64_w, i32_w]
                                        rfl
                                      refine take_ (i := 11) (N := some 73) (v := ?_) (a' := ?_) #[true, true, false, false, false, false, true, true, false, false, true, true, false, false, false] rfl rfl (take_ofW HT_.out HW_.out (by kernel_rfl)) (fun _ _ _ h => h) (Or.inl ⟨by rfl, ?_⟩) hHeld ?_ ?_
                                      rotate_left
                                      · rintro w' ⟨s0, s1⟩
                                        go_simp
                                        with_reducible rfl
                                      rotate_left
                                      · simp only [Act.put, List.setIfInBounds_toArray, List.set_cons_zero, List.set_cons_succ, i64_w, i32_w]
                                        rfl
                                      refine one_ (i := 2) (N := some 64) #[true, true, true, false, false, false, true, true, false, false, true, true, false, false, false] rfl rfl (one_of HT_.out (by kernel_rfl)) (by decide) (fun K hK => ?_)
                                      refine goes_ Tryd.func17 (by kernel_rfl) rfl #[.agg #[.string ((rd_T39 l0 x5_1).f0), .string ((rd_T39 l0 x5_1).f1)]] (by rfl) rfl rfl (by (try simp only [List.map_toArray, List.map_cons, List.map_nil]); first | done | rfl | (simp only [List.length_drop, List.length_take]; rfl)) ?_
                                      with_reducible refine (stevedoreref23_Len.calls k3 ((rd_T39 l0 x5_1).f0) ((rd_T39 l0 x5_1).f1) t139 _ A26.out (Go.Proofs.YtfnicahlnpngkaaDoor.DoorCut.Vars.below HVARS.out (by repeat (first | (with_reducible first | exact HB.out | apply below_alloc | apply pw_below_drewN | apply below_drew1 | refine below_set ?_ (Aside0.out (by assumption))) | exact HB.out)))).mono ?_
                                      rintro e w41 ⟨rfl, hb⟩
                                      refine ⟨_, rfl, ?_⟩
                                      have n0_ := Aside0.mk (blk_below (g := gb138) (o := .cells #[.string ((rd_T39 l0 x5_1).f0), .string ((rd_T39 l0 x5_1).f1)] 39 (0, 0)) (by (with_reducible repeat (first | refine blk_drewN ?_ _ | refine blk_drew ?_ | refine blk_alloc ?_ _)); exact BK138.out) hb)
                                      have n1_ := Aside0.mk (below_step (by repeat (first | (with_reducible first | exact HB.out | apply below_alloc | apply pw_below_drewN | apply below_drew1 | refine below_set ?_ GE138.out) | exact HB.out)) hb)
                                      clear BK138
                                      clear HB
                                      have BK138 := n0_
                                      have HB := n1_
                                      clear n0_ n1_
                                      (try clear hb)
                                      (try clear hb2)
                                      (try clear hk)
                                      (try clear hi)
                                      refine hK.out _ _ ⟨(blk_cell BK138.out 0).trans rfl, (blk_cell BK138.out 1).trans rfl⟩ (fun hHeld => ?_)
                                      clear hK K
                                      refine norm_ (a' := ?_) ?_ ?_
                                      rotate_left
                                      · show Act.put _ (some 64) _ = _
                                        simp only [Act.put, List.setIfInBounds_toArray, List.set_cons_zero, List.set_cons_succ, i64_w, i32_w]
                                        rfl
                                      refine one_ (i := 3) (N := some 65) #[true, true, true, true, false, false, true, true, false, false, true, true, false, false, false] rfl rfl (one_of HT_.out (by kernel_rfl)) (by decide) (fun K hK => ?_)
                                      refine goes_ Tryd.func22 (by kernel_rfl) rfl #[.int .i64 t139] (by rfl) rfl rfl (by (try simp only [List.map_toArray, List.map_cons, List.map_nil]); first | done | rfl | (simp only [List.length_drop, List.length_take]; rfl)) ?_
                                      with_reducible refine (strconv_Itoa.calls t139 t140 _ A27.out (Go.Proofs.YtfnicahlnpngkaaDoor.DoorCut.Vars.below HVARS.out (by repeat (first | (with_reducible first | exact HB.out | apply below_alloc | apply pw_below_drewN | apply below_drew1 | refine below_set ?_ (Aside0.out (by assumption))) | exact HB.out)))).mono ?_
                                      rintro e w42 ⟨rfl, hb⟩
                                      refine ⟨_, rfl, ?_⟩
                                      have n0_ := Aside0.mk (blk_below (g := gb138) (o := .cells #[.string ((rd_T39 l0 x5_1).f0), .string ((rd_T39 l0 x5_1).f1)] 39 (0, 0)) (by (with_reducible repeat (first | refine blk_drewN ?_ _ | refine blk_drew ?_ | refine blk_alloc ?_ _)); exact BK138.out) hb)
                                      have n1_ := Aside0.mk (below_step (by repeat (first | (with_reducible first | exact HB.out | apply below_alloc | apply pw_below_drewN | apply below_drew1 | refine below_set ?_ GE138.out) | exact HB.out)) hb)
                                      clear BK138
                                      clear HB
                                      have BK138 := n0_
                                      have HB := n1_
                                      clear n0_ n1_
                                      (try clear hb)
                                      (try clear hb2)
                                      (try clear hk)
                                      (try clear hi)
                                      refine hK.out _ _ ⟨(blk_cell BK138.out 0).trans rfl, (blk_cell BK138.out 1).trans rfl⟩ (fun hHeld => ?_)
                                      clear hK K
                                      refine norm_ (a' := ?_) ?_ ?_
                                      rotate_left
                                      · show Act.put _ (some 65) _ = _
                                        simp only [Act.put, List.setIfInBounds_toArray, List.set_cons_zero, List.set_cons_succ, i64_w, i32_w]
                                        rfl
                                      refine pure_ (i := 4) (N := some 66) (v := ?_) (a' := ?_) #[true, true, true, true, true, false, true, true, false, false, true, true, false, false, false] rfl rfl (any_of HT_.out (by kernel_rfl)) (fun _ _ _ h => h) (Or.inl ⟨by rfl, ?_⟩) ?_ ?_
                                      rotate_left
                                      · intro w'
                                        go_simp
                                        with_reducible rfl
                                      rotate_left
                                      · simp only [Act.put, List.setIfInBounds_toArray, List.set_cons_zero, List.set_cons_succ, i64_w, i32_w]
                                        rfl
                                      refine pure_ (i := 5) (N := some 67) (v := ?_) (a' := ?_) #[true, true, true, true, true, true, true, true, false, false, true, true, false, false, false] rfl rfl (any_of HT_.out (by kernel_rfl)) (fun _ _ _ h => h) (Or.inl ⟨by rfl, ?_⟩) ?_ ?_
                                      rotate_left
                                      · intro w'
                                        go_simp
                                        with_reducible rfl
                                      rotate_left
                                      · simp only [Act.put, List.setIfInBounds_toArray, List.set_cons_zero, List.set_cons_succ, i64_w, i32_w]
                                        rfl
                                      refine pure_ (i := 8) (N := some 70) (v := ?_) (a' := ?_) #[true, true, true, true, true, true, true, true, true, false, true, true, false, false, false] rfl rfl (any_of HT_.out (by kernel_rfl)) (fun _ _ _ h => h) (Or.inl ⟨by rfl, ?_⟩) ?_ ?_
                                      rotate_left
                                      · intro w'
                                        go_simp
                                        with_reducible rfl
                                      rotate_left
                                      · simp only [Act.put, List.setIfInBounds_toArray, List.set_cons_zero, List.set_cons_succ, i64_w, i32_w]
                                        rfl
                                      refine pure_ (i := 9) (N := some 71) (v := ?_) (a' := ?_) #[true, true, true, true, true, true, true, true, true, true, true, true, false, false, false] rfl rfl (any_of HT_.out (by kernel_rfl)) (fun _ _ _ h => h) (Or.inl ⟨by rfl, ?_⟩) ?_ ?_
                                      rotate_left
                                      · intro w'
                                        go_simp
                                        with_reducible rfl
                                      rotate_left
                                      · simp only [Act.put, List.setIfInBounds_toArray, List.set_cons_zero, List.set_cons_succ, i64_w, i32_w]
                                        rfl
                                      refine pure_ (i := 12) (N := some 74) (v := ?_) (a' := ?_) #[true, true, true, true, true, true, true, true, true, true, true, true, true, false, false] rfl rfl (any_of HT_.out (by kernel_rfl)) (fun _ _ _ h => h) (Or.inl ⟨by rfl, ?_⟩) ?_ ?_
                                      rotate_left
                                      · intro w'
                                        go_simp
                                        with_reducible rfl
                                      rotate_left
                                      · simp only [Act.put, List.setIfInBounds_toArray, List.set_cons_zero, List.set_cons_succ, i64_w, i32_w]
                                        rfl
                                      refine pure_ (i := 13) (N := some 75) (v := ?_) (a' := ?_) #[true, true, true, true, true, true, true, true, true, true, true, true, true, true, false] rfl rfl (any_of HT_.out (by kernel_rfl)) (fun _ _ _ h => h) (Or.inl ⟨by rfl, ?_⟩) ?_ ?_
                                      rotate_left
                                      · intro w'
                                        go_simp
                                        with_reducible rfl
                                      rotate_left
                                      · simp only [Act.put, List.setIfInBounds_toArray, List.set_cons_zero, List.set_cons_succ, i64_w, i32_w]
                                        rfl
                                      refine pure_ (i := 14) (N := some 4) (v := ?_) (a' := ?_) #[true, true, true, true, true, true, true, true, true, true, true, true, true, true, true] rfl rfl (any_of HT_.out (by kernel_rfl)) (fun _ _ _ h => h) (Or.inl ⟨by rfl, ?_⟩) ?_ ?_
                                      rotate_left
                                      · intro w'
                                        go_simp
                                        with_reducible rfl
                                      rotate_left
                                      · simp only [Act.put, List.setIfInBounds_toArray, List.set_cons_zero, List.set_cons_succ, i64_w, i32_w]
                                        rfl
                                      refine done_ (done_of HT_.out (by kernel_rfl)) ?_
                                      try go_wp2
                                      go_roundg k3
                                      case measure => have := HK1.out; have := HJ4.out; have := HK3.out; omega
                                      case rel => exact ⟨((((((x4_1 ++ t140) ++ (⟨#[32]⟩ : ByteArray)) ++ ((rd_T39 l0 x5_1).f0)) ++ (⟨#[61]⟩ : ByteArray)) ++ ((rd_T39 l0 x5_1).f1)) ++ (⟨#[10]⟩ : ByteArray)), (wrap64 (x5_1 + 1)), (by first | rfl | (simp; done) | (simp [*]; done)), (by first | rfl | (simp; done) | (simp [*]; done)), H', ⟨by have := HK1.out; have := HJ4.out; have := HK3.out; omega⟩, ⟨by repeat (first | (with_reducible first | exact HB.out | apply below_alloc | apply pw_below_drewN | apply below_drew1 | refine below_set ?_ GE138.out) | exact HB.out)⟩⟩
                                  · rw [if_neg c33] at H
                                    exact absurd H (by simp)
                                · rw [if_neg c32] at H
                                  exact absurd H (by simp)
                              · rw [if_neg c31] at H
                                exact absurd H (by simp)
                            · rw [if_neg c30] at H
                              exact absurd H (by simp)
                          · rw [if_neg c29] at H
                            exact absurd H (by simp)
                        · rw [if_neg c28] at H
                          exact absurd H (by simp)
          · rw [if_neg c4] at H
            exact absurd H (by simp)
        · rw [if_neg c3] at H
          have c3b0 : decide (x5_1 < (l0.length : Int)) = false := decide_eq_false c3
          clear c3
          simp only [Option.some.injEq, Prod.mk.injEq] at H
          obtain ⟨rfl, rfl⟩ := H
          go_wp2
          go_ret2
          exact ⟨by first | rfl | (simp only [show ∀ l : List UInt8, (l != []) = (!l.isEmpty) from fun l => by cases l <;> rfl]; rfl) | (simp [errW_none, errW_some] <;> rfl) | (simp [*, errW_none, errW_some] <;> rfl), by repeat (first | (with_reducible first | exact HB.out | apply below_alloc | apply pw_below_drewN | apply below_drew1) | exact HB.out)⟩

end Go.Proofs.YtfnicahlnpngkaaDoor.PPaxPuts

-- Written by this repo's gprint.py over the kit's printer, out of the translation. Not trusted: Lean checks it.
import Derived.Test.YtfnicahlnpngkaaDoorPPaxPutsx0
import Derived.Test.YtfnicahlnpngkaaDoorPPaxPutsx1
import Derived.Test.YtfnicahlnpngkaaDoorPPaxPutsx2
import Derived.Test.YtfnicahlnpngkaaDoorDoorPutOfPaxPuts
import Derived.Test.YtfnicahlnpngkaaDoorPaxMergeOfPaxPuts
namespace Go.Proofs.YtfnicahlnpngkaaDoor.PPaxPuts
open Go.RowKit Go.Proofs.YtfnicahlnpngkaaDoorW.PrintWords Go.Proofs.YtfnicahlnpngkaaDoorW.PrintLast Go.Proofs.YtfnicahlnpngkaaDoorW.PrintMore
attribute [local go_sem] max2_int min2_int max_two min_two max_three min_three max_four min_four   -- for this text's walks alone
open Go.Proofs.YtfnicahlnpngkaaDoor.DoorCut Go.Proofs.YtfnicahlnpngkaaDoor.DoorLen Go.Proofs.YtfnicahlnpngkaaDoor.DoorPutOfPaxPuts Go.Proofs.YtfnicahlnpngkaaDoor.PaxMergeOfPaxPuts
set_option linter.unusedVariables false
set_option linter.unusedSimpArgs false

attribute [local go_sem high] eqA39
/-! ### pax_Read: function 11 -/
def pax_Read.l0 : Nat → ByteArray → List (S39) → Option ((List (S39)) × Int)
  | 0, _, _ => none
  | k + 1, x0, x4 => if x0.toList = ([] : List UInt8) then (some (x4, 0)) else ((pax_one.f k x0).bind fun bt112 => (if bt112.2.2.2 = true then (if x4.length < 4398046511104 then (pax_Read.l0 k bt112.2.2.1 (x4 ++ [(⟨bt112.1, bt112.2.1⟩ : S39)])) else (none)) else (some (([] : List (S39)), 2))))
def pax_Read.f (k : Nat) (a0 : ByteArray) : Option ((List (S39)) × Int) := pax_Read.l0 k a0 ([] : List (S39))
theorem pax_Read.mono_l : ∀ k, (∀ y0 y1, LeO (pax_Read.l0 k y0 y1) (pax_Read.l0 (k + 1) y0 y1))
  | 0 => fun _ _ r h => by simp [pax_Read.l0] at h
  | k + 1 => by
    have ih0 := pax_Read.mono_l k
    · intro y0 y1
      unfold pax_Read.l0
      repeat' first
      | (with_reducible exact ih0 _ _)
      | (with_reducible exact pax_one.mono _ _)
      | (with_reducible exact LeO.refl _)
      | (with_reducible exact LeO.none _)
      | (with_reducible refine LeO.ite ?_ ?_)
      | (with_reducible refine LeO.bind ?_ (fun _ => ?_))
      | exact ih0 _ _
      | exact pax_one.mono _ _
      | exact LeO.none _
      | refine LeO.ite ?_ ?_
      | refine LeO.bind ?_ (fun _ => ?_)
theorem pax_Read.mono : ∀ a0 k, LeO (pax_Read.f k a0) (pax_Read.f (k + 1) a0) := by
  intro a0 k
  have ih0 := pax_Read.mono_l k
  unfold pax_Read.f
  repeat' first
      | (with_reducible exact ih0 _ _)
      | (with_reducible exact pax_one.mono _ _)
      | (with_reducible exact LeO.refl _)
      | (with_reducible exact LeO.none _)
      | (with_reducible refine LeO.ite ?_ ?_)
      | (with_reducible refine LeO.bind ?_ (fun _ => ?_))
      | exact ih0 _ _
      | exact pax_one.mono _ _
      | exact LeO.none _
      | refine LeO.ite ?_ ?_
      | refine LeO.bind ?_ (fun _ => ?_)
set_option maxHeartbeats 8000000 in
set_option maxRecDepth 100000 in
theorem pax_Read.calls (k : Nat) (a0 : ByteArray) (r1 : List (S39)) (r2 : Int) (w : World) (h : pax_Read.f k a0 = some (r1, r2)) :
    Calls Tryd.prog 11 #[.string a0] w fun e w' => ∃ v0_ : Value, e = .returned (.tuple #[v0_, .int .i64 r2]) ∧ Kd.R k39 39 w' w.heap.size (fun _ => True) v0_ r1 ∧ Below w.heap.size w w' := by
  have hu39 := Tryd.underlying39
  have HB := Aside0.mk (Below.refl w.heap.size w)
  have H : (pax_Read.l0 k a0 ([] : List (S39))) = some (r1, r2) := h
  clear h
  have H' := Aside0.mk H
  clear H
  go_enter Tryd.func11, Tryd.ntmps11
  go_wp2
  go_loopg [0, 4] k (fun kq v0 v4 w' => ∃ (x0_1 : ByteArray) (x4_1 : List (S39)), v0 = .string x0_1 ∧ Aside0 (pax_Read.l0 kq x0_1 x4_1 = some (r1, r2)) ∧ Aside0 (kq ≤ k) ∧ Aside0 (Kd.R k39 39 w' w.heap.size (fun _ => True) v4 x4_1) ∧ Aside0 (Below w.heap.size w w'))
  case atStart => exact ⟨(a0), (([] : List (S39))), (by first | rfl | (simp; done) | (simp [*]; done)), H', ⟨Nat.le_refl _⟩, ⟨by first | exact Kd.R_nil _ _ _ _ _ | exact Kd.N_nil _ _ _ _ _ | exact Kd.V_nil _ _ _ _ _ | exact Kd.Q_nil _ _ _ _ _ | exact Kd.S_nil _ _ _ _ _⟩, ⟨by repeat (first | (with_reducible first | exact HB.out | apply below_alloc | apply pw_below_drewN | apply below_drew1) | exact HB.out)⟩⟩
  case round =>
    clear H'
    try clear c1
    obtain ⟨x0_1, x4_1, rfl, HA, HK1, HO_4, HB⟩ := hrel
    cases gk with
    | zero => exact absurd HA.out (by simp [pax_Read.l0])
    | succ k1 =>
      have H := HA.out
      clear HA
      simp only [pax_Read.l0] at H
      by_cases c2 : x0_1.toList = ([] : List UInt8)
      · rw [if_pos c2] at H
        have c2b0 : (x0_1.toList == ([] : List UInt8)) = true := beq_iff_eq.mpr c2
        have c2b1 : (x0_1.toList != ([] : List UInt8)) = false := bne_eq_false_iff_eq.mpr c2
        clear c2
        simp only [Option.some.injEq, Prod.mk.injEq] at H
        obtain ⟨rfl, rfl⟩ := H
        go_wp2
        go_ret2
        exact ⟨_, by first | rfl | (simp [errW_none, errW_some] <;> rfl) | (simp [*, errW_none, errW_some] <;> rfl), by (with_reducible repeat (first | apply Kd.R_alloc | apply Kd.R_drewN | apply Kd.R_drew)); exact HO_4.out, by repeat (first | (with_reducible first | exact HB.out | apply below_alloc | apply pw_below_drewN | apply below_drew1) | exact HB.out)⟩
      · rw [if_neg c2] at H
        have c2b0 : (x0_1.toList == ([] : List UInt8)) = false := beq_eq_false_iff_ne.mpr c2
        have c2b1 : (x0_1.toList != ([] : List UInt8)) = true := bne_iff_ne.mpr c2
        replace H := Option.bind_eq_some_iff.mp H
        obtain ⟨⟨t112, t113, t114, t115⟩, A30, H⟩ := H
        replace H : (if t115 = true then (if x4_1.length < 4398046511104 then (pax_Read.l0 k1 t114 (x4_1 ++ [(⟨t112, t113⟩ : S39)])) else (none)) else (some (([] : List (S39)), 2))) = some (r1, r2) := H
        have A3 := Aside0.mk A30
        clear A30
        by_cases c4 : t115 = true
        · subst c4
          have H1 : (if x4_1.length < 4398046511104 then (pax_Read.l0 k1 t114 (x4_1 ++ [(⟨t112, t113⟩ : S39)])) else (none)) = some (r1, r2) := by rw [if_pos rfl] at H; exact H
          clear H
          have H := H1
          clear H1
          by_cases c5 : x4_1.length < 4398046511104
          · rw [if_pos c5] at H
            have LMc5 := Aside0.mk c5
            clear c5
            obtain ⟨y117, hy117⟩ : ∃ y_ : List (S39), y_ = (x4_1 ++ [(⟨t112, t113⟩ : S39)]) := ⟨_, rfl⟩
            replace H : (pax_Read.l0 k1 t114 y117) = some (r1, r2) := by first | (rw [hy117]; with_reducible exact H) | (have H2_ := (Option.bind_some _ _).symm.trans H; rw [hy117]; with_reducible exact H2_) | (have H2_ := (Option.bind_some _ _).symm.trans H; with_reducible exact H2_) | with_reducible exact H | (rw [hy117]; exact H) | exact H
            have Ny117 := Aside0.mk hy117
            clear hy117
            have H' := Aside0.mk H
            clear H
            go_wp2_with (first | ((with_reducible refine gate_callee (f := 23) rfl ?_); refine goesL_ (some 12) rfl rfl Tryd.func23 (by kernel_rfl) rfl #[.string x0_1] rfl (by (try simp only [List.map_toArray, List.map_cons, List.map_nil]); first | done | rfl | (simp only [List.length_drop, List.length_take]; rfl)) ?_; (with_reducible refine (pax_one.calls k1 x0_1 t112 t113 t114 true _ A3.out).mono ?_); rintro e w6 ⟨rfl, hb⟩; refine ⟨_, rfl, ?_⟩; have n0_ := Aside0.mk (Kd.R_below (by (with_reducible repeat (first | apply Kd.R_alloc | apply Kd.R_drewN | apply Kd.R_drew)); exact HO_4.out) hb); have n1_ := Aside0.mk (below_step (by repeat (first | (with_reducible first | exact HB.out | apply below_alloc | apply pw_below_drewN | apply below_drew1) | exact HB.out)) hb); clear HO_4; clear HB; have HO_4 := n0_; have HB := n1_; clear n0_ n1_; (try clear hb); (try clear hb2); (try clear hk); (try clear hi)) | ((with_reducible refine gate_dst (N := 5) rfl ?_); refine box_event ?hg (N := 5) ?hd (cs := #[.string (⟨#[]⟩ : ByteArray), .string (⟨#[]⟩ : ByteArray)]) (t := 39) ?hr ?_; (case hd => rfl); (case hg => rfl); (case hr => first | (go_simp; done) | (go_simp; rfl)); intro gb116 hg w7 hbox hb; have n0_ := Aside0.mk (Kd.R_below (Kd.R_elderB (by (with_reducible repeat (first | apply Kd.R_alloc | apply Kd.R_drewN | apply Kd.R_drew)); exact HO_4.out) gb116 (Nat.le_of_eq hg.symm)) hb); have n1_ := Aside0.mk (below_step (by repeat (first | (with_reducible first | exact HB.out | apply below_alloc | apply pw_below_drewN | apply below_drew1) | exact HB.out)) hb); have n2_ := Aside0.mk (hbox); have n3_ := Aside0.mk ((by rw [hg]; exact (below_size (by repeat (first | (with_reducible first | exact HB.out | apply below_alloc | apply pw_below_drewN | apply below_drew1) | exact HB.out))) : w.heap.size ≤ gb116)); have n4_ := Aside0.mk ((by rw [hg]; exact (below_size (by repeat (first | (with_reducible first | exact HB.out | apply below_alloc | apply pw_below_drewN | apply below_drew1) | exact HB.out))) : w.heap.size ≤ gb116)); clear HO_4; clear HB; have HO_4 := n0_; have HB := n1_; have BK116 := n2_; have GW116 := n3_; have GE116 := n4_; clear n0_ n1_ n2_ n3_ n4_; clear hb hbox hg; have hcz8_0 : w7.cell? ⟨gb116, 0, none⟩ = some (.string (⟨#[]⟩ : ByteArray)) := (blk_cell BK116.out 0).trans rfl; have hcz8_1 : w7.cell? ⟨gb116, 1, none⟩ = some (.string (⟨#[]⟩ : ByteArray)) := (blk_cell BK116.out 1).trans rfl; have hfz8_0 := blk_frozen BK116.out 0; have hfz8_1 := blk_frozen BK116.out 1) | ((with_reducible refine gate_builtin (b := .append) (xs := #[.tmp 18, .tmp 20]) rfl ?_); at_builtin; refine Kd.R_append k39 (w0 := w) w.heap.size rfl (.tmp 18) (.tmp 20) 22 39 (.agg #[(.string ⟨#[]⟩), (.string ⟨#[]⟩)]) 32 rfl Tryd.underlying22 info39 rfl (by decide) (by omega) u4 x4_1 (⟨t112, t113⟩ : S39) [.string t112, .string t113] (fun k_ => k_ ≠ gb116) (fun _ => False) rfl (by first | (go_simp; done) | (go_simp; rfl)) ?aP (fun _ hk => hk.elim) ?aF ?aO ?aB ?aS ?aL ?_; (case aP => exact k39_mkM _ _ _ (⟨t112, t113⟩ : S39)); (case aB => exact (by repeat (first | (with_reducible first | exact HB.out | apply below_alloc | apply pw_below_drewN | apply below_drew1 | refine below_set ?_ GE116.out) | exact HB.out))); (case aF => exact (fun k_ hk => Kd.freshB (g := gb116) (o := .cells #[.string t112, .string t113] 39 (0, 0)) (by (with_reducible repeat (first | refine blk_drewN ?_ _ | refine blk_drew ?_ | refine blk_alloc ?_ _)); refine blk_put (cs := #[.string t112, .string (⟨#[]⟩ : ByteArray)]) ?_ 1 _ rfl; (with_reducible repeat (first | refine blk_drewN ?_ _ | refine blk_drew ?_ | refine blk_alloc ?_ _)); refine blk_put (cs := #[.string (⟨#[]⟩ : ByteArray), .string (⟨#[]⟩ : ByteArray)]) ?_ 0 _ rfl; (with_reducible repeat (first | refine blk_drewN ?_ _ | refine blk_drew ?_ | refine blk_alloc ?_ _)); exact BK116.out) k_ hk)); (case aO => exact (by (with_reducible repeat (first | apply Kd.R_alloc | apply Kd.R_drewN | apply Kd.R_drew)); exact Kd.R_mono (Kd.R_far (p := ⟨gb116, 1, none⟩) (Kd.R_far (p := ⟨gb116, 0, none⟩) (Kd.R_mono HO_4.out (fun k_ hk => (⟨hk, hk.2⟩ : _ ∧ k_ ≠ gb116))) (fun _ hk => hk.2) (.string t112)) (fun _ hk => hk.2) (.string t113)) (fun _ hk => hk.1.2))); (case aS => exact (below_size (by repeat (first | (with_reducible first | exact HB.out | apply below_alloc | apply pw_below_drewN | apply below_drew1 | refine below_set ?_ GE116.out) | exact HB.out)))); (case aL => have := LMc5.out; omega); intro v118 w9 ho hb hg hat; rw [← Ny117.out] at ho; have n0_ := Aside0.mk (blk_grown (g := gb116) (o := .cells #[.string t112, .string t113] 39 (0, 0)) (by (with_reducible repeat (first | refine blk_drewN ?_ _ | refine blk_drew ?_ | refine blk_alloc ?_ _)); refine blk_put (cs := #[.string t112, .string (⟨#[]⟩ : ByteArray)]) ?_ 1 _ rfl; (with_reducible repeat (first | refine blk_drewN ?_ _ | refine blk_drew ?_ | refine blk_alloc ?_ _)); refine blk_put (cs := #[.string (⟨#[]⟩ : ByteArray), .string (⟨#[]⟩ : ByteArray)]) ?_ 0 _ rfl; (with_reducible repeat (first | refine blk_drewN ?_ _ | refine blk_drew ?_ | refine blk_alloc ?_ _)); exact BK116.out) hg (Kd.R_away HO_4.out (fun _ hk => hk.2))); have n1_ := Aside0.mk (hb); have n2_ := Aside0.mk (ho); clear BK116; clear HB; clear HO_4; have BK116 := n0_; have HB := n1_; have HO119 := n2_; clear n0_ n1_ n2_; clear ho hb hg hat))
            go_roundg k1
            case measure => have := HK1.out; omega
            case rel => exact ⟨(t114), (y117), (by first | rfl | (simp; done) | (simp [*]; done)), H', ⟨by have := HK1.out; omega⟩, ⟨by (with_reducible repeat (first | apply Kd.R_alloc | apply Kd.R_drewN | apply Kd.R_drew)); exact Kd.R_mono HO119.out (fun _ hk => trivial)⟩, ⟨by repeat (first | (with_reducible first | exact HB.out | apply below_alloc | apply pw_below_drewN | apply below_drew1 | refine below_set ?_ GE116.out) | exact HB.out)⟩⟩
          · rw [if_neg c5] at H
            exact absurd H (by simp)
        · replace c4 := Bool.eq_false_iff.mpr c4
          subst c4
          have H1 : (some (([] : List (S39)), 2)) = some (r1, r2) := by rw [if_neg (show ¬ (false = true) by decide)] at H; exact H
          clear H
          have H := H1
          clear H1
          simp only [Option.some.injEq, Prod.mk.injEq] at H
          obtain ⟨rfl, rfl⟩ := H
          go_wp2_with (first | ((with_reducible refine gate_callee (f := 23) rfl ?_); refine goesL_ (some 12) rfl rfl Tryd.func23 (by kernel_rfl) rfl #[.string x0_1] rfl (by (try simp only [List.map_toArray, List.map_cons, List.map_nil]); first | done | rfl | (simp only [List.length_drop, List.length_take]; rfl)) ?_; (with_reducible refine (pax_one.calls k1 x0_1 t112 t113 t114 false _ A3.out).mono ?_); rintro e w10 ⟨rfl, hb⟩; refine ⟨_, rfl, ?_⟩; have n0_ := Aside0.mk (Kd.R_below (by (with_reducible repeat (first | apply Kd.R_alloc | apply Kd.R_drewN | apply Kd.R_drew)); exact HO_4.out) hb); have n1_ := Aside0.mk (below_step (by repeat (first | (with_reducible first | exact HB.out | apply below_alloc | apply pw_below_drewN | apply below_drew1) | exact HB.out)) hb); clear HO_4; clear HB; have HO_4 := n0_; have HB := n1_; clear n0_ n1_; (try clear hb); (try clear hb2); (try clear hk); (try clear hi)) | ((with_reducible refine gate_dst (N := 5) rfl ?_); refine box_event ?hg (N := 5) ?hd (cs := #[.string (⟨#[]⟩ : ByteArray), .string (⟨#[]⟩ : ByteArray)]) (t := 39) ?hr ?_; (case hd => rfl); (case hg => rfl); (case hr => first | (go_simp; done) | (go_simp; rfl)); intro gb116 hg w11 hbox hb; have n0_ := Aside0.mk (Kd.R_below (Kd.R_elderB (by (with_reducible repeat (first | apply Kd.R_alloc | apply Kd.R_drewN | apply Kd.R_drew)); exact HO_4.out) gb116 (Nat.le_of_eq hg.symm)) hb); have n1_ := Aside0.mk (below_step (by repeat (first | (with_reducible first | exact HB.out | apply below_alloc | apply pw_below_drewN | apply below_drew1) | exact HB.out)) hb); have n2_ := Aside0.mk (hbox); have n3_ := Aside0.mk ((by rw [hg]; exact (below_size (by repeat (first | (with_reducible first | exact HB.out | apply below_alloc | apply pw_below_drewN | apply below_drew1) | exact HB.out))) : w.heap.size ≤ gb116)); have n4_ := Aside0.mk ((by rw [hg]; exact (below_size (by repeat (first | (with_reducible first | exact HB.out | apply below_alloc | apply pw_below_drewN | apply below_drew1) | exact HB.out))) : w.heap.size ≤ gb116)); clear HO_4; clear HB; have HO_4 := n0_; have HB := n1_; have BK116 := n2_; have GW116 := n3_; have GE116 := n4_; clear n0_ n1_ n2_ n3_ n4_; clear hb hbox hg; have hcz12_0 : w11.cell? ⟨gb116, 0, none⟩ = some (.string (⟨#[]⟩ : ByteArray)) := (blk_cell BK116.out 0).trans rfl; have hcz12_1 : w11.cell? ⟨gb116, 1, none⟩ = some (.string (⟨#[]⟩ : ByteArray)) := (blk_cell BK116.out 1).trans rfl; have hfz12_0 := blk_frozen BK116.out 0; have hfz12_1 := blk_frozen BK116.out 1))
          go_ret2
          exact ⟨_, by first | rfl | (simp [errW_none, errW_some] <;> rfl) | (simp [*, errW_none, errW_some] <;> rfl), by first | exact Kd.R_nil _ _ _ _ _ | exact Kd.N_nil _ _ _ _ _ | exact Kd.V_nil _ _ _ _ _ | exact Kd.Q_nil _ _ _ _ _ | exact Kd.S_nil _ _ _ _ _, by repeat (first | (with_reducible first | exact HB.out | apply below_alloc | apply pw_below_drewN | apply below_drew1 | refine below_set ?_ GE116.out) | exact HB.out)⟩

-- function 14 (pax_Put): by hand

-- function 15 (pax_Len): by hand

/-! ### stevedorelaw24_told: function 9 -/
def stevedorelaw24_told.f (k : Nat)  : Option (Bool) := (pax_Put.f (([(⟨(⟨#[112, 97, 116, 104]⟩ : ByteArray), (⟨#[97]⟩ : ByteArray)⟩ : S39)] : List (S39)))).bind fun bt123 => ((pax_Read.f k (⟨#[57, 32, 112, 97, 116, 104, 61, 97, 10, 54, 32, 98, 61, 99, 10]⟩ : ByteArray)).bind fun bt125 => ((pax_Read.f k (⟨#[56, 32, 112, 97, 116, 104, 61, 97, 10]⟩ : ByteArray)).bind fun bt129 => (if bt123.1.toList = ([57, 32, 112, 97, 116, 104, 61, 97, 10] : List UInt8) then (if bt123.2 = 0 then (if (bt125.1.length : Int) = 2 then (if 1 < (bt125.1.length : Int) then (if ((((rd_T39 bt125.1 1).f0).toList) == ([98] : List UInt8) && ((((rd_T39 bt125.1 1).f1).toList) == ([99] : List UInt8))) = true then (if bt125.2 = 0 then (if bt129.2 = 2 then ((pax_Len.f (⟨#[112, 97, 116, 104]⟩ : ByteArray) (⟨#[97]⟩ : ByteArray)).bind fun t134 => (some (t134 == 9))) else (some false)) else (some false)) else (some false)) else (none)) else (some false)) else (some false)) else (some false))))
theorem stevedorelaw24_told.mono : ∀ k, LeO (stevedorelaw24_told.f k ) (stevedorelaw24_told.f (k + 1) ) := by
  intro  k
  unfold stevedorelaw24_told.f
  repeat' first
      | (with_reducible exact pax_Read.mono _ _)
      | (with_reducible exact LeO.refl _)
      | (with_reducible exact LeO.none _)
      | (with_reducible refine LeO.ite ?_ ?_)
      | (with_reducible refine LeO.bind ?_ (fun _ => ?_))
      | exact pax_Read.mono _ _
      | exact LeO.none _
      | refine LeO.ite ?_ ?_
      | refine LeO.bind ?_ (fun _ => ?_)
theorem stevedorelaw24_told.true_ (k : Nat) (r : Bool) (h : stevedorelaw24_told.f k = some r) : r = true :=
  (Option.some.inj ((at_rounds (g := fun k => stevedorelaw24_told.f k) (fun k => stevedorelaw24_told.mono k) (Nat.le_add_left 100 k) (show stevedorelaw24_told.f 100 = some true by decide +kernel)).symm.trans (at_rounds (g := fun k => stevedorelaw24_told.f k) (fun k => stevedorelaw24_told.mono k) (Nat.le_add_right k 100) h))).symm
set_option maxHeartbeats 8000000 in
set_option maxRecDepth 100000 in
theorem stevedorelaw24_told.calls (k : Nat)  (r : Bool) (w : World) (h : stevedorelaw24_told.f k  = some r) (hv : Go.Proofs.YtfnicahlnpngkaaDoor.DoorCut.Vars w) :
    Calls Tryd.prog 9 #[] w fun e w' => e = .returned (.bool r) ∧ Below w.heap.size w w' := by
  have HVARS := Aside0.mk hv
  have htrue := stevedorelaw24_told.true_ k r h
  have hu39 := Tryd.underlying39
  have HB := Aside0.mk (Below.refl w.heap.size w)
  have H : ((pax_Put.f (([(⟨(⟨#[112, 97, 116, 104]⟩ : ByteArray), (⟨#[97]⟩ : ByteArray)⟩ : S39)] : List (S39)))).bind fun bt123 => ((pax_Read.f k (⟨#[57, 32, 112, 97, 116, 104, 61, 97, 10, 54, 32, 98, 61, 99, 10]⟩ : ByteArray)).bind fun bt125 => ((pax_Read.f k (⟨#[56, 32, 112, 97, 116, 104, 61, 97, 10]⟩ : ByteArray)).bind fun bt129 => (if bt123.1.toList = ([57, 32, 112, 97, 116, 104, 61, 97, 10] : List UInt8) then (if bt123.2 = 0 then (if (bt125.1.length : Int) = 2 then (if 1 < (bt125.1.length : Int) then (if ((((rd_T39 bt125.1 1).f0).toList) == ([98] : List UInt8) && ((((rd_T39 bt125.1 1).f1).toList) == ([99] : List UInt8))) = true then (if bt125.2 = 0 then (if bt129.2 = 2 then ((pax_Len.f (⟨#[112, 97, 116, 104]⟩ : ByteArray) (⟨#[97]⟩ : ByteArray)).bind fun t134 => (some (t134 == 9))) else (some false)) else (some false)) else (some false)) else (none)) else (some false)) else (some false)) else (some false))))) = some r := h
  clear h
  obtain ⟨y120, hy120⟩ : ∃ y_ : List (S39), y_ = (([(⟨(⟨#[112, 97, 116, 104]⟩ : ByteArray), (⟨#[97]⟩ : ByteArray)⟩ : S39)] : List (S39))) := ⟨_, rfl⟩
  replace H : ((pax_Put.f y120).bind fun bt123 => ((pax_Read.f k (⟨#[57, 32, 112, 97, 116, 104, 61, 97, 10, 54, 32, 98, 61, 99, 10]⟩ : ByteArray)).bind fun bt125 => ((pax_Read.f k (⟨#[56, 32, 112, 97, 116, 104, 61, 97, 10]⟩ : ByteArray)).bind fun bt129 => (if bt123.1.toList = ([57, 32, 112, 97, 116, 104, 61, 97, 10] : List UInt8) then (if bt123.2 = 0 then (if (bt125.1.length : Int) = 2 then (if 1 < (bt125.1.length : Int) then (if ((((rd_T39 bt125.1 1).f0).toList) == ([98] : List UInt8) && ((((rd_T39 bt125.1 1).f1).toList) == ([99] : List UInt8))) = true then (if bt125.2 = 0 then (if bt129.2 = 2 then ((pax_Len.f (⟨#[112, 97, 116, 104]⟩ : ByteArray) (⟨#[97]⟩ : ByteArray)).bind fun t134 => (some (t134 == 9))) else (some false)) else (some false)) else (some false)) else (none)) else (some false)) else (some false)) else (some false))))) = some r := by first | (rw [hy120]; with_reducible exact H) | (have H2_ := (Option.bind_some _ _).symm.trans H; rw [hy120]; with_reducible exact H2_) | (have H2_ := (Option.bind_some _ _).symm.trans H; with_reducible exact H2_) | with_reducible exact H | (rw [hy120]; exact H) | exact H
  have Ny120 := Aside0.mk hy120
  clear hy120
  replace H := Option.bind_eq_some_iff.mp H
  obtain ⟨⟨t123, t124⟩, A10, H⟩ := H
  replace H : ((pax_Read.f k (⟨#[57, 32, 112, 97, 116, 104, 61, 97, 10, 54, 32, 98, 61, 99, 10]⟩ : ByteArray)).bind fun bt125 => ((pax_Read.f k (⟨#[56, 32, 112, 97, 116, 104, 61, 97, 10]⟩ : ByteArray)).bind fun bt129 => (if t123.toList = ([57, 32, 112, 97, 116, 104, 61, 97, 10] : List UInt8) then (if t124 = 0 then (if (bt125.1.length : Int) = 2 then (if 1 < (bt125.1.length : Int) then (if ((((rd_T39 bt125.1 1).f0).toList) == ([98] : List UInt8) && ((((rd_T39 bt125.1 1).f1).toList) == ([99] : List UInt8))) = true then (if bt125.2 = 0 then (if bt129.2 = 2 then ((pax_Len.f (⟨#[112, 97, 116, 104]⟩ : ByteArray) (⟨#[97]⟩ : ByteArray)).bind fun t134 => (some (t134 == 9))) else (some false)) else (some false)) else (some false)) else (none)) else (some false)) else (some false)) else (some false)))) = some r := H
  have A1 := Aside0.mk A10
  clear A10
  replace H := Option.bind_eq_some_iff.mp H
  obtain ⟨⟨t125, t126⟩, A20, H⟩ := H
  replace H : ((pax_Read.f k (⟨#[56, 32, 112, 97, 116, 104, 61, 97, 10]⟩ : ByteArray)).bind fun bt129 => (if t123.toList = ([57, 32, 112, 97, 116, 104, 61, 97, 10] : List UInt8) then (if t124 = 0 then (if (t125.length : Int) = 2 then (if 1 < (t125.length : Int) then (if ((((rd_T39 t125 1).f0).toList) == ([98] : List UInt8) && ((((rd_T39 t125 1).f1).toList) == ([99] : List UInt8))) = true then (if t126 = 0 then (if bt129.2 = 2 then ((pax_Len.f (⟨#[112, 97, 116, 104]⟩ : ByteArray) (⟨#[97]⟩ : ByteArray)).bind fun t134 => (some (t134 == 9))) else (some false)) else (some false)) else (some false)) else (none)) else (some false)) else (some false)) else (some false))) = some r := H
  have A2 := Aside0.mk A20
  clear A20
  replace H := Option.bind_eq_some_iff.mp H
  obtain ⟨⟨t129, t130⟩, A30, H⟩ := H
  replace H : (if t123.toList = ([57, 32, 112, 97, 116, 104, 61, 97, 10] : List UInt8) then (if t124 = 0 then (if (t125.length : Int) = 2 then (if 1 < (t125.length : Int) then (if ((((rd_T39 t125 1).f0).toList) == ([98] : List UInt8) && ((((rd_T39 t125 1).f1).toList) == ([99] : List UInt8))) = true then (if t126 = 0 then (if t130 = 2 then ((pax_Len.f (⟨#[112, 97, 116, 104]⟩ : ByteArray) (⟨#[97]⟩ : ByteArray)).bind fun t134 => (some (t134 == 9))) else (some false)) else (some false)) else (some false)) else (none)) else (some false)) else (some false)) else (some false)) = some r := H
  have A3 := Aside0.mk A30
  clear A30
  by_cases c4 : t123.toList = ([57, 32, 112, 97, 116, 104, 61, 97, 10] : List UInt8)
  · rw [if_pos c4] at H
    have c4b0 : (t123.toList == ([57, 32, 112, 97, 116, 104, 61, 97, 10] : List UInt8)) = true := beq_iff_eq.mpr c4
    have c4b1 : (t123.toList != ([57, 32, 112, 97, 116, 104, 61, 97, 10] : List UInt8)) = false := bne_eq_false_iff_eq.mpr c4
    clear c4
    by_cases c5 : t124 = 0
    · rw [if_pos c5] at H
      have c5b0 : (t124 == 0) = true := beq_iff_eq.mpr c5
      have c5b1 : (t124 != 0) = false := bne_eq_false_iff_eq.mpr c5
      clear c5
      by_cases c6 : (t125.length : Int) = 2
      · rw [if_pos c6] at H
        have c6b0 : ((t125.length : Int) == 2) = true := beq_iff_eq.mpr c6
        have c6b1 : ((t125.length : Int) != 2) = false := bne_eq_false_iff_eq.mpr c6
        clear c6
        by_cases c7 : 1 < (t125.length : Int)
        · rw [if_pos c7] at H
          have c7b0 : decide (1 < (t125.length : Int)) = true := decide_eq_true c7
          have c7b1 : decide (1 < t125.length) = true := decide_eq_true (by omega)
          clear c7
          by_cases c8 : ((((rd_T39 t125 1).f0).toList) == ([98] : List UInt8) && ((((rd_T39 t125 1).f1).toList) == ([99] : List UInt8))) = true
          · rw [if_pos c8] at H
            have c8b0 : ((((rd_T39 t125 1).f0).toList) == ([98] : List UInt8) && ((((rd_T39 t125 1).f1).toList) == ([99] : List UInt8))) = true := c8
            (try (have c8b1 : decide ((((rd_T39 t125 1).f0).toList) = ([98] : List UInt8) && ((((rd_T39 t125 1).f1).toList) == ([99] : List UInt8))) = true := by simpa using c8))
            (try (have c8b2 : ((((rd_T39 t125 1).f0).toList) == ([98] : List UInt8) && ((((rd_T39 t125 1).f1).toList) == ([99] : List UInt8))) = true := by simpa using c8))
            clear c8
            by_cases c9 : t126 = 0
            · rw [if_pos c9] at H
              have c9b0 : (t126 == 0) = true := beq_iff_eq.mpr c9
              have c9b1 : (t126 != 0) = false := bne_eq_false_iff_eq.mpr c9
              clear c9
              by_cases c10 : t130 = 2
              · rw [if_pos c10] at H
                have c10b0 : (t130 == 2) = true := beq_iff_eq.mpr c10
                have c10b1 : (t130 != 2) = false := bne_eq_false_iff_eq.mpr c10
                clear c10
                replace H := Option.bind_eq_some_iff.mp H
                obtain ⟨t134, A110, H⟩ := H
                replace H : (some (t134 == 9)) = some r := H
                have A11 := Aside0.mk A110
                clear A110
                obtain rfl := Option.some.inj H
                go_enter Tryd.func9, Tryd.ntmps9
                go_wp2_with (first | ((with_reducible refine gate_dst (N := 9) rfl ?_); (try (refine gate_guard (by rfl) ?_; dsimp only)); refine Kd.R_lit k39 _ 39 ?hg (N := 9) ?hd (xs := ([(⟨(⟨#[112, 97, 116, 104]⟩ : ByteArray), (⟨#[97]⟩ : ByteArray)⟩ : S39)] : List (S39))) (inner := [.string (⟨#[112, 97, 116, 104]⟩ : ByteArray), .string (⟨#[97]⟩ : ByteArray)]) (ok := fun _ => True) (okp := fun _ => True) ?hr ?hp (fun _ hk => hk) trivial (Below.refl _ _) (Nat.le_refl _) (by simp) ?_; (case hd => rfl); (case hg => rfl); (case hr => first | (go_simp; done) | (go_simp; rfl)); (case hp => exact (Reps.c2 (show Kd.M k39 _ _ _ (⟨(⟨#[112, 97, 116, 104]⟩ : ByteArray), (⟨#[97]⟩ : ByteArray)⟩ : S39) [.string (⟨#[112, 97, 116, 104]⟩ : ByteArray), .string (⟨#[97]⟩ : ByteArray)] from (k39_mkM _ _ _ (⟨(⟨#[112, 97, 116, 104]⟩ : ByteArray), (⟨#[97]⟩ : ByteArray)⟩ : S39) )) (Reps.none _ _))); intro v121 w12 ho13 hb hg_ hnew_; clear hg_ hnew_; (first | rw [← Ny120.out] at ho13 | (simp only [Int.reduceToNat] at ho13; rw [← Ny120.out] at ho13)); have n0_ := Aside0.mk (Kd.R_lower ho13 (below_size (by repeat (first | (with_reducible first | exact HB.out | apply below_alloc | apply pw_below_drewN | apply below_drew1) | exact HB.out)))); have n1_ := Aside0.mk (below_step (by repeat (first | (with_reducible first | exact HB.out | apply below_alloc | apply pw_below_drewN | apply below_drew1) | exact HB.out)) hb); clear HB; have HO122 := n0_; have HB := n1_; clear n0_ n1_; clear hb ho13; obtain ⟨Ao14, co14, eo14⟩ := Kd.R_slice HO122.out; subst eo14) | ((with_reducible refine gate_callee (f := 14) rfl ?_); refine goesL_ (some 10) rfl rfl Tryd.func14 (by kernel_rfl) rfl #[.slice Ao14 y120.length co14] rfl (by (try simp only [List.map_toArray, List.map_cons, List.map_nil]); first | done | rfl | (simp only [List.length_drop, List.length_take]; rfl)) ?_; (with_reducible refine (pax_Put.calls _ _ y120 t123 t124 _ ?side1 ?side2 A1.out (Go.Proofs.YtfnicahlnpngkaaDoor.DoorCut.Vars.below HVARS.out (by repeat (first | (with_reducible first | exact HB.out | apply below_alloc | apply pw_below_drewN | apply below_drew1 | refine below_set ?_ (Aside0.out (by assumption))) | exact HB.out)))).mono ?_); (case side1 => repeat (first | exact (Kd.R_reads' HO122.out).2.2 | (with_reducible refine Kd.C_alloc ?_ _) | (with_reducible refine Kd.C_drewN ?_ _) | (with_reducible refine Kd.C_drew ?_))); (case side2 => exact (Kd.R_reads' HO122.out).2.1); rintro e w15 ⟨rfl, hb⟩; refine ⟨_, rfl, ?_⟩; have n0_ := Aside0.mk (Kd.R_below (by (with_reducible repeat (first | apply Kd.R_alloc | apply Kd.R_drewN | apply Kd.R_drew)); exact HO122.out) hb); have n1_ := Aside0.mk (below_step (by repeat (first | (with_reducible first | exact HB.out | apply below_alloc | apply pw_below_drewN | apply below_drew1) | exact HB.out)) hb); clear HO122; clear HB; have HO122 := n0_; have HB := n1_; clear n0_ n1_; (try clear hb); (try clear hb2); (try clear hk); (try clear hi)) | ((with_reducible refine gate_callee (f := 11) rfl ?_); refine goesL_ (some 14) rfl rfl Tryd.func11 (by kernel_rfl) rfl #[.string (⟨#[57, 32, 112, 97, 116, 104, 61, 97, 10, 54, 32, 98, 61, 99, 10]⟩ : ByteArray)] rfl (by (try simp only [List.map_toArray, List.map_cons, List.map_nil]); first | done | rfl | (simp only [List.length_drop, List.length_take]; rfl)) ?_; (with_reducible refine (pax_Read.calls k (⟨#[57, 32, 112, 97, 116, 104, 61, 97, 10, 54, 32, 98, 61, 99, 10]⟩ : ByteArray) t125 t126 _ A2.out).mono ?_); rintro e w16 ⟨v127, rfl, ho0, hb⟩; refine ⟨_, rfl, ?_⟩; have n0_ := Aside0.mk (Kd.R_elder' (by (with_reducible repeat (first | apply Kd.R_alloc | apply Kd.R_drewN | apply Kd.R_drew)); exact HO122.out) (Kd.R_base ho0) hb); have n1_ := Aside0.mk (Kd.R_lower (Kd.R_new' ho0 (Kd.R_lt (by (with_reducible repeat (first | apply Kd.R_alloc | apply Kd.R_drewN | apply Kd.R_drew)); exact HO122.out))) (below_size (by repeat (first | (with_reducible first | exact HB.out | apply below_alloc | apply pw_below_drewN | apply below_drew1) | exact HB.out)))); have n2_ := Aside0.mk (below_step (by repeat (first | (with_reducible first | exact HB.out | apply below_alloc | apply pw_below_drewN | apply below_drew1) | exact HB.out)) hb); clear HO122; clear HB; have HO122 := n0_; have HO128 := n1_; have HB := n2_; clear n0_ n1_ n2_; (try clear hb); (try clear hb2); (try clear hk); (try clear hi); (try clear ho0)) | ((with_reducible refine gate_callee (f := 11) rfl ?_); refine goesL_ (some 18) rfl rfl Tryd.func11 (by kernel_rfl) rfl #[.string (⟨#[56, 32, 112, 97, 116, 104, 61, 97, 10]⟩ : ByteArray)] rfl (by (try simp only [List.map_toArray, List.map_cons, List.map_nil]); first | done | rfl | (simp only [List.length_drop, List.length_take]; rfl)) ?_; (with_reducible refine (pax_Read.calls k (⟨#[56, 32, 112, 97, 116, 104, 61, 97, 10]⟩ : ByteArray) t129 t130 _ A3.out).mono ?_); rintro e w17 ⟨v131, rfl, ho0, hb⟩; refine ⟨_, rfl, ?_⟩; have n0_ := Aside0.mk (Kd.R_elder' (by (with_reducible repeat (first | apply Kd.R_alloc | apply Kd.R_drewN | apply Kd.R_drew)); exact HO122.out) (Kd.R_base ho0) hb); have n1_ := Aside0.mk (Kd.R_elder' (by (with_reducible repeat (first | apply Kd.R_alloc | apply Kd.R_drewN | apply Kd.R_drew)); exact HO128.out) (Kd.R_base ho0) hb); have n2_ := Aside0.mk (Kd.R_lower (Kd.R_new' (Kd.R_new' ho0 (Kd.R_lt (by (with_reducible repeat (first | apply Kd.R_alloc | apply Kd.R_drewN | apply Kd.R_drew)); exact HO122.out))) (Kd.R_lt (by (with_reducible repeat (first | apply Kd.R_alloc | apply Kd.R_drewN | apply Kd.R_drew)); exact HO128.out))) (below_size (by repeat (first | (with_reducible first | exact HB.out | apply below_alloc | apply pw_below_drewN | apply below_drew1) | exact HB.out)))); have n3_ := Aside0.mk (below_step (by repeat (first | (with_reducible first | exact HB.out | apply below_alloc | apply pw_below_drewN | apply below_drew1) | exact HB.out)) hb); clear HO122; clear HO128; clear HB; have HO122 := n0_; have HO128 := n1_; have HO132 := n2_; have HB := n3_; clear n0_ n1_ n2_ n3_; (try clear hb); (try clear hb2); (try clear hk); (try clear hi); (try clear ho0); obtain ⟨Ao18, co18, eo18⟩ := Kd.R_slice HO128.out; subst eo18; have p133 : 0 ≤ (1 : Int) := (by omega); have q133 : 1 < (t125.length : Int) := of_decide_eq_true (by first | (with_reducible assumption) | assumption); obtain ⟨ad133, e133, hx133_0, hx133_1⟩ := at_T39 (Kd.R_reads' HO128.out).2.2 1 p133 q133; cases e133; (try simp only [show (1 : Int).toNat = 1 from rfl, Nat.reduceMul, Nat.reduceEqDiff, Go.Addr.add, ↓reduceIte] at hx133_0); (try simp only [show (1 : Int).toNat = 1 from rfl, Nat.reduceMul, Nat.reduceEqDiff, Go.Addr.add, ↓reduceIte] at hx133_1); have qi133 : (1 < t125.length) = True := eq_true (by omega); (try rw [show ((1 : Int)).toNat = 1 from rfl] at hx133_0); (try rw [show 1 * 2 = 2 from rfl] at hx133_0); (try rw [show ((1 : Int)).toNat = 1 from rfl] at hx133_1); (try rw [show 1 * 2 = 2 from rfl] at hx133_1); replace p133 := eq_true p133; replace q133 := eq_true q133) | (go_at_call 15; (with_reducible refine (pax_Len.calls (⟨#[112, 97, 116, 104]⟩ : ByteArray) (⟨#[97]⟩ : ByteArray) t134 _ A11.out (Go.Proofs.YtfnicahlnpngkaaDoor.DoorCut.Vars.below HVARS.out (by repeat (first | (with_reducible first | exact HB.out | apply below_alloc | apply pw_below_drewN | apply below_drew1 | refine below_set ?_ (Aside0.out (by assumption))) | exact HB.out)))).mono ?_); rintro e w19 ⟨rfl, hb⟩; have n0_ := Aside0.mk (Kd.R_below (by (with_reducible repeat (first | apply Kd.R_alloc | apply Kd.R_drewN | apply Kd.R_drew)); exact HO122.out) hb); have n1_ := Aside0.mk (Kd.R_below (by (with_reducible repeat (first | apply Kd.R_alloc | apply Kd.R_drewN | apply Kd.R_drew)); exact HO128.out) hb); have n2_ := Aside0.mk (Kd.R_below (by (with_reducible repeat (first | apply Kd.R_alloc | apply Kd.R_drewN | apply Kd.R_drew)); exact HO132.out) hb); have n3_ := Aside0.mk (below_step (by repeat (first | (with_reducible first | exact HB.out | apply below_alloc | apply pw_below_drewN | apply below_drew1) | exact HB.out)) hb); clear HO122; clear HO128; clear HO132; clear HB; have HO122 := n0_; have HO128 := n1_; have HO132 := n2_; have HB := n3_; clear n0_ n1_ n2_ n3_; (try clear hb); (try clear hb2); (try clear hk); (try clear hi)))
                go_ret
                exact ⟨by first | rfl | (simp only [show ∀ l : List UInt8, (l != []) = (!l.isEmpty) from fun l => by cases l <;> rfl]; rfl) | (simp [errW_none, errW_some] <;> rfl) | (simp [*, errW_none, errW_some] <;> rfl), by repeat (first | (with_reducible first | exact HB.out | apply below_alloc | apply pw_below_drewN | apply below_drew1) | exact HB.out)⟩
              · rw [if_neg c10] at H
                exact absurd (Option.some.inj H) (by rw [htrue]; simp)
            · rw [if_neg c9] at H
              exact absurd (Option.some.inj H) (by rw [htrue]; simp)
          · rw [if_neg c8] at H
            exact absurd (Option.some.inj H) (by rw [htrue]; simp)
        · rw [if_neg c7] at H
          exact absurd H (by simp)
      · rw [if_neg c6] at H
        exact absurd (Option.some.inj H) (by rw [htrue]; simp)
    · rw [if_neg c5] at H
      exact absurd (Option.some.inj H) (by rw [htrue]; simp)
  · rw [if_neg c4] at H
    exact absurd (Option.some.inj H) (by rw [htrue]; simp)

-- function 22 (strconv_Itoa): by hand

/-! ### stevedoreref23_Len: function 17 -/
def stevedoreref23_Len.l0 : Nat → Int → Int → Option (Int)
  | 0, _, _ => none
  | k + 1, x3, x4 => (strconv_Itoa.f (wrap64 (x3 + x4))).bind fun t136 => (if (t136.size : Int) = x4 then (some (wrap64 (x3 + x4))) else (stevedoreref23_Len.l0 k x3 (wrap64 (x4 + 1))))
def stevedoreref23_Len.f (k : Nat) (a0_0 : ByteArray) (a0_1 : ByteArray) : Option (Int) := stevedoreref23_Len.l0 k (wrap64 ((wrap64 ((a0_0.size : Int) + (a0_1.size : Int))) + 3)) 1
theorem stevedoreref23_Len.mono_l : ∀ k, (∀ y0 y1, LeO (stevedoreref23_Len.l0 k y0 y1) (stevedoreref23_Len.l0 (k + 1) y0 y1))
  | 0 => fun _ _ r h => by simp [stevedoreref23_Len.l0] at h
  | k + 1 => by
    have ih0 := stevedoreref23_Len.mono_l k
    · intro y0 y1
      unfold stevedoreref23_Len.l0
      repeat' first
      | (with_reducible exact ih0 _ _)
      | (with_reducible exact LeO.refl _)
      | (with_reducible exact LeO.none _)
      | (with_reducible refine LeO.ite ?_ ?_)
      | (with_reducible refine LeO.bind ?_ (fun _ => ?_))
      | exact ih0 _ _
      | exact LeO.none _
      | refine LeO.ite ?_ ?_
      | refine LeO.bind ?_ (fun _ => ?_)
theorem stevedoreref23_Len.mono : ∀ a0 a1 k, LeO (stevedoreref23_Len.f k a0 a1) (stevedoreref23_Len.f (k + 1) a0 a1) := by
  intro a0 a1 k
  have ih0 := stevedoreref23_Len.mono_l k
  unfold stevedoreref23_Len.f
  repeat' first
      | (with_reducible exact ih0 _ _)
      | (with_reducible exact LeO.refl _)
      | (with_reducible exact LeO.none _)
      | (with_reducible refine LeO.ite ?_ ?_)
      | (with_reducible refine LeO.bind ?_ (fun _ => ?_))
      | exact ih0 _ _
      | exact LeO.none _
      | refine LeO.ite ?_ ?_
      | refine LeO.bind ?_ (fun _ => ?_)
set_option maxHeartbeats 8000000 in
set_option maxRecDepth 100000 in
theorem stevedoreref23_Len.calls (k : Nat) (a0_0 : ByteArray) (a0_1 : ByteArray) (r : Int) (w : World) (h : stevedoreref23_Len.f k a0_0 a0_1 = some r) (hv : Go.Proofs.YtfnicahlnpngkaaDoor.DoorCut.Vars w) :
    Calls Tryd.prog 17 #[.agg #[.string a0_0, .string a0_1]] w fun e w' => e = .returned (.int .i64 r) ∧ Below w.heap.size w w' := by
  have HVARS := Aside0.mk hv
  have hu39 := Tryd.underlying39
  have HB := Aside0.mk (Below.refl w.heap.size w)
  have H : (stevedoreref23_Len.l0 k (wrap64 ((wrap64 ((a0_0.size : Int) + (a0_1.size : Int))) + 3)) 1) = some r := h
  clear h
  have H' := Aside0.mk H
  clear H
  go_enter Tryd.func17, Tryd.ntmps17
  go_wp2_with (first | ((with_reducible refine gate_dst (N := 1) rfl ?_); refine box_event ?hg (N := 1) ?hd (cs := #[.string a0_0, .string a0_1]) (t := 39) ?hr ?_; (case hd => rfl); (case hg => rfl); (case hr => first | (go_simp; done) | (go_simp; rfl)); intro gb135 hg w2 hbox hb; have n0_ := Aside0.mk (below_step (by repeat (first | (with_reducible first | exact HB.out | apply below_alloc | apply pw_below_drewN | apply below_drew1) | exact HB.out)) hb); have n1_ := Aside0.mk (hbox); have n2_ := Aside0.mk ((by rw [hg]; exact (below_size (by repeat (first | (with_reducible first | exact HB.out | apply below_alloc | apply pw_below_drewN | apply below_drew1) | exact HB.out))) : w.heap.size ≤ gb135)); have n3_ := Aside0.mk ((by rw [hg]; exact (below_size (by repeat (first | (with_reducible first | exact HB.out | apply below_alloc | apply pw_below_drewN | apply below_drew1) | exact HB.out))) : w.heap.size ≤ gb135)); clear HB; have HB := n0_; have BK135 := n1_; have GW135 := n2_; have GE135 := n3_; clear n0_ n1_ n2_ n3_; clear hb hbox hg; have hcz3_0 : w2.cell? ⟨gb135, 0, none⟩ = some (.string a0_0) := (blk_cell BK135.out 0).trans rfl; have hcz3_1 : w2.cell? ⟨gb135, 1, none⟩ = some (.string a0_1) := (blk_cell BK135.out 1).trans rfl; have hfz3_0 := blk_frozen BK135.out 0; have hfz3_1 := blk_frozen BK135.out 1))
  go_loopg [4] k (fun kq v4 w' => ∃ (x4_1 : Int), v4 = .int .i64 x4_1 ∧ Aside0 (stevedoreref23_Len.l0 kq (wrap64 ((wrap64 ((a0_0.size : Int) + (a0_1.size : Int))) + 3)) x4_1 = some r) ∧ Aside0 (kq ≤ k) ∧ Aside0 (w'.heap[gb135]? = some (.cells #[.string a0_0, .string a0_1] 39 (0, 0))) ∧ Aside0 (Below w.heap.size w w'))
  case atStart => exact ⟨(1), (by first | rfl | (simp; done) | (simp [*]; done)), H', ⟨Nat.le_refl _⟩, ⟨by (with_reducible repeat (first | refine blk_drewN ?_ _ | refine blk_drew ?_ | refine blk_alloc ?_ _)); exact BK135.out⟩, ⟨by repeat (first | (with_reducible first | exact HB.out | apply below_alloc | apply pw_below_drewN | apply below_drew1 | refine below_set ?_ GE135.out) | exact HB.out)⟩⟩
  case round =>
    clear H'
    try clear c1
    try clear p2
    try clear hcz3_0
    try clear hcz3_1
    try clear hfz3_0
    try clear hfz3_1
    obtain ⟨x4_1, rfl, HA, HK1, BK135, HB⟩ := hrel
    cases gk with
    | zero => exact absurd HA.out (by simp [stevedoreref23_Len.l0])
    | succ k1 =>
      have H := HA.out
      clear HA
      simp only [stevedoreref23_Len.l0] at H
      replace H := Option.bind_eq_some_iff.mp H
      obtain ⟨t136, A40, H⟩ := H
      replace H : (if (t136.size : Int) = x4_1 then (some (wrap64 ((wrap64 ((wrap64 ((a0_0.size : Int) + (a0_1.size : Int))) + 3)) + x4_1))) else (stevedoreref23_Len.l0 k1 (wrap64 ((wrap64 ((a0_0.size : Int) + (a0_1.size : Int))) + 3)) (wrap64 (x4_1 + 1)))) = some r := H
      have A4 := Aside0.mk A40
      clear A40
      by_cases c5 : (t136.size : Int) = x4_1
      · rw [if_pos c5] at H
        have c5b0 : ((t136.size : Int) == x4_1) = true := beq_iff_eq.mpr c5
        have c5b1 : ((t136.size : Int) != x4_1) = false := bne_eq_false_iff_eq.mpr c5
        clear c5
        obtain rfl := Option.some.inj H
        go_wp2_with (first | ((with_reducible refine gate_callee (f := 22) rfl ?_); refine goesL_ (some 18) rfl rfl Tryd.func22 (by kernel_rfl) rfl #[.int .i64 (wrap64 ((wrap64 ((wrap64 ((a0_0.size : Int) + (a0_1.size : Int))) + 3)) + x4_1))] rfl (by (try simp only [List.map_toArray, List.map_cons, List.map_nil]); first | done | rfl | (simp only [List.length_drop, List.length_take]; rfl)) ?_; (with_reducible refine (strconv_Itoa.calls (wrap64 ((wrap64 ((wrap64 ((a0_0.size : Int) + (a0_1.size : Int))) + 3)) + x4_1)) t136 _ A4.out (Go.Proofs.YtfnicahlnpngkaaDoor.DoorCut.Vars.below HVARS.out (by repeat (first | (with_reducible first | exact HB.out | apply below_alloc | apply pw_below_drewN | apply below_drew1 | refine below_set ?_ (Aside0.out (by assumption))) | exact HB.out)))).mono ?_); rintro e w6 ⟨rfl, hb⟩; refine ⟨_, rfl, ?_⟩; have n0_ := Aside0.mk (blk_below (g := gb135) (o := .cells #[.string a0_0, .string a0_1] 39 (0, 0)) (by (with_reducible repeat (first | refine blk_drewN ?_ _ | refine blk_drew ?_ | refine blk_alloc ?_ _)); exact BK135.out) hb); have n1_ := Aside0.mk (below_step (by repeat (first | (with_reducible first | exact HB.out | apply below_alloc | apply pw_below_drewN | apply below_drew1 | refine below_set ?_ GE135.out) | exact HB.out)) hb); clear BK135; clear HB; have BK135 := n0_; have HB := n1_; clear n0_ n1_; (try clear hb); (try clear hb2); (try clear hk); (try clear hi)))
        go_ret
        exact ⟨by first | rfl | (simp only [show ∀ l : List UInt8, (l != []) = (!l.isEmpty) from fun l => by cases l <;> rfl]; rfl) | (simp [errW_none, errW_some] <;> rfl) | (simp [*, errW_none, errW_some] <;> rfl), by repeat (first | (with_reducible first | exact HB.out | apply below_alloc | apply pw_below_drewN | apply below_drew1 | refine below_set ?_ GE135.out) | exact HB.out)⟩
      · rw [if_neg c5] at H
        have c5b0 : ((t136.size : Int) == x4_1) = false := beq_eq_false_iff_ne.mpr c5
        have c5b1 : ((t136.size : Int) != x4_1) = true := bne_iff_ne.mpr c5
        have H' := Aside0.mk H
        clear H
        go_wp2_with (first | ((with_reducible refine gate_callee (f := 22) rfl ?_); refine goesL_ (some 18) rfl rfl Tryd.func22 (by kernel_rfl) rfl #[.int .i64 (wrap64 ((wrap64 ((wrap64 ((a0_0.size : Int) + (a0_1.size : Int))) + 3)) + x4_1))] rfl (by (try simp only [List.map_toArray, List.map_cons, List.map_nil]); first | done | rfl | (simp only [List.length_drop, List.length_take]; rfl)) ?_; (with_reducible refine (strconv_Itoa.calls (wrap64 ((wrap64 ((wrap64 ((a0_0.size : Int) + (a0_1.size : Int))) + 3)) + x4_1)) t136 _ A4.out (Go.Proofs.YtfnicahlnpngkaaDoor.DoorCut.Vars.below HVARS.out (by repeat (first | (with_reducible first | exact HB.out | apply below_alloc | apply pw_below_drewN | apply below_drew1 | refine below_set ?_ (Aside0.out (by assumption))) | exact HB.out)))).mono ?_); rintro e w7 ⟨rfl, hb⟩; refine ⟨_, rfl, ?_⟩; have n0_ := Aside0.mk (blk_below (g := gb135) (o := .cells #[.string a0_0, .string a0_1] 39 (0, 0)) (by (with_reducible repeat (first | refine blk_drewN ?_ _ | refine blk_drew ?_ | refine blk_alloc ?_ _)); exact BK135.out) hb); have n1_ := Aside0.mk (below_step (by repeat (first | (with_reducible first | exact HB.out | apply below_alloc | apply pw_below_drewN | apply below_drew1 | refine below_set ?_ GE135.out) | exact HB.out)) hb); clear BK135; clear HB; have BK135 := n0_; have HB := n1_; clear n0_ n1_; (try clear hb); (try clear hb2); (try clear hk); (try clear hi)))
        go_roundg k1
        case measure => have := HK1.out; omega
        case rel => exact ⟨(wrap64 (x4_1 + 1)), (by first | rfl | (simp; done) | (simp [*]; done)), H', ⟨by have := HK1.out; omega⟩, ⟨by (with_reducible repeat (first | refine blk_drewN ?_ _ | refine blk_drew ?_ | refine blk_alloc ?_ _)); exact BK135.out⟩, ⟨by repeat (first | (with_reducible first | exact HB.out | apply below_alloc | apply pw_below_drewN | apply below_drew1 | refine below_set ?_ GE135.out) | exact HB.out)⟩⟩

end Go.Proofs.YtfnicahlnpngkaaDoor.PPaxPuts

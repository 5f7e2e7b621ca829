/- rate.Rank at one number or more. -/
import Derived.Test.YtfmfikodnpnblaaDoorRankRow
import Derived.WalkMore
import Derived.Test.YtfmfikodnpnblaaDoorPRate1x0
set_option linter.unusedVariables false
namespace Go.Proofs.YtfmfikodnpnblaaDoor.RankWalk
open Go.RowKit Go.Proofs Go.Sort Go.Proofs.YtfmfikodnpnblaaDoorW.PrintWords Go.Proofs.YtfmfikodnpnblaaDoor.Base Go.Proofs.YtfmfikodnpnblaaDoorW.PrintLast Go.Proofs.YtfmfikodnpnblaaDoorW.PrintMore Go.Proofs.YtfmfikodnpnblaaDoor.PRate1 Go.Proofs.YtfmfikodnpnblaaDoor.RankRow
set_option maxHeartbeats 4000000 in
set_option maxRecDepth 100000 in
theorem rank_row (lb loff c0 k : Nat) (l0 : List Nat) (w : World) (hk : l0.length = k + 1) (h40 : k + 1 ≤ 40) (hlb : lb < w.heap.size) (hcell : ∀ t, t < k + 1 → w.cell? ⟨lb, loff + t, none⟩ = some (.float .f64 (l0.getD t 0))) :
    Calls Tryd.prog 16 #[.slice (some ⟨lb, loff, none⟩) (k + 1) c0] w fun e w' => ∃ v r, e = .returned v ∧ RankOf (fun t => l0.getD t 0) k r ∧ Kd.R (Kd.int .i64) 3 w' w.heap.size (fun _ => True) v r ∧ Below w.heap.size w w' := by
  obtain ⟨w1, hw1⟩ : ∃ w1, w.alloc (.cells #[.slice (some ⟨lb, loff, none⟩) (k + 1) c0] 22) = w1 := ⟨_, rfl⟩
  have hbx : w1.cell? ⟨w.heap.size, 0, none⟩ = some (.slice (some ⟨lb, loff, none⟩) (k + 1) c0) := by rw [← hw1]; simp
  have hsz : w1.heap.size = w.heap.size + 1 := by rw [← hw1]; simp
  have hb1 : Aside0 (Below w.heap.size w w1) := ⟨by rw [← hw1]; exact below_alloc (Below.refl _ _) _⟩
  have HB := Aside0.mk (Below.refl w1.heap.size w1)
  have HSZ := Aside0.mk hsz
  have HC := Aside0.mk hcell
  have h41 : (k : Int) + 1 ≤ 40 := by omega
  clear hsz hcell
  go_enter Tryd.func16, Tryd.ntmps16
  go_wp2
  go_loopg [3, 7] (k + 1) (fun kq v3 v7 wr => ∃ (xs : List Int), v7 = .int .i64 (xs.length : Int) ∧ Aside0 (xs.length ≤ k + 1 ∧ k + 1 ≤ kq + xs.length ∧ xs = (List.range xs.length).map fun j : Nat => (j : Int)) ∧ Aside0 (Kd.R (Kd.int .i64) 3 wr w1.heap.size (fun _ => True) v3 xs) ∧ Aside0 (Below w1.heap.size w1 wr))
  case atStart => exact ⟨[], rfl, ⟨by simp, by simp, rfl⟩, ⟨Kd.R_nil _ _ _ _ _⟩, HB⟩
  case round =>
    clear HB
    obtain ⟨xs, rfl, HX, HO, HB⟩ := hrel
    by_cases hx : xs.length < k + 1
    · have hxz : (xs.length : Int) < (k : Int) + 1 := by omega
      have rx : IntKind.i64.wrap ((xs.length : Int) + 1) = (xs.length : Int) + 1 := by rw [IntKind.wrap_i64]; omega
      go_wp2_with (first | ((with_reducible refine gate_builtin (b := .append) (xs := #[.tmp 10, .tmp 12]) rfl ?_); at_builtin; refine Kd.R_append (Kd.int .i64) (w0 := w1) w1.heap.size rfl (.tmp 10) (.tmp 12) 24 3 (.int .i64 0) 8 rfl Tryd.underlying24 info3 rfl (by decide) (by omega) _ xs (xs.length : Int) [.int .i64 (xs.length : Int)] (fun _ => True) (fun _ => False) rfl rfl ?aP (fun _ hk => hk.elim) ?aF ?aO ?aB ?aS ?aL ?_; (case aP => exact rfl); (case aB => exact (by repeat (first | (with_reducible first | exact HB.out | apply below_alloc | apply pw_below_drewN | apply below_drew1) | exact HB.out))); (case aF => exact (fun _ _ => trivial)); (case aO => exact (by (with_reducible repeat (first | apply Kd.R_alloc | apply Kd.R_drewN | apply Kd.R_drew)); exact HO.out)); (case aS => exact (below_size (by repeat (first | (with_reducible first | exact HB.out | apply below_alloc | apply pw_below_drewN | apply below_drew1) | exact HB.out)))); (case aL => (have := hx; omega)); intro v105 w12 ho hb hg hat; have n0_ := Aside0.mk (hb); have n1_ := Aside0.mk (ho); clear HB; clear HO; have HB := n0_; have HO := n1_; clear n0_ n1_; clear ho hb hg hat))
      go_roundg (k - xs.length)
      case measure => have := HX.out; omega
      case rel => exact ⟨xs ++ [(xs.length : Int)], by simp, ⟨by simp; omega, by simp; omega, by rw [List.length_append, List.length_singleton, List.range_succ, List.map_append, ← HX.out.2.2]; rfl⟩, HO, HB⟩
    · have hxe : xs.length = k + 1 := by have := HX.out; omega
      have hxl : xs = (List.range (k + 1)).map fun j : Nat => (j : Int) := by rw [← hxe]; exact HX.out.2.2
      have hown : wr.ownsRow w1.heap.size 3 1 u3 xs.length (xs.map (Value.int .i64)) := Kd.own_of_R HO.out
      obtain ⟨g, cap, rfl⟩ : ∃ g cap, u3 = .slice (some ⟨g, 0, none⟩) (k + 1) cap := by
        rcases hown.2 with ⟨_, h0⟩ | ⟨g, cap, cur, hv, _⟩
        · omega
        · rw [hxe] at hv; exact ⟨g, cap, hv⟩
      have hg : w1.heap.size ≤ g := by
        rcases hown.2 with ⟨h0, _⟩ | ⟨g', cap', cur, hv, hb, _⟩
        · cases h0
        · injection hv with hv1; injection hv1 with hv1; injection hv1 with hv1; subst hv1; exact hb
      rw [hxe, hxl] at hown
      have hsz := HSZ.out
      have hle := HB.out.size
      have q := sort_row k g cap w.heap.size lb loff c0 wr w1.heap.size (fun t => l0.getD t 0) hown (by omega) (by omega) (by omega) (by omega)
        (by rw [HB.out.cell (by show w.heap.size < _; omega)]; exact hbx) (fun t ht => by rw [HB.out.cell (by show lb < _; omega), hb1.out.cell (by exact hlb)]; exact HC.out t ht) h40
      have hxz : ¬ (xs.length : Int) < (k : Int) + 1 := by omega
      clear hown hsz hle hxl
      go_wp2_with (go_at_call 50; (with_reducible refine q.mono ?_); clear q; rintro e1 w2 ⟨rfl, r, x1, x2, x3, x4⟩; have HR := Aside0.mk x1; have HW := Aside0.mk x2; have HG := Aside0.mk x3; have HL := Aside0.mk x4; clear x1 x2 x3 x4)
      go_ret
      have hsz := HSZ.out
      have hle := HB.out.size
      refine ⟨_, r, rfl, HR.out, ?_, ?_⟩
      · have hl : r.length = k + 1 := by
          have := HW.out.1
          simpa using this
        refine Kd.R_of_own (h1 := fun _ => rfl) ?_ (fun _ _ => trivial)
        refine ⟨by simp [encs], .inr ?_⟩
        rcases HW.out.2 with ⟨h0, _⟩ | ⟨g', cap', cur, hv, hb, h5, h6, h7, h8, h9⟩
        · cases h0
        · exact ⟨g', cap', cur, by rw [hl]; exact hv, by omega, h5, by rw [hl]; exact h6, h7, h8, by rw [hl]; exact h9⟩
      · refine hb1.out.trans (pw_below_grown (HB.out.mono (by omega)) (some g) (by omega) HG.out (fun k hk => by injection hk with hk; omega))
/-! ### the one list -/
def lxF (G : Nat → Nat) (k : Nat) : Fin (k + 1) → Fin (k + 1) → Bool := SymMerge.lx (ltOf (fun x y : Fin (k + 1) => RankCmp.cmpF (G x.val) (G y.val))) (fun x => x.val)
def rankOf (G : Nat → Nat) (k : Nat) : List Int := ((places k).toList.mergeSort fun x y => !lxF G k y x).map (RankCmp.pl k)
theorem rank_is {G : Nat → Nat} {k : Nat} {r : List Int} (h : RankOf G k r) : r = rankOf G k := by
  obtain ⟨d, rfl, p, s⟩ := h
  have hS := RankCmp.swo_cmp G k
  have hz : (places k).size = k + 1 := places_size k
  have := sorted_unique_holds (lt := lxF G k) (SymMerge.lx_swo hS) (fun x y h1 h2 => by
    have a1 := SymMerge.lx_false.1 h1
    have a2 := SymMerge.lx_false.1 h2
    rcases a1.2 with g | g
    · rw [a2.1] at g; cases g
    · rcases a2.2 with g2 | g2
      · rw [a1.1] at g2; cases g2
      · exact Fin.ext (by omega)) (places k) d (by rw [hz]; exact p) (by rw [hz]; exact s)
  unfold rankOf
  rw [← this]
end Go.Proofs.YtfmfikodnpnblaaDoor.RankWalk

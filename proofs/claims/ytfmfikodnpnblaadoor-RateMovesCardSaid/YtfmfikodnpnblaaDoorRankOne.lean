/- rate.Rank at one number: one place. -/
import Derived.Test.YtfmfikodnpnblaaDoorFltNone
import Derived.WalkMore
import Derived.Test.YtfmfikodnpnblaaDoorPRate1x0
set_option linter.unusedVariables false
namespace Go.Proofs.YtfmfikodnpnblaaDoor.RankOne
open Go.RowKit Go.Proofs Go.Proofs.YtfmfikodnpnblaaDoorW.PrintWords Go.Proofs.YtfmfikodnpnblaaDoor.Base Go.Proofs.YtfmfikodnpnblaaDoor.Flt Go.Proofs.YtfmfikodnpnblaaDoorW.PrintLast Go.Proofs.YtfmfikodnpnblaaDoorW.PrintMore Go.Proofs.YtfmfikodnpnblaaDoor.PRate1
set_option maxHeartbeats 4000000 in
set_option maxRecDepth 100000 in
theorem insertion_one (A : Option Addr) (c : Nat) (fv : Value) (w : World) : Calls Tryd.prog 105 #[.slice A 1 c, .int .i64 0, .int .i64 1, fv] w fun e w' => e = .returned (.tuple #[]) ∧ Below w.heap.size w w' := by
  have HB := Aside0.mk (Below.refl w.heap.size w)
  go_enter Tryd.func105, Tryd.ntmps105
  go_wp2
  go_loopg [8] 1 (fun kq v8 wr => v8 = .int .i64 1 ∧ Aside0 (Below w.heap.size w wr))
  case atStart => exact ⟨rfl, HB⟩
  case round =>
    clear HB
    obtain ⟨rfl, HB⟩ := hrel
    go_wp2
    go_end0
    exact ⟨rfl, HB.out⟩
set_option maxHeartbeats 4000000 in
set_option maxRecDepth 100000 in
theorem stable_one (A : Option Addr) (c : Nat) (fv : Value) (w : World) : Calls Tryd.prog 82 #[.slice A 1 c, .int .i64 1, fv] w fun e w' => e = .returned (.tuple #[]) ∧ Below w.heap.size w w' := by
  have HB := Aside0.mk (Below.refl w.heap.size w)
  go_enter Tryd.func82, Tryd.ntmps82
  go_wp2
  go_loopg [7, 8] 1 (fun kq v7 v8 wr => v7 = .int .i64 0 ∧ v8 = .int .i64 20 ∧ Aside0 (Below w.heap.size w wr))
  case atStart => exact ⟨rfl, rfl, HB⟩
  case round =>
    clear HB
    obtain ⟨rfl, rfl, HB⟩ := hrel
    go_wp2_with (go_at_call 105; (with_reducible refine (insertion_one A c fv _).mono ?_); rintro e w1 ⟨rfl, hb⟩; have HB1 := Aside0.mk (below_then HB.out HB.out.size hb); clear hb HB; have HB := HB1; clear HB1)
    go_loopg [6] 1 (fun kq v6 wr => v6 = .int .i64 20 ∧ Aside0 (Below w.heap.size w wr))
    case atStart => exact ⟨rfl, HB⟩
    case round =>
      clear HB
      obtain ⟨rfl, HB⟩ := hrel
      go_wp2
      go_end0
      exact ⟨rfl, HB.out⟩
set_option maxHeartbeats 4000000 in
set_option maxRecDepth 100000 in
theorem sort_one (A : Option Addr) (c : Nat) (fv : Value) (w : World) : Calls Tryd.prog 50 #[.slice A 1 c, fv] w fun e w' => e = .returned (.tuple #[]) ∧ Below w.heap.size w w' := by
  go_enter Tryd.func50, Tryd.ntmps50
  go_wp2_with (go_at_call 82; (with_reducible refine (stable_one A c _ _).mono ?_); rintro e w1 ⟨rfl, hb⟩; have HB := Aside0.mk hb; clear hb)
  go_end0
  exact ⟨rfl, HB.out⟩
set_option maxHeartbeats 4000000 in
set_option maxRecDepth 100000 in
theorem rank_one (A : Option Addr) (c : Nat) (w : World) : Calls Tryd.prog 16 #[.slice A 1 c] w fun e w' => ∃ B c', e = .returned (.slice B 1 c') ∧ Below w.heap.size w w' := by
  have HB := Aside0.mk (Below.refl w.heap.size w)
  go_enter Tryd.func16, Tryd.ntmps16
  go_wp2
  go_loopg [3, 7] 3 (fun kq v3 v7 wr => ∃ (xs : List Int), v7 = .int .i64 (xs.length : Int) ∧ Aside0 (xs.length ≤ 1 ∧ 1 < kq + xs.length) ∧ Aside0 (Kd.R (Kd.int .i64) 3 wr w.heap.size (fun _ => True) v3 xs) ∧ Aside0 (Below w.heap.size w wr))
  case atStart => exact ⟨[], rfl, ⟨by simp, by simp⟩, ⟨Kd.R_nil _ _ _ _ _⟩, ⟨by repeat (first | (with_reducible first | exact HB.out | apply below_alloc | apply pw_below_drewN | apply below_drew1) | exact HB.out)⟩⟩
  case round =>
    clear HB
    obtain ⟨xs, rfl, HX, HO, HB⟩ := hrel
    have hx := HX.out
    match xs, hx with
    | [], hx =>
      obtain ⟨kq, rfl⟩ : ∃ kq, gk = kq + 1 := ⟨gk - 1, by simp at hx; omega⟩
      clear HX
      simp only [List.length_nil, Int.natCast_zero] at *
      go_wp2_with (first | ((with_reducible refine gate_builtin (b := .append) (xs := #[.tmp 10, .tmp 12]) rfl ?_); at_builtin; refine Kd.R_append (Kd.int .i64) (w0 := w) w.heap.size rfl (.tmp 10) (.tmp 12) 24 3 (.int .i64 0) 8 rfl Tryd.underlying24 info3 rfl (by decide) (by omega) _ [] 0 [.int .i64 0] (fun _ => True) (fun _ => False) rfl rfl ?aP (fun _ hk => hk.elim) ?aF ?aO ?aB ?aS ?aL ?_; (case aP => exact rfl); (case aB => exact (by repeat (first | (with_reducible first | exact HB.out | apply below_alloc | apply pw_below_drewN | apply below_drew1) | exact HB.out))); (case aF => exact (fun _ _ => trivial)); (case aO => exact (by (with_reducible repeat (first | apply Kd.R_alloc | apply Kd.R_drewN | apply Kd.R_drew)); exact HO.out)); (case aS => exact (below_size (by repeat (first | (with_reducible first | exact HB.out | apply below_alloc | apply pw_below_drewN | apply below_drew1) | exact HB.out)))); (case aL => (simp; done)); intro v105 w12 ho hb hg hat; have n0_ := Aside0.mk (hb); have n1_ := Aside0.mk (ho); clear HB; clear HO; have HB := n0_; have HO := n1_; clear n0_ n1_; clear ho hb hg hat))
      go_roundg kq
      case measure => omega
      case rel => exact ⟨[0], rfl, ⟨by simp, by simp; omega⟩, ⟨by (with_reducible repeat (first | apply Kd.R_alloc | apply Kd.R_drewN | apply Kd.R_drew)); exact HO.out⟩, ⟨by repeat (first | (with_reducible first | exact HB.out | apply below_alloc | apply pw_below_drewN | apply below_drew1) | exact HB.out)⟩⟩
    | [x], hx =>
      obtain ⟨B, cb, rfl⟩ := Kd.R_slice HO.out
      clear HX HO
      simp only [List.length_cons, List.length_nil, Nat.zero_add] at *
      go_wp2_with (go_at_call 50; (with_reducible refine (sort_one B cb _ _).mono ?_); rintro e w1 ⟨rfl, hb⟩; have HB1 := Aside0.mk (below_then (by repeat (first | (with_reducible first | exact HB.out | apply below_alloc | apply pw_below_drewN | apply below_drew1) | exact HB.out)) (below_size (by repeat (first | (with_reducible first | exact HB.out | apply below_alloc | apply pw_below_drewN | apply below_drew1) | exact HB.out))) hb); clear hb HB; have HB := HB1; clear HB1)
      go_ret
      exact ⟨B, cb, rfl, HB.out⟩
    | _ :: _ :: _, hx => simp at hx
end Go.Proofs.YtfmfikodnpnblaaDoor.RankOne

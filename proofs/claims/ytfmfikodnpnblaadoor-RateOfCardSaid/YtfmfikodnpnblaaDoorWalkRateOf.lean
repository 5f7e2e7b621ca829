/- RateOf, walked by hand. -/
import Derived.Test.YtfmfikodnpnblaaDoorPureRateOf
import Derived.Test.YtfmfikodnpnblaaDoorRateTold
import Derived.Test.YtfmfikodnpnblaaDoorOpenE
set_option linter.unusedVariables false
set_option linter.unusedSimpArgs false
namespace Go.Proofs.YtfmfikodnpnblaaDoor.WalkRateOf
open Go.RowKit Go.Proofs Go.Proofs.YtfmfikodnpnblaaDoorW.PrintWords Go.Proofs.YtfmfikodnpnblaaDoorW.PrintLast Go.Proofs.YtfmfikodnpnblaaDoorW.PrintMore Go.Proofs.YtfmfikodnpnblaaDoor.Base Go.Proofs.YtfmfikodnpnblaaDoor.Flt Go.Proofs.YtfmfikodnpnblaaDoor.RateNan Go.Proofs.YtfmfikodnpnblaaDoor.PureRateOf Go.Proofs.YtfmfikodnpnblaaDoor.GreatEq Go.Proofs.YtfmfikodnpnblaaDoor.RateTold Go.Proofs.YtfmfikodnpnblaaDoor.ClkLib Go.Proofs.YtfmfikodnpnblaaDoor.PRateOf1
attribute [local go_sem] run_store_float
theorem bytes_of {l : List S73} (h : ∀ x ∈ l, OpenE.Good x) : ∀ e ∈ l, Bytes e.f7 := fun e he b hb => by
  have := wf_u8 ((h e he).2.2.2.2.2.2.2.2 b hb)
  omega
theorem two_cells {w2 w3 : World} {p1 p2 p3 p4 p5 q1 q2 q3 q4 q5 : Nat} {t : TypeId}
    (h : Below ((w2.alloc (.cells #[.float .f64 p1, .float .f64 p2, .float .f64 p3, .float .f64 p4, .float .f64 p5] t)).alloc (.cells #[.float .f64 q1, .float .f64 q2, .float .f64 q3, .float .f64 q4, .float .f64 q5] t)).heap.size
      ((w2.alloc (.cells #[.float .f64 p1, .float .f64 p2, .float .f64 p3, .float .f64 p4, .float .f64 p5] t)).alloc (.cells #[.float .f64 q1, .float .f64 q2, .float .f64 q3, .float .f64 q4, .float .f64 q5] t)) w3) :
    w3.cell? ⟨w2.heap.size, 0, none⟩ = some (.float .f64 p1) ∧ w3.cell? ⟨w2.heap.size, 1, none⟩ = some (.float .f64 p2) ∧ w3.cell? ⟨w2.heap.size, 2, none⟩ = some (.float .f64 p3) ∧ w3.cell? ⟨w2.heap.size, 3, none⟩ = some (.float .f64 p4) ∧ w3.cell? ⟨w2.heap.size, 4, none⟩ = some (.float .f64 p5) ∧
    w3.cell? ⟨w2.heap.size + 1, 0, none⟩ = some (.float .f64 q1) ∧ w3.cell? ⟨w2.heap.size + 1, 1, none⟩ = some (.float .f64 q2) ∧ w3.cell? ⟨w2.heap.size + 1, 2, none⟩ = some (.float .f64 q3) ∧ w3.cell? ⟨w2.heap.size + 1, 3, none⟩ = some (.float .f64 q4) ∧ w3.cell? ⟨w2.heap.size + 1, 4, none⟩ = some (.float .f64 q5) := by
  refine ⟨?_, ?_, ?_, ?_, ?_, ?_, ?_, ?_, ?_, ?_⟩ <;> refine (h.cell (by simp <;> omega)).trans ?_ <;> simp [go_sem]
set_option maxHeartbeats 8000000 in
set_option maxRecDepth 100000 in
theorem RateOf (A0 : Option Addr) (c0 : Nat) (l0 : List S73) (a1 : Int) (w : World) (hr0 : Kd.C k73 w A0 l0.length l0) (hc0 : l0.length ≤ c0) (hg : ∀ x ∈ l0, OpenE.Good x) (hv : Vars w) :
    Calls Tryd.prog 7 #[.slice A0 l0.length c0, .int .i64 a1] w fun e w' => e = .returned (.bool true) ∧ Below w.heap.size w w' := by
  obtain ⟨b, h1, h2⟩ := great l0
  have HG := Aside0.mk (h1 13 (Nat.le_refl _))
  have HV := Aside0.mk hv
  have HR0 := Aside0.mk hr0
  have HC0 := Aside0.mk hc0
  have hby := bytes_of hg
  clear h1 hv hr0 hc0 hg
  have HBB := Aside0.mk (Below.refl w.heap.size w)
  cases b with
  | true =>
    clear h2 hby
    go_enter Tryd.func7, Tryd.ntmps7
    go_wp2_with (first
      | (go_at_call 24; (with_reducible refine (stevedorelaw20_Great.calls 13 A0 c0 l0 true _ HR0.out HC0.out HG.out).mono ?_); rintro e w2 ⟨rfl, HB2⟩; have HB2' := Aside0.mk (below_then HBB.out HBB.out.size HB2.below); clear HB2 HBB; have HBB := HB2'; clear HB2')
      | (go_at_call 15; (with_reducible refine (stevedorelaw36_told.calls true _ rfl (HV.out.below HBB.out)).mono ?_); rintro e w2 ⟨rfl, HB2⟩; have HB2' := Aside0.mk (below_then HBB.out HBB.out.size HB2); clear HB2 HBB; have HBB := HB2'; clear HB2'))
    go_ret
    exact ⟨by first | rfl | (simp; done) | (simp [*]; done), HBB.out⟩
  | false =>
    have hf := h2 rfl
    obtain ⟨⟨r1, r2, r3, r4, r5⟩, hfive⟩ : ∃ r, five a1 (all l0 (0, [], List.replicate 256 0)) = r := ⟨_, rfl⟩
    have hO := of_f l0 hf hby a1 0
    have hR := rof_f l0 hf hby a1 0
    rw [hfive] at hO hR
    have HO := Aside0.mk hO
    have HR := Aside0.mk hR
    clear h2 hf hby hfive hO hR
    go_enter Tryd.func7, Tryd.ntmps7
    go_wp2_with (first
      | (go_at_call 24; (with_reducible refine (stevedorelaw20_Great.calls 13 A0 c0 l0 false _ HR0.out HC0.out HG.out).mono ?_); rintro e w2 ⟨rfl, HB2⟩; have HB2' := Aside0.mk (below_then HBB.out HBB.out.size HB2.below); clear HB2 HBB; have HBB := HB2'; clear HB2')
      | (go_at_call 15; (with_reducible refine (stevedorelaw36_told.calls true _ rfl (HV.out.below (below_alloc (below_alloc HBB.out _) _))).mono ?_); rintro e w3 ⟨rfl, HB3⟩; obtain ⟨ca1, ca2, ca3, ca4, ca5, cb1, cb2, cb3, cb4, cb5⟩ := two_cells HB3; have HB3' := Aside0.mk (below_then (below_alloc (below_alloc HBB.out _) _) (below_size (below_alloc (below_alloc HBB.out _) _)) HB3); clear HB3 HBB; have HBB := HB3'; clear HB3')
      | (go_at_call 25; (with_reducible refine (rate_Of.calls _ A0 c0 l0 a1 r1 r2 r3 r4 r5 _ (Kd.C_below HR0.out HBB.out) HC0.out HO.out).mono ?_); rintro e w2 ⟨p1, p2, p3, p4, p5, rfl, ⟨sp1, sp2, sp3, sp4, sp5⟩, HB2⟩; have HB2' := Aside0.mk (below_then HBB.out HBB.out.size HB2); clear HB2 HBB; have HBB := HB2'; clear HB2'; have P1 := Aside0.mk sp1; have P2 := Aside0.mk sp2; have P3 := Aside0.mk sp3; have P4 := Aside0.mk sp4; have P5 := Aside0.mk sp5; clear sp1 sp2 sp3 sp4 sp5)
      | (go_at_call 26; (with_reducible refine (stevedoreref35_Of.calls _ A0 c0 l0 a1 r1 r2 r3 r4 r5 _ (Kd.C_below HR0.out HBB.out) HC0.out HR.out).mono ?_); rintro e w2 ⟨q1, q2, q3, q4, q5, rfl, ⟨sp1, sp2, sp3, sp4, sp5⟩, HB2⟩; have HB2' := Aside0.mk (below_then HBB.out HBB.out.size HB2); clear HB2 HBB; have HBB := HB2'; clear HB2'; have Q1 := Aside0.mk (same_sm P1.out sp1); have Q2 := Aside0.mk (same_sm P2.out sp2); have Q3 := Aside0.mk (same_sm P3.out sp3); have Q4 := Aside0.mk (same_sm P4.out sp4); have Q5 := Aside0.mk (same_sm P5.out sp5); clear sp1 sp2 sp3 sp4 sp5)
      | (go_at_call 27; (with_reducible refine (stevedoreref35_SameFloat.calls p1 q1 true _ Q1.out).mono ?_); rintro e w4 ⟨rfl, ⟨nd, rfl⟩⟩)
      | (go_at_call 27; (with_reducible refine (stevedoreref35_SameFloat.calls p2 q2 true _ Q2.out).mono ?_); rintro e w4 ⟨rfl, ⟨nd, rfl⟩⟩)
      | (go_at_call 27; (with_reducible refine (stevedoreref35_SameFloat.calls p3 q3 true _ Q3.out).mono ?_); rintro e w4 ⟨rfl, ⟨nd, rfl⟩⟩)
      | (go_at_call 27; (with_reducible refine (stevedoreref35_SameFloat.calls p4 q4 true _ Q4.out).mono ?_); rintro e w4 ⟨rfl, ⟨nd, rfl⟩⟩)
      | (go_at_call 27; (with_reducible refine (stevedoreref35_SameFloat.calls p5 q5 true _ Q5.out).mono ?_); rintro e w4 ⟨rfl, ⟨nd, rfl⟩⟩))
    go_ret
    exact ⟨by first | rfl | (simp; done) | (simp [*]; done), (by repeat (first | (with_reducible first | exact HBB.out | apply below_alloc | apply pw_below_drewN | apply below_drew1) | exact HBB.out))⟩
end Go.Proofs.YtfmfikodnpnblaaDoor.WalkRateOf

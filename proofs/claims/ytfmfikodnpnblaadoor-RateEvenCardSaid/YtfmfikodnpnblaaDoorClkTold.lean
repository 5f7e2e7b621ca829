/- The law's told, which takes nothing: it answers true; the document's NaN, whose bits are drawn. By hand. -/
import Derived.Test.YtfmfikodnpnblaaDoorPClk1x
set_option linter.unusedVariables false
namespace Go.Proofs.YtfmfikodnpnblaaDoor.ClkTold
open Go.RowKit Go.Proofs Go.Proofs.YtfmfikodnpnblaaDoorW.PrintWords Go.Proofs.YtfmfikodnpnblaaDoor.PClk1 Go.Proofs.YtfmfikodnpnblaaDoor.ClkDate Go.Proofs.YtfmfikodnpnblaaDoor.ClkLib Go.Proofs.YtfmfikodnpnblaaDoor.Base
attribute [local go_sem] fop_run fint_run fofint_run

theorem read_nan (b m : Nat) (h : m < 4503599627370495) (hb : b = 9218868437227405313 + m ∨ b = 9223372036854775808 + (9218868437227405313 + m)) : ∃ s t, Ieee.double.read b = .nan s t := by
  unfold Ieee.Format.read
  rw [Flt.lp, Flt.bn, Flt.ir, Flt.sw]
  dsimp only
  rw [if_neg (by omega), if_neg (by omega), if_neg (by omega)]
  exact ⟨_, _, rfl⟩
theorem nan_key {b : Nat} (h : ∃ s t, Ieee.double.read b = .nan s t) : Flt.key b = none := by
  obtain ⟨s, t, h⟩ := h
  unfold Flt.key
  rw [h]; rfl
theorem zero_by_zero : floatBits .quo .f64 0 0 = none := by decide +kernel
theorem quo_nan {P : Program} (t : TypeId) (w : World) : ∃ b, Flt.key b = none ∧ (binOp .quo t (.float .f64 0) (.float .f64 0)).run P w = .ok (.float .f64 b) w.drew := by
  have h0 : FloatKind.f64.format.div 0 0 = none := zero_by_zero
  have hf : Question.forced (.nanBits .f64 0 0) = false := rfl
  refine ⟨Question.cut (.nanBits .f64 0 0) (w.tape w.drawn (.nanBits .f64 0 0)), ?_, ?_⟩
  · exact nan_key (read_nan _ (w.tape w.drawn (.nanBits .f64 0 0) / 2 % (2 ^ 52 - 1)) (Nat.mod_lt _ (by decide)) (by
      simp only [Question.cut]
      rcases Nat.mod_two_eq_zero_or_one (w.tape w.drawn (.nanBits .f64 0 0)) with h | h <;> rw [h]
      · left; omega
      · right; omega))
  · simp only [binOp, Op.floatArith, h0]
    simp [hf]
theorem none_calls (w : World) : Calls Tryd.prog 20 #[] w fun e w' => ∃ b, e = .returned (.float .f64 b) ∧ Flt.key b = none ∧ Below w.heap.size w w' := by
  obtain ⟨b, hb, hr⟩ := quo_nan (P := Tryd.prog) 27 w
  have HB := Aside0.mk hb
  clear hb
  go_enter Tryd.func20, Tryd.ntmps20
  go_wp2
  go_ret
  exact ⟨b, rfl, HB.out, below_drew (Below.refl _ _)⟩

theorem e_parse : clock_Parse.f 12 (⟨#[45, 48, 46, 48, 48, 49]⟩ : ByteArray) = some (13790022059008458752, 0) := by decide +kernel
theorem e_dos : clock_Dos.f 12 0 = some 2162688 := by decide +kernel
theorem e_days : clock_Days.f 1970 1 2 = some 1 := by decide +kernel
theorem e_eq : (FloatKind.f64.format.order 13790022059008458752 13790022059008458752 == some .eq) = true := by decide +kernel
theorem e_text : clock_Text.f 12 13832806255468478464 = some (⟨#[45, 49, 46, 53]⟩ : ByteArray) := by decide +kernel
theorem e_fromunix : clock_FromUnix.f 5 = some 4617315517961601024 := by decide +kernel
theorem e_five : (FloatKind.f64.format.order 4617315517961601024 4617315517961601024 == some .eq) = true := by decide +kernel
theorem e_same {b : Nat} (h : Flt.key b = none) : clock_Same.f b b = some true := by
  have h1 : FloatKind.f64.format.order b b = none := Flt.order_nan (.inl h)
  unfold clock_Same.f
  rw [h1]
  rfl
theorem e_unix {b : Nat} (h : Flt.key b = none) : clock_Unix.f 3 b = some 0 := by
  have h1 : FloatKind.f64.format.order b b = none := Flt.order_nan (.inl h)
  unfold clock_Unix.f
  rw [h1]
  rfl

def stevedorelaw4_told.f : Option Bool := some true
set_option maxHeartbeats 8000000 in
set_option maxRecDepth 100000 in
theorem stevedorelaw4_told.calls (r : Bool) (w : World) (h : stevedorelaw4_told.f = some r) (hv : Vars w) :
    Calls Tryd.prog 31 #[] w fun e w' => e = .returned (.bool r) ∧ Below w.heap.size w w' := by
  obtain rfl := Option.some.inj h
  clear h
  have HV := Aside0.mk hv
  clear hv
  have h1 := e_eq
  have h2 := e_five
  go_enter Tryd.func31, Tryd.ntmps31
  go_wp2_with (first
    | (go_at_call 20; (with_reducible refine (none_calls _).mono ?_); rintro e w1 ⟨b, rfl, HN, HB1⟩; have HN' := Aside0.mk HN; clear HN; have HBB := Aside0.mk HB1; clear HB1)
    | (go_at_call 32; (with_reducible refine (clock_Parse.calls 12 _ _ _ _ e_parse).mono ?_); rintro e w2 ⟨rfl, HB2⟩; have HB2' := Aside0.mk (below_then HBB.out HBB.out.size HB2); clear HB2 HBB; have HBB := HB2'; clear HB2')
    | (go_at_call 40; (with_reducible refine (clock_Dos.calls 12 _ _ _ e_dos).mono ?_); rintro e w2 ⟨rfl, HB2⟩; have HB2' := Aside0.mk (below_then HBB.out HBB.out.size HB2); clear HB2 HBB; have HBB := HB2'; clear HB2')
    | (go_at_call 37; (with_reducible refine (clock_Text.calls 12 _ _ _ e_text (HV.out.below HBB.out)).mono ?_); rintro e w2 ⟨rfl, HB2⟩; have HB2' := Aside0.mk (below_then HBB.out HBB.out.size HB2); clear HB2 HBB; have HBB := HB2'; clear HB2')
    | (go_at_call 72; (with_reducible refine (clock_Same.calls _ _ _ _ (e_same HN'.out)).mono ?_); rintro e w2 ⟨rfl, HB2⟩; have HB2' := Aside0.mk (below_then HBB.out HBB.out.size HB2.below); clear HB2 HBB; have HBB := HB2'; clear HB2')
    | (go_at_call 39; (with_reducible refine (clock_Unix.calls 3 _ _ _ (e_unix HN'.out)).mono ?_); rintro e w2 ⟨rfl, HB2⟩; have HB2' := Aside0.mk (below_then HBB.out HBB.out.size HB2); clear HB2 HBB; have HBB := HB2'; clear HB2')
    | (go_at_call 41; (with_reducible refine (clock_Days.calls _ _ _ _ _ e_days).mono ?_); rintro e w2 ⟨rfl, HB2⟩; have HB2' := Aside0.mk (below_then HBB.out HBB.out.size HB2.below); clear HB2 HBB; have HBB := HB2'; clear HB2')
    | (go_at_call 47; (with_reducible refine (clock_FromUnix.calls _ _ _ e_fromunix).mono ?_); rintro e w2 ⟨rfl, HB2⟩; have HB2' := Aside0.mk (below_then HBB.out HBB.out.size HB2); clear HB2 HBB; have HBB := HB2'; clear HB2'))
  go_ret
  exact ⟨rfl, HBB.out⟩
end Go.Proofs.YtfmfikodnpnblaaDoor.ClkTold

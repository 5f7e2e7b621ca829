/- rate's told, which takes nothing: it answers true. By hand (its NaN is drawn). -/
import Derived.Test.YtfmfikodnpnblaaDoorRankOne
import Derived.Test.YtfmfikodnpnblaaDoorPRate1x
import Derived.Test.YtfmfikodnpnblaaDoorFltNan
import Derived.Test.YtfmfikodnpnblaaDoorPRateSx
set_option linter.unusedVariables false
set_option linter.unusedSimpArgs false
namespace Go.Proofs.YtfmfikodnpnblaaDoor.RateTold
open Go.RowKit Go.Proofs Go.Proofs.YtfmfikodnpnblaaDoorW.PrintWords Go.Proofs.YtfmfikodnpnblaaDoor.Base Go.Proofs.YtfmfikodnpnblaaDoor.Flt Go.Proofs.YtfmfikodnpnblaaDoorW.PrintLast Go.Proofs.YtfmfikodnpnblaaDoorW.PrintMore Go.Proofs.YtfmfikodnpnblaaDoor.PRate1 Go.Proofs.YtfmfikodnpnblaaDoor.RateLib Go.Proofs.YtfmfikodnpnblaaDoor.ClkLib Go.Proofs.YtfmfikodnpnblaaDoor.FltNone Go.Proofs.YtfmfikodnpnblaaDoor.RankOne Go.Proofs.YtfmfikodnpnblaaDoor.FltNan

theorem e_text0 : rate_Text.f 20 0 = some (⟨#[48, 46, 48, 48, 48]⟩ : ByteArray) := by decide +kernel
theorem e_text1 : rate_Text.f 20 4609434218613702656 = some (⟨#[49, 46, 53, 48, 48]⟩ : ByteArray) := by decide +kernel
theorem e_textn {b : Nat} (h : key b = none) : rate_Text.f 20 b = some (⟨#[78, 97, 78]⟩ : ByteArray) := by
  have h1 : FloatKind.f64.format.order b b = none := order_nan (.inl h)
  unfold rate_Text.f
  rw [h1]
  rfl
theorem sub_nan {b : Nat} (h : key b = none) : fvalid .sub b b = false := by
  have h0 : floatBits .sub .f64 b b = none := by
    show Ieee.Format.sub Ieee.double b b = none
    unfold Ieee.Format.sub
    unfold key at h
    rcases read_cases b with ⟨s, t, e⟩ | ⟨s, e⟩ | ⟨s, m, i, e, _⟩
    · rw [e]; rfl
    · rw [e] at h; cases h
    · rw [e] at h; cases h
  unfold fvalid
  rw [h0]
  rfl
theorem step_take (k : Nat) (acc l : List Nat) (i : Int) (x : Nat) (h0 : 0 ≤ i) (hi : i ≤ 1000) (h1 : i < (l.length : Int)) (hx : rdOf 0 l i = x) (hv : fvalid .sub x x = true) (ho : (FloatKind.f64.format.order (fop .sub x x) 0 == some .eq) = true) (ha : acc.length < 17592186044416) :
    rate_plain.l0 (k + 1) acc l (l.length : Int) i = rate_plain.l0 k (acc ++ [x]) l (l.length : Int) (i + 1) := by
  rw [rate_plain.l0, if_pos h1, if_pos h0, if_pos h1, hx, if_pos hv, if_pos ho, if_pos ha, show wrap64 (i + 1) = i + 1 by unfold wrap64; omega]
theorem step_skip (k : Nat) (acc l : List Nat) (i : Int) (x : Nat) (h0 : 0 ≤ i) (hi : i ≤ 1000) (h1 : i < (l.length : Int)) (hx : rdOf 0 l i = x) (hv : fvalid .sub x x = false) :
    rate_plain.l0 (k + 1) acc l (l.length : Int) i = rate_plain.l0 k acc l (l.length : Int) (i + 1) := by
  rw [rate_plain.l0, if_pos h1, if_pos h0, if_pos h1, hx, if_neg (by rw [hv]; decide), show wrap64 (i + 1) = i + 1 by unfold wrap64; omega]
theorem step_end (k : Nat) (acc l : List Nat) (i : Int) (h1 : ¬ i < (l.length : Int)) : rate_plain.l0 (k + 1) acc l (l.length : Int) i = some acc := by
  rw [rate_plain.l0, if_neg h1]
theorem e_plain {b : Nat} (h : key b = none) : rate_plain.f 19 [4607182418800017408, b, 4611686018427387904] = some [4607182418800017408, 4611686018427387904] := by
  have hb := sub_nan h
  have v1 : fvalid .sub 4607182418800017408 4607182418800017408 = true := by decide +kernel
  have v2 : fvalid .sub 4611686018427387904 4611686018427387904 = true := by decide +kernel
  have o1 : (FloatKind.f64.format.order (fop .sub 4607182418800017408 4607182418800017408) 0 == some .eq) = true := by decide +kernel
  have o2 : (FloatKind.f64.format.order (fop .sub 4611686018427387904 4611686018427387904) 0 == some .eq) = true := by decide +kernel
  unfold rate_plain.f
  have hl : (([4607182418800017408, b, 4611686018427387904] : List Nat).length : Int) = 3 := rfl
  rw [step_take 18 [] [4607182418800017408, b, 4611686018427387904] 0 4607182418800017408 (by decide) (by decide) (by rw [hl]; decide) rfl v1 o1 (by decide)]
  rw [step_skip 17 _ [4607182418800017408, b, 4611686018427387904] (0 + 1) b (by decide) (by decide) (by rw [hl]; decide) rfl hb]
  rw [step_take 16 _ [4607182418800017408, b, 4611686018427387904] (0 + 1 + 1) 4611686018427387904 (by decide) (by decide) (by rw [hl]; decide) rfl v2 o2 (by decide)]
  rw [step_end 15 _ _ _ (by rw [hl]; decide)]
  rfl
theorem e_mean {b : Nat} (h : key b = none) : rate_Mean.f 19 [4607182418800017408, b, 4611686018427387904] = some 4609434218613702656 := by
  unfold rate_Mean.f
  rw [e_plain h, Option.bind_some]
  decide +kernel
theorem e_mean_eq : (FloatKind.f64.format.order 4609434218613702656 4609434218613702656 == some .eq) = true := by decide +kernel
theorem e_sames {a b : Nat} (ha : key a = none) (hb : key b = none) : PRateS.stevedoreref4_Same.f a b = some true := by
  have h1 : FloatKind.f64.format.order a b = none := order_nan (.inl ha)
  have h2 : FloatKind.f64.format.order a a = none := order_nan (.inl ha)
  have h3 : FloatKind.f64.format.order b b = none := order_nan (.inl hb)
  unfold PRateS.stevedoreref4_Same.f
  rw [h1, h2, h3]
  rfl
set_option maxRecDepth 100000 in
theorem ratio_zero (w : World) : Calls Tryd.prog 21 #[.int .i64 0, .int .i64 0] w fun e w' => ∃ b, e = .returned (.float .f64 b) ∧ key b = none ∧ Below w.heap.size w w' := by
  have hz : floatOfInt .f64 0 = 0 := by decide +kernel
  obtain ⟨b, hb, hr⟩ := quo_nan (P := Tryd.prog) 27 w
  have HB := Aside0.mk hb
  clear hb
  go_enter Tryd.func21, Tryd.ntmps21
  go_wp2
  go_ret
  exact ⟨b, rfl, HB.out, below_drew (Below.refl _ _)⟩
theorem lit_C (w : World) (cs : List Nat) (hl : cs.length ≤ 1000) (t : TypeId) : Kd.C Kd.float (w.alloc (.cells (cs.map fun x => Value.float .f64 x).toArray t)) (some ⟨w.heap.size, 0, none⟩) cs.length cs := by
  refine Kd.C_of_reads (d := (0 : Nat)) (h1 := fun _ => rfl) ⟨rfl, by omega, fun _ => ⟨_, rfl, fun j hj => ?_⟩⟩
  have e : (⟨w.heap.size, 0, none⟩ : Addr).add j = ⟨w.heap.size, j, none⟩ := by
    unfold Addr.add
    by_cases h0 : j = 0
    · subst h0; rfl
    · simp [h0]
  rw [e, World.cell?_alloc_at _ _ _ _ rfl, List.getElem?_toArray, List.getElem?_map, List.getElem?_eq_getElem hj]
  rw [List.getD_eq_getElem?_getD, List.getElem?_eq_getElem hj]
  rfl
theorem mean_lit {b : Nat} (h : key b = none) (w : World) : Calls Tryd.prog 22 #[.slice (some ⟨w.heap.size, 0, none⟩) 3 3] (w.alloc (.cells #[.float .f64 4607182418800017408, .float .f64 b, .float .f64 4611686018427387904] 27)) fun e w' => e = .returned (.float .f64 4609434218613702656) ∧ Below (w.alloc (.cells #[.float .f64 4607182418800017408, .float .f64 b, .float .f64 4611686018427387904] 27)).heap.size (w.alloc (.cells #[.float .f64 4607182418800017408, .float .f64 b, .float .f64 4611686018427387904] 27)) w' :=
  rate_Mean.calls 19 (some ⟨w.heap.size, 0, none⟩) 3 [4607182418800017408, b, 4611686018427387904] _ _ (lit_C w [4607182418800017408, b, 4611686018427387904] (by simp) 27) (by simp) (e_mean h)
def stevedorelaw36_told.f : Option Bool := some true
set_option maxHeartbeats 8000000 in
set_option maxRecDepth 100000 in
theorem stevedorelaw36_told.calls (r : Bool) (w : World) (h : stevedorelaw36_told.f = some r) (hv : Vars w) :
    Calls Tryd.prog 15 #[] w fun e w' => e = .returned (.bool r) ∧ Below w.heap.size w w' := by
  obtain rfl := Option.some.inj h
  clear h
  have HV := Aside0.mk hv
  clear hv
  have h1 := e_mean_eq
  go_enter Tryd.func15, Tryd.ntmps15
  go_wp2_with (first
    | (go_at_call 20; (with_reducible refine (none_calls _).mono ?_); rintro e w1 ⟨b, rfl, HN, HB1⟩; have HN' := Aside0.mk HN; clear HN; have HBB := Aside0.mk HB1; clear HB1)
    | (go_at_call 30; (with_reducible refine (rate_Text.calls 20 _ _ _ e_text0 (HV.out.below (by repeat (first | (with_reducible first | exact HBB.out | apply below_alloc | apply pw_below_drewN | apply below_drew1) | exact HBB.out)))).mono ?_); rintro e w2 ⟨rfl, HB2⟩; have HB2' := Aside0.mk (below_then (by repeat (first | (with_reducible first | exact HBB.out | apply below_alloc | apply pw_below_drewN | apply below_drew1) | exact HBB.out)) (below_size (by repeat (first | (with_reducible first | exact HBB.out | apply below_alloc | apply pw_below_drewN | apply below_drew1) | exact HBB.out))) HB2); clear HB2 HBB; have HBB := HB2'; clear HB2')
    | (go_at_call 30; (with_reducible refine (rate_Text.calls 20 _ _ _ e_text1 (HV.out.below (by repeat (first | (with_reducible first | exact HBB.out | apply below_alloc | apply pw_below_drewN | apply below_drew1) | exact HBB.out)))).mono ?_); rintro e w2 ⟨rfl, HB2⟩; have HB2' := Aside0.mk (below_then (by repeat (first | (with_reducible first | exact HBB.out | apply below_alloc | apply pw_below_drewN | apply below_drew1) | exact HBB.out)) (below_size (by repeat (first | (with_reducible first | exact HBB.out | apply below_alloc | apply pw_below_drewN | apply below_drew1) | exact HBB.out))) HB2); clear HB2 HBB; have HBB := HB2'; clear HB2')
    | (go_at_call 30; (with_reducible refine (rate_Text.calls 20 _ _ _ (e_textn HN'.out) (HV.out.below (by repeat (first | (with_reducible first | exact HBB.out | apply below_alloc | apply pw_below_drewN | apply below_drew1) | exact HBB.out)))).mono ?_); rintro e w2 ⟨rfl, HB2⟩; have HB2' := Aside0.mk (below_then (by repeat (first | (with_reducible first | exact HBB.out | apply below_alloc | apply pw_below_drewN | apply below_drew1) | exact HBB.out)) (below_size (by repeat (first | (with_reducible first | exact HBB.out | apply below_alloc | apply pw_below_drewN | apply below_drew1) | exact HBB.out))) HB2); clear HB2 HBB; have HBB := HB2'; clear HB2')
    | (go_at_call 22; (with_reducible refine (mean_lit HN'.out _).mono ?_); rintro e w2 ⟨rfl, HB2⟩; have HB2' := Aside0.mk (below_then (by repeat (first | (with_reducible first | exact HBB.out | apply below_alloc | apply pw_below_drewN | apply below_drew1) | exact HBB.out)) (below_size (by repeat (first | (with_reducible first | exact HBB.out | apply below_alloc | apply pw_below_drewN | apply below_drew1) | exact HBB.out))) HB2); clear HB2 HBB; have HBB := HB2'; clear HB2')
    | (go_at_call 21; (with_reducible refine (ratio_zero _).mono ?_); rintro e w2 ⟨z, rfl, HZ, HB2⟩; have HZ' := Aside0.mk HZ; clear HZ; have HB2' := Aside0.mk (below_then (by repeat (first | (with_reducible first | exact HBB.out | apply below_alloc | apply pw_below_drewN | apply below_drew1) | exact HBB.out)) (below_size (by repeat (first | (with_reducible first | exact HBB.out | apply below_alloc | apply pw_below_drewN | apply below_drew1) | exact HBB.out))) HB2); clear HB2 HBB; have HBB := HB2'; clear HB2')
    | (go_at_call 49; (with_reducible refine (PRateS.stevedoreref4_Same.calls _ _ _ _ (e_sames HZ'.out HN'.out)).mono ?_); rintro e w2 ⟨rfl, HB2⟩; have HB2' := Aside0.mk (below_then (by repeat (first | (with_reducible first | exact HBB.out | apply below_alloc | apply pw_below_drewN | apply below_drew1) | exact HBB.out)) (below_size (by repeat (first | (with_reducible first | exact HBB.out | apply below_alloc | apply pw_below_drewN | apply below_drew1) | exact HBB.out))) HB2.below); clear HB2 HBB; have HBB := HB2'; clear HB2')
    | (go_at_call 16; (with_reducible refine (rank_one _ _ _).mono ?_); rintro e w2 ⟨B, cb, rfl, HB2⟩; have HB2' := Aside0.mk (below_then (by repeat (first | (with_reducible first | exact HBB.out | apply below_alloc | apply pw_below_drewN | apply below_drew1) | exact HBB.out)) (below_size (by repeat (first | (with_reducible first | exact HBB.out | apply below_alloc | apply pw_below_drewN | apply below_drew1) | exact HBB.out))) HB2); clear HB2 HBB; have HBB := HB2'; clear HB2'))
  go_ret
  exact ⟨rfl, (by repeat (first | (with_reducible first | exact HBB.out | apply below_alloc | apply pw_below_drewN | apply below_drew1) | exact HBB.out))⟩
end Go.Proofs.YtfmfikodnpnblaaDoor.RateTold

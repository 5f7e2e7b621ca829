/- Quotients and differences whose NaN is drawn: contracts that tell a double up to the bits of a NaN. -/
import Derived.Test.YtfmfikodnpnblaaDoorFltNan
set_option linter.unusedVariables false
namespace Go.Proofs.YtfmfikodnpnblaaDoor.RateNan
open Go.RowKit Go.Proofs Go.Proofs.YtfmfikodnpnblaaDoorW.PrintWords Go.Proofs.YtfmfikodnpnblaaDoor.Flt Go.Proofs.YtfmfikodnpnblaaDoor.FltNone Go.Proofs.YtfmfikodnpnblaaDoor.FltNan
attribute [local go_sem] fop_run fint_run fofint_run
theorem run_store_float (P : Program) (w : World) (a : Addr) (m : Mode) (x : Nat) : (store a (.float .f64 x) m).run P w = stored P w a (.float .f64 x) m := run_store P w a _ m rfl
def qnan : Nat := 9221120237041090561
theorem qnan_key : key qnan = none := nan_key (read_nan _ 2251799813685248 (by decide) (.inl (by decide)))
/-- the same double, but for a NaN's bits. -/
def Sm (b r : Nat) : Prop := b = r ∨ (key b = none ∧ key r = none)
theorem Sm.refl (b : Nat) : Sm b b := .inl rfl
def ratio (n m : Int) : Nat := if fvalid .quo (floatOfInt .f64 n) (floatOfInt .f64 m) = true then fop .quo (floatOfInt .f64 n) (floatOfInt .f64 m) else qnan
theorem quo_nan_run {P : Program} (t : TypeId) (x y : Nat) (h : fvalid .quo x y = false) (w : World) : (binOp .quo t (.float .f64 x) (.float .f64 y)).run P w = .ok (.float .f64 (nanOf x y w)) w.drew := by
  have h0 : FloatKind.f64.format.div x y = none := by
    unfold fvalid at h
    show floatBits .quo .f64 x y = none
    cases e : floatBits .quo .f64 x y with
    | none => rfl
    | some r => rw [e] at h; cases h
  have hf : Question.forced (.nanBits .f64 x y) = false := rfl
  simp only [binOp, Op.floatArith, h0]
  simp [hf]
  rfl
theorem key_one : ∃ a, key 4607182418800017408 = some a ∧ a.natAbs < p2 2150 := by
  have e : Ieee.double.read 4607182418800017408 = .number false 4503599627370496 (-52) := by decide +kernel
  refine ⟨units false 4503599627370496 (-52), by unfold key; rw [e]; rfl, ?_⟩
  have := units_bound (s := false) (m := 4503599627370496) (i := -52) (by omega) (by omega) (by omega)
  generalize p2 2150 = B at *
  omega
theorem sub_invalid {b : Nat} (h : key b = none) : fvalid .sub 4607182418800017408 b = false := by
  have h0 : floatBits .sub .f64 4607182418800017408 b = none := by
    show Ieee.Format.sub Ieee.double 4607182418800017408 b = none
    have e : Ieee.double.read 4607182418800017408 = .number false 4503599627370496 (-52) := by decide +kernel
    unfold Ieee.Format.sub
    unfold key at h
    rcases read_cases b with ⟨s, t, eb⟩ | ⟨s, eb⟩ | ⟨s, m, i, eb, _⟩
    · rw [e, eb]; rfl
    · rw [eb] at h; cases h
    · rw [eb] at h; cases h
  unfold fvalid
  rw [h0]
  rfl
theorem sub_valid {b : Nat} {a : Int} (h : key b = some a) : fvalid .sub 4607182418800017408 b = true := by
  have h0 : (floatBits .sub .f64 4607182418800017408 b).isSome = true := by
    show (Ieee.Format.sub Ieee.double 4607182418800017408 b).isSome = true
    have e : Ieee.double.read 4607182418800017408 = .number false 4503599627370496 (-52) := by decide +kernel
    unfold Ieee.Format.sub
    unfold key at h
    rcases read_cases b with ⟨s, t, eb⟩ | ⟨s, eb⟩ | ⟨s, m, i, eb, _⟩
    · rw [eb] at h; cases h
    · rw [e, eb]; rfl
    · rw [e, eb]; rfl
  exact h0
theorem sub_key {b : Nat} (h : fvalid .sub 4607182418800017408 b = false) : key b = none := by
  cases e : key b with
  | none => rfl
  | some a => rw [sub_valid e] at h; cases h
theorem ratio_go (f : Nat) (n m : Int) (w : World) (H : (∀ b, fvalid .quo (floatOfInt .f64 n) (floatOfInt .f64 m) = true → b = fop .quo (floatOfInt .f64 n) (floatOfInt .f64 m) → Calls Tryd.prog f #[.int .i64 n, .int .i64 m] w fun e w' => e = .returned (.float .f64 b) ∧ Below w.heap.size w w'))
    (H2 : fvalid .quo (floatOfInt .f64 n) (floatOfInt .f64 m) = false → Calls Tryd.prog f #[.int .i64 n, .int .i64 m] w fun e w' => ∃ b, e = .returned (.float .f64 b) ∧ key b = none ∧ Below w.heap.size w w') :
    Calls Tryd.prog f #[.int .i64 n, .int .i64 m] w fun e w' => ∃ b, e = .returned (.float .f64 b) ∧ Sm b (ratio n m) ∧ Below w.heap.size w w' := by
  unfold ratio
  cases hv : fvalid .quo (floatOfInt .f64 n) (floatOfInt .f64 m) with
  | true =>
    rw [if_pos rfl]
    exact (H _ hv rfl).mono fun e w' ⟨h1, h2⟩ => ⟨_, h1, .inl rfl, h2⟩
  | false =>
    rw [if_neg (by decide)]
    exact (H2 hv).mono fun e w' ⟨b, h1, h2, h3⟩ => ⟨b, h1, .inr ⟨h2, qnan_key⟩, h3⟩
set_option maxRecDepth 100000 in
theorem ratio_calls (n m : Int) (w : World) : Calls Tryd.prog 21 #[.int .i64 n, .int .i64 m] w fun e w' => ∃ b, e = .returned (.float .f64 b) ∧ Sm b (ratio n m) ∧ Below w.heap.size w w' := by
  refine ratio_go _ n m w (fun b hv hb => ?_) (fun hv => ?_)
  · have HB := Aside0.mk hb
    clear hb
    go_enter Tryd.func21, Tryd.ntmps21
    go_wp2
    go_ret
    exact ⟨by rw [HB.out]; rfl, Below.refl _ _⟩
  · have hx := quo_nan_run (P := Tryd.prog) 27 _ _ hv
    go_enter Tryd.func21, Tryd.ntmps21
    go_wp2
    go_ret
    exact ⟨_, rfl, nanOf_key _ _ _, below_drew (Below.refl _ _)⟩
set_option maxRecDepth 100000 in
theorem rratio_calls (n m : Int) (w : World) : Calls Tryd.prog 57 #[.int .i64 n, .int .i64 m] w fun e w' => ∃ b, e = .returned (.float .f64 b) ∧ Sm b (ratio n m) ∧ Below w.heap.size w w' := by
  refine ratio_go _ n m w (fun b hv hb => ?_) (fun hv => ?_)
  · have HB := Aside0.mk hb
    clear hb
    go_enter Tryd.func57, Tryd.ntmps57
    go_wp2
    go_ret
    exact ⟨by rw [HB.out]; rfl, Below.refl _ _⟩
  · have hx := quo_nan_run (P := Tryd.prog) 27 _ _ hv
    go_enter Tryd.func57, Tryd.ntmps57
    go_wp2
    go_ret
    exact ⟨_, rfl, nanOf_key _ _ _, below_drew (Below.refl _ _)⟩
def rate_Ratio.f (n m : Int) : Option Nat := some (ratio n m)
def stevedoreref35_Ratio.f (n m : Int) : Option Nat := some (ratio n m)
def stevedoreref4_None.f : Option Nat := some qnan
theorem rate_Ratio.calls (a0 a1 : Int) (r : Nat) (w : World) (h : rate_Ratio.f a0 a1 = some r) : Calls Tryd.prog 21 #[.int .i64 a0, .int .i64 a1] w fun e w' => ∃ b, e = .returned (.float .f64 b) ∧ Sm b r ∧ Below w.heap.size w w' := by
  obtain rfl := Option.some.inj h; exact ratio_calls a0 a1 w
theorem stevedoreref35_Ratio.calls (a0 a1 : Int) (r : Nat) (w : World) (h : stevedoreref35_Ratio.f a0 a1 = some r) : Calls Tryd.prog 57 #[.int .i64 a0, .int .i64 a1] w fun e w' => ∃ b, e = .returned (.float .f64 b) ∧ Sm b r ∧ Below w.heap.size w w' := by
  obtain rfl := Option.some.inj h; exact rratio_calls a0 a1 w
theorem stevedoreref4_None.calls (r : Nat) (w : World) (h : stevedoreref4_None.f = some r) : Calls Tryd.prog 20 #[] w fun e w' => ∃ b, e = .returned (.float .f64 b) ∧ Sm b r ∧ Below w.heap.size w w' := by
  obtain rfl := Option.some.inj h; exact (none_calls w).mono fun e w' ⟨b, h1, h2, h3⟩ => ⟨b, h1, .inr ⟨h2, qnan_key⟩, h3⟩
theorem sm_valid {b r : Nat} (h : Sm b r) (hv : fvalid .sub 4607182418800017408 r = true) : b = r := by
  rcases h with h | ⟨_, h⟩
  · exact h
  · rw [sub_invalid h] at hv; cases hv
theorem sm_nan {b r : Nat} (h : Sm b r) (hv : fvalid .sub 4607182418800017408 r = false) : fvalid .sub 4607182418800017408 b = false := by
  rcases h with h | ⟨h, _⟩
  · rw [h]; exact hv
  · exact sub_invalid h
/-- 1 less such a one: where it is real, it is it. -/
theorem rate_Ratio.calls_valid (a0 a1 : Int) (r : Nat) (w : World) (h : rate_Ratio.f a0 a1 = some r) (hv : fvalid .sub 4607182418800017408 r = true) : Calls Tryd.prog 21 #[.int .i64 a0, .int .i64 a1] w fun e w' => e = .returned (.float .f64 r) ∧ Below w.heap.size w w' :=
  (rate_Ratio.calls a0 a1 r w h).mono fun e w' ⟨b, h1, h2, h3⟩ => ⟨by rw [h1, sm_valid h2 hv], h3⟩
theorem stevedoreref35_Ratio.calls_valid (a0 a1 : Int) (r : Nat) (w : World) (h : stevedoreref35_Ratio.f a0 a1 = some r) (hv : fvalid .sub 4607182418800017408 r = true) : Calls Tryd.prog 57 #[.int .i64 a0, .int .i64 a1] w fun e w' => e = .returned (.float .f64 r) ∧ Below w.heap.size w w' :=
  (stevedoreref35_Ratio.calls a0 a1 r w h).mono fun e w' ⟨b, h1, h2, h3⟩ => ⟨by rw [h1, sm_valid h2 hv], h3⟩
/-- where it is a NaN: so is 1 less it. -/
def SubNan (q z : Nat) (w : World) : Prop := key z = none ∧ (binOp .sub 27 (.float .f64 4607182418800017408) (.float .f64 q)).run Tryd.prog w = .ok (.float .f64 z) w.drew
theorem rate_Ratio.calls_nan (a0 a1 : Int) (r : Nat) (w : World) (h : rate_Ratio.f a0 a1 = some r) (hv : fvalid .sub 4607182418800017408 r = false) : Calls Tryd.prog 21 #[.int .i64 a0, .int .i64 a1] w fun e w' => ∃ q z, e = .returned (.float .f64 q) ∧ SubNan q z w' ∧ Below w.heap.size w w' :=
  (rate_Ratio.calls a0 a1 r w h).mono fun e w' ⟨b, h1, h2, h3⟩ => ⟨b, _, h1, ⟨nanOf_key _ _ _, sub_nan_run _ _ _ (sm_nan h2 hv) w'⟩, h3⟩
theorem stevedoreref35_Ratio.calls_nan (a0 a1 : Int) (r : Nat) (w : World) (h : stevedoreref35_Ratio.f a0 a1 = some r) (hv : fvalid .sub 4607182418800017408 r = false) : Calls Tryd.prog 57 #[.int .i64 a0, .int .i64 a1] w fun e w' => ∃ q z, e = .returned (.float .f64 q) ∧ SubNan q z w' ∧ Below w.heap.size w w' :=
  (stevedoreref35_Ratio.calls a0 a1 r w h).mono fun e w' ⟨b, h1, h2, h3⟩ => ⟨b, _, h1, ⟨nanOf_key _ _ _, sub_nan_run _ _ _ (sm_nan h2 hv) w'⟩, h3⟩
end Go.Proofs.YtfmfikodnpnblaaDoor.RateNan

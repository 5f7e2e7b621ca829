/- Lists of doubles that are known up to the bits of NaNs; Mean and Spread do not tell them apart. -/
import Derived.Test.YtfmfikodnpnblaaDoorRateNan
import Derived.Test.YtfmfikodnpnblaaDoorPRate1x
import Derived.Deep.Grids
set_option linter.unusedVariables false
namespace Go.Proofs.YtfmfikodnpnblaaDoor.RateNanS
open Go.RowKit Go.Proofs Go.Deep Go.Proofs.YtfmfikodnpnblaaDoorW.PrintWords Go.Proofs.YtfmfikodnpnblaaDoor.Flt Go.Proofs.YtfmfikodnpnblaaDoor.RateNan
open PRate1 (rate_plain.l0 rate_plain.f rate_Mean.l0 rate_Mean.f rate_Spread.l0 rate_Spread.f rate_Mean.calls rate_Spread.calls)
def floatS : Kd Nat where
  sz := 1
  E := []
  K := fun _ x cs => ∃ b, cs = [.float .f64 b] ∧ Sm b x
  M := fun _ _ _ x cs => ∃ b, cs = [.float .f64 b] ∧ Sm b x
  K_len := fun ⟨b, h, _⟩ => by rw [h]; rfl
  K_one := fun ⟨b, h, _⟩ u hu => by
    rw [h] at hu
    rw [List.mem_singleton.1 hu]
    rfl
  K_below := fun _ h => h
  K_of_M := fun h => h
  M_mono := fun _ h => h
  M_bound := fun h => h
  M_move := fun _ h => h
  M_lower := fun _ h => h
def SmL (ys xs : List Nat) : Prop := ys.length = xs.length ∧ ∀ j, j < xs.length → Sm (ys.getD j 0) (xs.getD j 0)
theorem C_float {w : World} {A : Option Addr} {n : Nat} {xs : List Nat} (h : Kd.C floatS w A n xs) : ∃ ys, SmL ys xs ∧ Kd.C Kd.float w A n ys := by
  obtain ⟨hl, hn, hx⟩ := h
  by_cases h0 : 0 < n
  · obtain ⟨x, rfl, hc⟩ := hx h0
    have hb : ∀ j, j < n → ∃ b : Nat, Sm b (xs.getD j 0) ∧ w.cell? (x.add j) = some (.float .f64 b) := fun j hj => by
      have hj' : j < xs.length := by omega
      obtain ⟨cs, _, ⟨b, rfl, hs⟩, hcell⟩ := hc j xs[j] (List.getElem?_eq_getElem hj')
      refine ⟨b, by rw [List.getD_eq_getElem?_getD, List.getElem?_eq_getElem hj']; exact hs, ?_⟩
      have := hcell 0 _ rfl
      rw [show j * floatS.sz + 0 = j from Nat.mul_one j] at this
      exact this
    obtain ⟨B, hB⟩ := choose_lt hb
    refine ⟨(List.range n).map B, ⟨by simp; omega, fun j hj => ?_⟩, ⟨by simp, hn, fun _ => ⟨x, rfl, fun j p hj => ?_⟩⟩⟩
    · rw [List.getD_eq_getElem?_getD, List.getElem?_map, List.getElem?_range (by omega)]
      exact (hB j (by omega)).1
    · rw [List.getElem?_map] at hj
      obtain ⟨q, hq, rfl⟩ := Option.map_eq_some_iff.1 hj
      obtain ⟨hql, hqe⟩ := List.getElem?_eq_some_iff.1 hq
      rw [List.getElem_range] at hqe
      subst hqe
      rw [List.length_range] at hql
      refine ⟨[.float .f64 (B j)], rfl, rfl, fun i u hu => ?_⟩
      match i, hu with
      | 0, hu => injection hu with hu; subst hu; rw [show j * Kd.float.sz + 0 = j from Nat.mul_one j]; exact (hB j hql).2
  · obtain rfl : n = 0 := by omega
    obtain rfl : xs = [] := List.length_eq_zero_iff.1 hl
    exact ⟨[], ⟨rfl, fun j hj => absurd hj (by simp)⟩, ⟨rfl, hn, fun h => absurd h (by omega)⟩⟩
theorem sub_none {b : Nat} (h : key b = none) : fvalid .sub b b = false := by
  have h0 : floatBits .sub .f64 b b = none := by
    show Ieee.Format.sub Ieee.double b b = none
    unfold Ieee.Format.sub
    unfold key at h
    rcases read_cases b with ⟨s, t, e⟩ | ⟨s, e⟩ | ⟨s, m, i, e, _⟩
    · rw [e]; rfl
    · rw [e] at h; cases h
    · rw [e] at h; cases h
  unfold fvalid
  rw [h0]
  rfl
theorem SmL.rd {ys xs : List Nat} (h : SmL ys xs) (i : Int) : Sm (rdOf 0 ys i) (rdOf 0 xs i) := by
  unfold rdOf
  by_cases hi : i.toNat < xs.length
  · exact h.2 _ hi
  · rw [List.getD_eq_getElem?_getD, List.getD_eq_getElem?_getD, List.getElem?_eq_none (by have := h.1; omega), List.getElem?_eq_none (by have := h.1; omega)]
    exact Sm.refl _
theorem plain_sm {ys xs : List Nat} (h : SmL ys xs) (k : Nat) : ∀ (acc : List Nat) (n i : Int), rate_plain.l0 k acc ys n i = rate_plain.l0 k acc xs n i := by
  induction k with
  | zero => intro acc n i; rfl
  | succ k ih =>
    intro acc n i
    rw [rate_plain.l0, rate_plain.l0, h.1]
    rcases h.rd i with e | ⟨e1, e2⟩
    · rw [e]; simp only [ih]
    · rw [sub_none e1, sub_none e2]; simp only [Bool.false_eq_true, if_false, ih]
theorem plain_f_sm {ys xs : List Nat} (h : SmL ys xs) (k : Nat) : rate_plain.f k ys = rate_plain.f k xs := by
  unfold rate_plain.f
  rw [plain_sm h, h.1]
theorem rate_Mean.callsS (k : Nat) (A0 : Option Addr) (c0 : Nat) (l0 : List Nat) (r : Nat) (w : World) (hr0 : Kd.C floatS w A0 l0.length l0) (hc0 : l0.length ≤ c0) (h : PRate1.rate_Mean.f k l0 = some r) :
    Calls Tryd.prog 22 #[.slice A0 l0.length c0] w fun e w' => e = .returned (.float .f64 r) ∧ Below w.heap.size w w' := by
  obtain ⟨ys, hs, hC⟩ := C_float hr0
  have hy : PRate1.rate_Mean.f k ys = some r := by
    rw [← h]; unfold PRate1.rate_Mean.f; rw [plain_f_sm hs]
  rw [← hs.1] at hC hc0 ⊢
  exact PRate1.rate_Mean.calls k A0 c0 ys r w hC hc0 hy
theorem rate_Spread.callsS (k : Nat) (A0 : Option Addr) (c0 : Nat) (l0 : List Nat) (r : Nat) (w : World) (hr0 : Kd.C floatS w A0 l0.length l0) (hc0 : l0.length ≤ c0) (h : PRate1.rate_Spread.f k l0 = some r) :
    Calls Tryd.prog 23 #[.slice A0 l0.length c0] w fun e w' => e = .returned (.float .f64 r) ∧ Below w.heap.size w w' := by
  obtain ⟨ys, hs, hC⟩ := C_float hr0
  have hy : PRate1.rate_Spread.f k ys = some r := by
    rw [← h]; unfold PRate1.rate_Spread.f; rw [plain_f_sm hs]
  rw [← hs.1] at hC hc0 ⊢
  exact PRate1.rate_Spread.calls k A0 c0 ys r w hC hc0 hy
theorem sm_ne {q t : Nat} (h : Sm q t) (ht : (FloatKind.f64.format.order t t != some .eq) = true) : (FloatKind.f64.format.order q q != some .eq) = true := by
  rcases h with rfl | ⟨h, _⟩
  · exact ht
  · rw [show FloatKind.f64.format.order q q = none from order_nan (.inl h)]; rfl
theorem real_of {t z : Nat} {o : Ordering} (h : (FloatKind.f64.format.order t z == some o) = true) : key t ≠ none := fun e => by
  rw [show FloatKind.f64.format.order t z = none from order_nan (.inl e)] at h; cases h
theorem rate_Ratio.calls_real (a0 a1 : Int) (r : Nat) (w : World) (h : RateNan.rate_Ratio.f a0 a1 = some r) (hk : key r ≠ none) : Calls Tryd.prog 21 #[.int .i64 a0, .int .i64 a1] w fun e w' => e = .returned (.float .f64 r) ∧ Below w.heap.size w w' :=
  (RateNan.rate_Ratio.calls a0 a1 r w h).mono fun e w' ⟨b, h1, h2, h3⟩ => ⟨by rcases h2 with h2 | ⟨_, h2⟩; rw [h1, h2]; exact absurd h2 hk, h3⟩
end Go.Proofs.YtfmfikodnpnblaaDoor.RateNanS

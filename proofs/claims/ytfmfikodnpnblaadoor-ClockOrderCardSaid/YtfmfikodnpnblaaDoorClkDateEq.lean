/- What clock.Date and clock.Dos come to. -/
import Derived.Test.YtfmfikodnpnblaaDoorClkFloat
set_option linter.unusedVariables false
set_option linter.unusedSimpArgs false
namespace Go.Proofs.YtfmfikodnpnblaaDoor.ClkDateEq
open Go.RowKit Go.Proofs Go.Proofs.YtfmfikodnpnblaaDoorW.PrintWords Go.Proofs.YtfmfikodnpnblaaDoor.PClk1 Go.Proofs.YtfmfikodnpnblaaDoor.ClkDate Go.Proofs.YtfmfikodnpnblaaDoor.ClkLib Go.Proofs.YtfmfikodnpnblaaDoor.ClkDays Go.Proofs.YtfmfikodnpnblaaDoor.Flt Go.Proofs.YtfmfikodnpnblaaDoor.FltClk Go.Proofs.YtfmfikodnpnblaaDoor.ClkFloat Go.Proofs.YtfmfikodnpnblaaDoor.Cal Go.Proofs.YtfmfikodnpnblaaDoor.Civil

def dateOf (s : Int) : Int × Int × Int × Int × Int × Int :=
  (yearOf (s / 86400), monthOf (s / 86400), dayOf (s / 86400), s % 86400 / 3600, s % 86400 / 60 % 60, s % 86400 % 60)
set_option maxHeartbeats 4000000 in
theorem Date_eq (k : Nat) (s : Int) (hk : 1 ≤ k) (h0 : -1099511627776 ≤ s) (h1 : s ≤ 1099511627776) : clock_Date.f k s = some (dateOf s) := by
  obtain ⟨k, rfl⟩ : ∃ j, k = j + 1 := ⟨k - 1, by omega⟩
  unfold clock_Date.f dateOf
  rw [if_neg (by omega), decide_eq_false (by omega), clock_Date.j0, if_neg (by decide), down_eq _ _ (by omega) (by omega) (by omega), Option.bind_some]
  obtain ⟨n, hn⟩ : ∃ n, s / 86400 = n := ⟨_, rfl⟩
  obtain ⟨r, hr⟩ : ∃ r, s % 86400 = r := ⟨_, rfl⟩
  have hnb : -20000000 ≤ n ∧ n ≤ 20000000 := by omega
  have hrb : 0 ≤ r ∧ r < 86400 := by omega
  dsimp only
  rw [hn, hr]
  clear hn hr
  rw [w64 (n := n + 719468) (by omega), down_eq _ _ (by omega) (by omega) (by omega), Option.bind_some]
  dsimp only
  obtain ⟨f0, f1, f2, f3, f4⟩ := day_facts n
  have fi := doy_le n
  have fm := mon_le n
  obtain ⟨fd0, fd1⟩ := mon_doy n
  rw [← f0]
  obtain ⟨e, he⟩ : ∃ e, (n + 719468) / 146097 = e := ⟨_, rfl⟩
  have heb : -1000 ≤ e ∧ e ≤ 1000 := by omega
  have hera : era n = e := he
  rw [he]
  clear he f0
  -- the steps' names
  have hg : (gq (oday n) : Int) = (oday n : Int) - (oday n : Int) / 1460 + (oday n : Int) / 36524 - (oday n : Int) / 146096 := by unfold gq; omega
  have hy : (yoe n : Int) = (gq (oday n) : Int) / 365 := by unfold yoe; omega
  have hst : (st (yoe n) : Int) = 365 * (yoe n : Int) + (yoe n : Int) / 4 - (yoe n : Int) / 100 := by unfold st; omega
  have hi : (doy n : Int) = (oday n : Int) - st (yoe n) := by unfold doy; omega
  have hm : (mon n : Int) = (5 * (doy n : Int) + 2) / 153 := by unfold mon; omega
  have hd : (dayOf n : Int) = (doy n : Int) - (153 * (mon n : Int) + 2) / 5 + 1 := by unfold dayOf; omega
  unfold yearOf monthOf
  rw [hera]
  have hcond : (10 ≤ mon n) ↔ ((mon n : Int) ≥ 10) := by omega
  simp only [hcond]
  have bY : (0 : Int) ≤ yoe n ∧ (yoe n : Int) ≤ 399 := by omega
  have bS : (0 : Int) ≤ st (yoe n) ∧ (st (yoe n) : Int) ≤ 146096 := by omega
  have bI : (0 : Int) ≤ doy n ∧ (doy n : Int) ≤ 365 := by omega
  have bM : (0 : Int) ≤ mon n ∧ (mon n : Int) ≤ 11 := by omega
  have ob : (0 : Int) ≤ oday n ∧ (oday n : Int) ≤ 146096 := by omega
  clear f1 f2 f3 f4 fi fm fd0 fd1 hera hcond h0 h1
  generalize (dayOf n : Int) = D at *
  generalize (mon n : Int) = M at *
  generalize (doy n : Int) = I at *
  generalize (st (yoe n) : Int) = S at *
  generalize (yoe n : Int) = Y at *
  generalize (gq (oday n) : Int) = G at *
  generalize (oday n : Int) = o at *
  have e1 : wrap64 (Int.tdiv o 1460) = o / 1460 := by rw [tdiv_pos ob.1, w64 (by omega)]
  have e2 : wrap64 (o - o / 1460) = o - o / 1460 := w64 (by omega)
  have e3 : wrap64 (Int.tdiv o 36524) = o / 36524 := by rw [tdiv_pos ob.1, w64 (by omega)]
  have e4 : wrap64 (o - o / 1460 + o / 36524) = o - o / 1460 + o / 36524 := w64 (by omega)
  have e5 : wrap64 (Int.tdiv o 146096) = o / 146096 := by rw [tdiv_pos ob.1, w64 (by omega)]
  have e6 : wrap64 (o - o / 1460 + o / 36524 - o / 146096) = G := by rw [hg, w64 (by omega)]
  have e7 : wrap64 (Int.tdiv G 365) = Y := by rw [tdiv_pos (by omega), w64 (by omega), hy]
  have e8 : wrap64 (365 * Y) = 365 * Y := w64 (by omega)
  have e9 : wrap64 (Int.tdiv Y 4) = Y / 4 := by rw [tdiv_pos bY.1, w64 (by omega)]
  have e10 : wrap64 (365 * Y + Y / 4) = 365 * Y + Y / 4 := w64 (by omega)
  have e11 : wrap64 (Int.tdiv Y 100) = Y / 100 := by rw [tdiv_pos bY.1, w64 (by omega)]
  have e12 : wrap64 (365 * Y + Y / 4 - Y / 100) = S := by rw [hst, w64 (by omega)]
  have e13 : wrap64 (o - S) = I := by rw [hi, w64 (by omega)]
  have e14 : wrap64 (5 * I) = 5 * I := w64 (by omega)
  have e15 : wrap64 (5 * I + 2) = 5 * I + 2 := w64 (by omega)
  have e16 : wrap64 (Int.tdiv (5 * I + 2) 153) = M := by rw [tdiv_pos (by omega), w64 (by omega), hm]
  have e17 : wrap64 (153 * M) = 153 * M := w64 (by omega)
  have e18 : wrap64 (153 * M + 2) = 153 * M + 2 := w64 (by omega)
  have e19 : wrap64 (Int.tdiv (153 * M + 2) 5) = (153 * M + 2) / 5 := by rw [tdiv_pos (by omega), w64 (by omega)]
  have e20 : wrap64 (I - (153 * M + 2) / 5) = I - (153 * M + 2) / 5 := w64 (by omega)
  have e21 : wrap64 (I - (153 * M + 2) / 5 + 1) = D := by rw [hd, w64 (by omega)]
  have e22 : wrap64 (e * 400) = e * 400 := w64 (by omega)
  have e23 : wrap64 (Y + e * 400) = Y + e * 400 := w64 (by omega)
  have e24 : wrap64 (Y + e * 400 + 1) = Y + e * 400 + 1 := w64 (by omega)
  have e25 : wrap64 (M - 9) = M - 9 := w64 (by omega)
  have e26 : wrap64 (M + 3) = M + 3 := w64 (by omega)
  have e27 : wrap64 (Int.tdiv r 3600) = r / 3600 := by rw [tdiv_pos hrb.1, w64 (by omega)]
  have e28 : wrap64 (Int.tdiv r 60) = r / 60 := by rw [tdiv_pos hrb.1, w64 (by omega)]
  have e29 : Int.tmod (r / 60) 60 = r / 60 % 60 := tmod_pos (by omega)
  have e30 : Int.tmod r 60 = r % 60 := tmod_pos hrb.1
  simp only [e1, e2, e3, e4, e5, e6, e7, e8, e9, e10, e11, e12, e13, e14, e15, e16, e17, e18, e19, e20, e21, e22, e23, e24, e25, e26, e27, e28, e29, e30]
  by_cases h : M ≥ 10
  · rw [if_pos h, if_pos h, if_pos h]
  · rw [if_neg h, if_neg h, if_neg h, Int.add_zero]

/-! ### clock.Dos -/
theorem wraps_i64 (n : Int) (h₀ : 0 ≤ n) (h₁ : n < 2 ^ 62) : IntKind.i64.wrap n = n := by rw [IntKind.wrap_i64]; omega
theorem i64_join (i : Nat) (x y : Int) (hx₀ : 0 ≤ x) (hx : x % 2 ^ i = 0) (hx₁ : x < 4611686018427387904) (hy₀ : 0 ≤ y) (hy : y < 2 ^ i) (hy₁ : y < 4611686018427387904) : Go.bits .or .i64 x y = x + y :=
  bits_join .i64 62 (by decide) wraps_i64 i x y hx₀ hx hx₁ hy₀ hy hy₁
theorem i64_mask (i : Nat) (hi : i ≤ 62) (x : Int) (h₀ : 0 ≤ x) (h₁ : x < 4611686018427387904) : Go.bits .and .i64 x (2 ^ i - 1) = x % 2 ^ i :=
  bits_mask .i64 62 (by decide) wraps_i64 i hi x h₀ h₁
def dosS (s : Int) : Int := (code (s / 86400) - 1013760) * 65536 + s % 86400 / 3600 * 2048 + s % 86400 / 60 % 60 * 32 + s % 86400 % 60 / 2
theorem code_first : code 3652 = 1013793 := by decide +kernel
theorem code_last : code 50402 = 1079199 := by decide +kernel
theorem date_range {n : Int} (h0 : 3652 ≤ n) (h1 : n ≤ 50402) : 1980 ≤ yearOf n ∧ yearOf n ≤ 2107 := by
  have a := code_le h0
  have b := code_le h1
  rw [code_first] at a
  rw [code_last] at b
  have m := month_range n
  have d0 := day_pos n
  have d1 := day_le n
  unfold code at a b
  omega
theorem pack_eq (k : Nat) (s : Int) (hk : 1 ≤ k) (h0 : 315532800 ≤ s) (h1 : s ≤ 4354819199) :
    ((clock_Date.f k s).bind fun bt122 => (some (Go.bits .or .i64 (Go.bits .or .i64 (Go.bits .or .i64 (wrap64 ((Go.bits .or .i64 (Go.bits .or .i64 (wrap64 ((wrap64 (bt122.1 - 1980)) * 512)) (wrap64 (bt122.2.1 * 32))) bt122.2.2.1) * 65536)) (wrap64 (bt122.2.2.2.1 * 2048))) (wrap64 (bt122.2.2.2.2.1 * 32))) (wrap64 (Int.tdiv bt122.2.2.2.2.2 2))))) = some (dosS s) := by
  rw [Date_eq k s hk (by omega) (by omega), Option.bind_some]
  unfold dateOf dosS code
  obtain ⟨n, hn⟩ : ∃ n, s / 86400 = n := ⟨_, rfl⟩
  obtain ⟨r, hr⟩ : ∃ r, s % 86400 = r := ⟨_, rfl⟩
  obtain ⟨hy0, hy1⟩ := date_range (n := n) (by omega) (by omega)
  have hm := month_range n
  have hd0 := day_pos n
  have hd1 := day_le n
  have hrb : 0 ≤ r ∧ r < 86400 := by omega
  rw [hn, hr]
  clear hn hr h0 h1
  dsimp only
  have hd : (1 : Int) ≤ dayOf n ∧ (dayOf n : Int) ≤ 31 := by omega
  clear hd0 hd1
  generalize yearOf n = Y at *
  generalize monthOf n = M at *
  generalize (dayOf n : Int) = D at *
  have b1 : 0 ≤ r / 3600 ∧ r / 3600 ≤ 23 := by omega
  have b2 : 0 ≤ r / 60 % 60 ∧ r / 60 % 60 ≤ 59 := by omega
  have b3 : 0 ≤ r % 60 ∧ r % 60 ≤ 59 := by omega
  generalize r / 3600 = h at *
  generalize r / 60 % 60 = m at *
  generalize r % 60 = c at *
  rw [w64 (n := Y - 1980) (by omega), w64 (n := (Y - 1980) * 512) (by omega), w64 (n := M * 32) (by omega), i64_join 9 _ (M * 32) (by omega) (by omega) (by omega) (by omega) (by omega) (by omega),
    i64_join 5 _ D (by omega) (by omega) (by omega) (by omega) (by omega) (by omega), w64 (n := ((Y - 1980) * 512 + M * 32 + D) * 65536) (by omega), w64 (n := h * 2048) (by omega), w64 (n := m * 32) (by omega), tdiv_pos b3.1, w64 (n := c / 2) (by omega),
    i64_join 16 _ (h * 2048) (by omega) (by omega) (by omega) (by omega) (by omega) (by omega), i64_join 11 _ (m * 32) (by omega) (by omega) (by omega) (by omega) (by omega) (by omega), i64_join 5 _ (c / 2) (by omega) (by omega) (by omega) (by omega) (by omega) (by omega)]
  congr 1
  omega
theorem dosS_mono {s t : Int} (h : s ≤ t) : dosS s ≤ dosS t := by
  have hc : s / 86400 < t / 86400 ∨ (s / 86400 = t / 86400 ∧ s % 86400 ≤ t % 86400) := by omega
  unfold dosS
  have b1 : 0 ≤ s % 86400 ∧ s % 86400 < 86400 := by omega
  have b2 : 0 ≤ t % 86400 ∧ t % 86400 < 86400 := by omega
  rcases hc with hc | ⟨hc, hr⟩
  · have := code_lt hc
    generalize s % 86400 = r at *
    generalize t % 86400 = q at *
    generalize code (s / 86400) = x at *
    generalize code (t / 86400) = y at *
    omega
  · rw [hc]
    generalize s % 86400 = r at *
    generalize t % 86400 = q at *
    have e1 : r / 3600 = r / 60 / 60 := by omega
    have e2 : q / 3600 = q / 60 / 60 := by omega
    rw [e1, e2]
    have e3 : r / 60 ≤ q / 60 := by omega
    have e4 : r / 60 = q / 60 → r % 60 ≤ q % 60 := by omega
    have e5 : 0 ≤ r % 60 ∧ r % 60 < 60 := by omega
    have e6 : 0 ≤ q % 60 ∧ q % 60 < 60 := by omega
    have e7 : r / 60 / 60 * 2048 + r / 60 % 60 * 32 = r / 60 * 32 + r / 60 / 60 * 128 := by omega
    have e8 : q / 60 / 60 * 2048 + q / 60 % 60 * 32 = q / 60 * 32 + q / 60 / 60 * 128 := by omega
    have e9 : r / 60 / 60 ≤ q / 60 / 60 := by omega
    generalize r % 60 = c at *
    generalize q % 60 = d at *
    generalize r / 60 / 60 = u at *
    generalize q / 60 / 60 = v at *
    generalize r / 60 = a at *
    generalize q / 60 = b at *
    by_cases hab : a = b
    · have := e4 hab
      omega
    · omega
def dosOf (x : Nat) : Int := match key x with | none => 0 | some a => dosS (clampTo 315532800 4354819200 4354819199 a)
theorem dos_top : dosS 4354819198 = dosS 4354819199 := by decide +kernel
theorem Dos_eq (k x : Nat) (hk0 : 1 ≤ k) : clock_Dos.f k x = some (dosOf x) := by
  have hU := U_pos
  unfold clock_Dos.f dosOf
  cases hk : key x with
  | none => rw [if_pos (nan_ne hk)]
  | some a =>
    rw [if_neg (by rw [not_nan hk]; decide), ord_lt hk key_first, ord_ge hk key_last]
    dsimp only
    unfold clampTo
    by_cases h1 : a < 315532800 * U
    · rw [if_pos (decide_eq_true h1), if_pos h1]
      exact pack_eq k _ hk0 (by decide) (by decide)
    · rw [if_neg (by rw [decide_eq_false h1]; decide), if_neg h1]
      by_cases h2 : 4354819200 * U ≤ a
      · rw [if_pos (decide_eq_true h2), if_pos h2, ← dos_top]
        exact pack_eq k _ hk0 (by decide) (by decide)
      · obtain ⟨g1, g2, g3⟩ := floor_sec hk (by omega) (by omega)
        rw [if_neg (by rw [decide_eq_false h2]; decide), if_neg h2, floor_f hk, Option.bind_some, if_pos g2, g3]
        have g4 : 315532800 ≤ a / U := (Int.le_ediv_iff_mul_le hU).2 (by omega)
        have g5 : a / U < 4354819200 := (Int.ediv_lt_iff_lt_mul hU).2 (by omega)
        exact pack_eq k _ hk0 g4 (by omega)
theorem dosOf_mono {x y : Nat} {a b : Int} (hx : key x = some a) (hy : key y = some b) (h : a ≤ b) : dosOf x ≤ dosOf y := by
  unfold dosOf
  rw [hx, hy]
  exact dosS_mono (clamp_mono (by decide) (by decide) h)
theorem unixOf_mono {x y : Nat} {a b : Int} (hx : key x = some a) (hy : key y = some b) (h : a ≤ b) : unixOf x ≤ unixOf y := by
  unfold unixOf
  rw [hx, hy]
  exact clamp_mono (by decide) (by decide) h
end Go.Proofs.YtfmfikodnpnblaaDoor.ClkDateEq

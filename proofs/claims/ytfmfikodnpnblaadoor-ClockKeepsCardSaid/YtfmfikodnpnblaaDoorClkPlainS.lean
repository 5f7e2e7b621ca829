/- What clock.Seconds, clock.FromUnix, clock.FromDos come to; there and back. -/
import Derived.Test.YtfmfikodnpnblaaDoorPClkSx
import Derived.Test.YtfmfikodnpnblaaDoorClkPlain
import Derived.Test.YtfmfikodnpnblaaDoorClkTold
set_option linter.unusedVariables false
set_option linter.unusedSimpArgs false
namespace Go.Proofs.YtfmfikodnpnblaaDoor.ClkSecs
open Go.RowKit Go.Proofs Go.Proofs.YtfmfikodnpnblaaDoorW.PrintWords Go.Proofs.YtfmfikodnpnblaaDoor.PClk1 Go.Proofs.YtfmfikodnpnblaaDoor.PClkS Go.Proofs.YtfmfikodnpnblaaDoor.ClkDate Go.Proofs.YtfmfikodnpnblaaDoor.ClkLib Go.Proofs.YtfmfikodnpnblaaDoor.ClkDays Go.Proofs.YtfmfikodnpnblaaDoor.Flt Go.Proofs.YtfmfikodnpnblaaDoor.FltClk Go.Proofs.YtfmfikodnpnblaaDoor.ClkFloat Go.Proofs.YtfmfikodnpnblaaDoor.Cal Go.Proofs.YtfmfikodnpnblaaDoor.ClkDateEq

theorem long_eq (y m : Int) (hy : -1000 ≤ y ∧ y ≤ 100000) (hm : 1 ≤ m ∧ m ≤ 12) : clock_long.f y m = some (mlen y m) := by
  unfold clock_long.f
  have h := month_len y m hm.1 hm.2
  by_cases hc : m = 12
  · subst hc; rfl
  · have b1 := dayNum_bound y (m + 1) 1 (by omega) (by omega) (by omega)
    have b2 := dayNum_bound y m 1 (by omega) (by omega) (by omega)
    rw [if_pos (by omega)] at h
    rw [if_neg hc, w64 (n := m + 1) (by omega), days_eq y (m + 1) 1 (by omega) (by omega) (by omega), Option.bind_some, days_eq y m 1 (by omega) hm (by omega), Option.bind_some, w64 (by omega), h]
def okDate (y m d h i s : Int) : Prop := 1 ≤ y ∧ y ≤ 9999 ∧ 1 ≤ m ∧ m ≤ 12 ∧ 1 ≤ d ∧ d ≤ mlen y m ∧ 0 ≤ h ∧ h ≤ 23 ∧ 0 ≤ i ∧ i ≤ 59 ∧ 0 ≤ s ∧ s ≤ 59
instance (y m d h i s : Int) : Decidable (okDate y m d h i s) := by unfold okDate; infer_instance
def secs (y m d h i s : Int) : Int := dayNum y m d * 86400 + h * 3600 + i * 60 + s
theorem mlen_le (y m : Int) : 28 ≤ mlen y m ∧ mlen y m ≤ 31 := by
  unfold mlen
  split
  · split <;> omega
  · split <;> omega
theorem Seconds_eq (k : Nat) (y m d h i s : Int) (hk : 1 ≤ k) : clock_Seconds.f k y m d h i s = some (if okDate y m d h i s then (secs y m d h i s, true) else (0, false)) := by
  obtain ⟨k, rfl⟩ : ∃ j, k = j + 1 := ⟨k - 1, by omega⟩
  have bad : clock_Seconds.j0 (k + 1) true y m d h i s = some (0, false) := by rw [clock_Seconds.j0, if_pos rfl]
  unfold clock_Seconds.f
  by_cases g1 : y < 1
  · rw [if_pos g1, bad, if_neg (by unfold okDate; omega)]
  rw [if_neg g1]
  by_cases g2 : y > 9999
  · rw [if_pos g2, bad, if_neg (by unfold okDate; omega)]
  rw [if_neg g2]
  by_cases g3 : m < 1
  · rw [if_pos g3, bad, if_neg (by unfold okDate; omega)]
  rw [if_neg g3]
  by_cases g4 : m > 12
  · rw [if_pos g4, bad, if_neg (by unfold okDate; omega)]
  rw [if_neg g4]
  by_cases g5 : d < 1
  · rw [if_pos g5, bad, if_neg (by unfold okDate; omega)]
  rw [if_neg g5, long_eq y m (by omega) (by omega), Option.bind_some]
  by_cases g6 : d > mlen y m
  · rw [decide_eq_true g6, bad, if_neg (by unfold okDate; omega)]
  rw [decide_eq_false g6, clock_Seconds.j0, if_neg (by decide)]
  by_cases g7 : h < 0
  · rw [if_pos g7, if_neg (by unfold okDate; omega)]
  rw [if_neg g7]
  by_cases g8 : h > 23
  · rw [if_pos g8, if_neg (by unfold okDate; omega)]
  rw [if_neg g8]
  by_cases g9 : i < 0
  · rw [if_pos g9, if_neg (by unfold okDate; omega)]
  rw [if_neg g9]
  by_cases g10 : i > 59
  · rw [if_pos g10, if_neg (by unfold okDate; omega)]
  rw [if_neg g10]
  by_cases g11 : s < 0
  · rw [if_pos g11, if_neg (by unfold okDate; omega)]
  rw [if_neg g11]
  by_cases g12 : s > 59
  · rw [if_pos g12, if_neg (by unfold okDate; omega)]
  have hl := mlen_le y m
  have b := dayNum_bound y m d (by omega) (by omega) (by omega)
  rw [if_neg g12, days_eq y m d (by omega) (by omega) (by omega), Option.bind_some, if_pos (by unfold okDate; omega)]
  unfold secs
  rw [w64 (n := dayNum y m d * 86400) (by omega), w64 (n := h * 3600) (by omega), w64 (n := i * 60) (by omega), w64 (n := dayNum y m d * 86400 + h * 3600) (by omega), w64 (n := dayNum y m d * 86400 + h * 3600 + i * 60) (by omega), w64 (by omega)]

/-! ### NaN -/
theorem nan_const : key 9221120237041090561 = none := ClkTold.nan_key (ClkTold.read_nan _ 2251799813685248 (by decide) (.inl (by decide)))
def secKey : Option Int → Option Int
  | none => none
  | some s => some (s * U)
theorem FromUnix_eq (m : Int) : ∃ r, clock_FromUnix.f m = some r ∧ key r = secKey (if 1 ≤ m ∧ m ≤ 4294967295 then some m else none) := by
  unfold clock_FromUnix.f
  by_cases h1 : m < 1
  · rw [if_pos h1, if_neg (by omega)]
    exact ⟨_, rfl, nan_const⟩
  · rw [if_neg h1]
    by_cases h2 : m > 4294967295
    · rw [if_pos h2, if_neg (by omega)]
      exact ⟨_, rfl, nan_const⟩
    · rw [if_neg h2, if_pos (by omega)]
      exact ⟨_, rfl, key_ofInt m (by omega)⟩

/-! ### a DOS time's parts -/
def dosOk (v : Int) : Prop := 0 ≤ v ∧ v ≤ 4294967295 ∧ okDate (1980 + v / 33554432) (v / 2097152 % 16) (v / 65536 % 32) (v / 2048 % 32) (v / 32 % 64) (v % 32 * 2)
instance (v : Int) : Decidable (dosOk v) := by unfold dosOk; infer_instance
def dosSecs (v : Int) : Int := secs (1980 + v / 33554432) (v / 2097152 % 16) (v / 65536 % 32) (v / 2048 % 32) (v / 32 % 64) (v % 32 * 2)
def fdos (v : Int) : Option Int := if dosOk v then some (dosSecs v) else none
theorem secs_small {y m d h i s : Int} (hd : okDate y m d h i s) : (secs y m d h i s).natAbs < 9007199254740992 := by
  have hl := mlen_le y m
  unfold okDate at hd
  have b := dayNum_bound y m d (by omega) (by omega) (by omega)
  unfold secs
  omega
theorem FromDos_eq (k : Nat) (v : Int) (hk : 2 ≤ k) : ∃ r, clock_FromDos.f k v = some r ∧ key r = secKey (fdos v) := by
  obtain ⟨k, rfl⟩ : ∃ j, k = j + 1 := ⟨k - 1, by omega⟩
  have bad : ∃ r, clock_FromDos.j0 (k + 1) v true = some r ∧ key r = none := ⟨_, by rw [clock_FromDos.j0, if_pos rfl]; rfl, nan_const⟩
  unfold clock_FromDos.f fdos
  by_cases h1 : v < 0
  · rw [if_pos h1, if_neg (by unfold dosOk; omega)]; exact bad
  rw [if_neg h1]
  by_cases h2 : v > 4294967295
  · rw [decide_eq_true h2, if_neg (by unfold dosOk; omega)]; exact bad
  have a1 : Go.bits .and .i64 (v / 2097152) 15 = v / 2097152 % 16 := i64_mask 4 (by decide) _ (by omega) (by omega)
  have a2 : Go.bits .and .i64 (v / 65536) 31 = v / 65536 % 32 := i64_mask 5 (by decide) _ (by omega) (by omega)
  have a3 : Go.bits .and .i64 (v / 2048) 31 = v / 2048 % 32 := i64_mask 5 (by decide) _ (by omega) (by omega)
  have a4 : Go.bits .and .i64 (v / 32) 63 = v / 32 % 64 := i64_mask 6 (by decide) _ (by omega) (by omega)
  have a5 : Go.bits .and .i64 v 31 = v % 32 := i64_mask 5 (by decide) _ (by omega) (by omega)
  rw [decide_eq_false h2, clock_FromDos.j0, if_neg (by decide), a1, a2, a3, a4, a5, w64 (n := 1980 + v / 33554432) (by omega), w64 (n := v % 32 * 2) (by omega), Seconds_eq k _ _ _ _ _ _ (by omega), Option.bind_some]
  by_cases hd : okDate (1980 + v / 33554432) (v / 2097152 % 16) (v / 65536 % 32) (v / 2048 % 32) (v / 32 % 64) (v % 32 * 2)
  · rw [if_pos hd, if_pos rfl, if_pos (show dosOk v from ⟨by omega, by omega, hd⟩)]
    exact ⟨_, rfl, key_ofInt _ (secs_small hd)⟩
  · rw [if_neg hd, if_neg (by decide), if_neg (show ¬ dosOk v from fun h => hd h.2.2)]
    exact ⟨_, rfl, nan_const⟩

/-! ### there and back -/
theorem day_mlen (n : Int) : (dayOf n : Int) ≤ mlen (yearOf n) (monthOf n) := by
  rcases Int.lt_or_le (mlen (yearOf n) (monthOf n)) (dayOf n) with h | h
  · exfalso
    obtain ⟨m0, m1⟩ := month_range n
    have hd := day_le n
    have hl := mlen_le (yearOf n) (monthOf n)
    have hml := month_len (yearOf n) (monthOf n) m0 m1
    have hn := dayNum_date n
    have hs := day_step (yearOf n) (monthOf n) (dayOf n) 1
    by_cases hc : monthOf n < 12
    · rw [if_pos hc] at hml
      have hl2 := mlen_le (yearOf n) (monthOf n + 1)
      have hs2 := day_step (yearOf n) (monthOf n + 1) (dayOf n - mlen (yearOf n) (monthOf n)) 1
      have e : dayNum (yearOf n) (monthOf n + 1) (dayOf n - mlen (yearOf n) (monthOf n)) = n := by omega
      have hb := date_dayNum (yearOf n) (monthOf n + 1) (dayOf n - mlen (yearOf n) (monthOf n)) (by omega) (by omega) (by omega) (by omega)
      rw [e] at hb
      omega
    · rw [if_neg hc] at hml
      have hl2 := mlen_le (yearOf n + 1) 1
      have hs2 := day_step (yearOf n + 1) 1 (dayOf n - mlen (yearOf n) (monthOf n)) 1
      have e : dayNum (yearOf n + 1) 1 (dayOf n - mlen (yearOf n) (monthOf n)) = n := by omega
      have hb := date_dayNum (yearOf n + 1) 1 (dayOf n - mlen (yearOf n) (monthOf n)) (by omega) (by omega) (by omega) (by omega)
      rw [e] at hb
      omega
  · exact h
theorem dosS_even (s : Int) : dosS (s - s % 2) = dosS s := by
  unfold dosS
  have e1 : (s - s % 2) / 86400 = s / 86400 := by omega
  have e2 : (s - s % 2) % 86400 = s % 86400 - s % 86400 % 2 := by omega
  rw [e1, e2]
  have hr : 0 ≤ s % 86400 := by omega
  generalize s % 86400 = r at *
  have e3 : (r - r % 2) / 3600 = r / 3600 := by omega
  have e4 : (r - r % 2) / 60 = r / 60 := by omega
  have e5 : (r - r % 2) % 60 / 2 = r % 60 / 2 := by omega
  rw [e3, e4, e5]
theorem fdos_dosS {s : Int} (h0 : 315532800 ≤ s) (h1 : s ≤ 4354819199) : fdos (dosS s) = some (s - s % 2) := by
  have hdn := dayNum_date (s / 86400)
  have hml := day_mlen (s / 86400)
  obtain ⟨y0, y1⟩ := date_range (n := s / 86400) (by omega) (by omega)
  obtain ⟨m0, m1⟩ := month_range (s / 86400)
  have d0 := day_pos (s / 86400)
  have d1 := day_le (s / 86400)
  have hsr : s = s / 86400 * 86400 + s % 86400 := by omega
  have hr : 0 ≤ s % 86400 ∧ s % 86400 < 86400 := by omega
  have he : s % 2 = s % 86400 % 2 := by omega
  rw [he]
  obtain ⟨v, hv⟩ : ∃ v, dosS s = v := ⟨_, rfl⟩
  rw [hv]
  unfold dosS code at hv
  have hT : s - s % 86400 % 2 = s / 86400 * 86400 + s % 86400 - s % 86400 % 2 := by omega
  rw [hT]
  clear hsr he h0 h1 hT
  have hD : (1 : Int) ≤ dayOf (s / 86400) ∧ (dayOf (s / 86400) : Int) ≤ 31 := by omega
  clear d0 d1
  generalize yearOf (s / 86400) = Y at *
  generalize monthOf (s / 86400) = M at *
  generalize (dayOf (s / 86400) : Int) = D at *
  generalize s / 86400 = n at *
  generalize s % 86400 = r at *
  have b1 : 0 ≤ r / 3600 ∧ r / 3600 ≤ 23 := by omega
  have b2 : 0 ≤ r / 60 % 60 ∧ r / 60 % 60 ≤ 59 := by omega
  have b3 : 0 ≤ r % 60 ∧ r % 60 ≤ 59 := by omega
  have hrr : r = r / 3600 * 3600 + r / 60 % 60 * 60 + r % 60 := by
    have : r / 3600 = r / 60 / 60 := by omega
    omega
  have hr2 : r % 2 = r % 60 % 2 := by omega
  rw [hr2]
  generalize r / 3600 = h at *
  generalize r / 60 % 60 = i at *
  generalize r % 60 = c at *
  have e1 : v / 33554432 = Y - 1980 := by omega
  have f2 : v / 2097152 = (Y - 1980) * 16 + M := by omega
  have f3 : v / 65536 = ((Y - 1980) * 16 + M) * 32 + D := by omega
  have f4 : v / 2048 = (((Y - 1980) * 16 + M) * 32 + D) * 32 + h := by omega
  have f5 : v / 32 = ((((Y - 1980) * 16 + M) * 32 + D) * 32 + h) * 64 + i := by omega
  have e2 : v / 2097152 % 16 = M := by rw [f2]; omega
  have e3 : v / 65536 % 32 = D := by rw [f3]; omega
  have e4 : v / 2048 % 32 = h := by rw [f4]; omega
  have e5 : v / 32 % 64 = i := by rw [f5]; omega
  have e6 : v % 32 = c / 2 := by omega
  have hv0 : 0 ≤ v ∧ v ≤ 4294967295 := by omega
  have hok : okDate Y M D h i (c / 2 * 2) := by unfold okDate; omega
  have hq : dosOk v := by
    refine ⟨hv0.1, hv0.2, ?_⟩
    rw [e1, e2, e3, e4, e5, e6, show 1980 + (Y - 1980) = Y by omega]
    exact hok
  unfold fdos
  rw [if_pos hq]
  unfold dosSecs
  rw [e1, e2, e3, e4, e5, e6, show 1980 + (Y - 1980) = Y by omega]
  unfold secs
  rw [hdn]
  congr 1
  omega
theorem dosS_fdos {v S : Int} (h : fdos v = some S) : dosS S = v ∧ 315532800 ≤ S ∧ S ≤ 4354819199 ∧ S % 2 = 0 := by
  unfold fdos at h
  by_cases hc : dosOk v
  · rw [if_pos hc] at h
    injection h with h
    obtain ⟨h0, h1, y0, y1, m0, m1, d0, d1, hh0, hh1, i0, i1, s0, s1⟩ := hc
    have hv : v = v / 33554432 * 33554432 + v / 2097152 % 16 * 2097152 + v / 65536 % 32 * 65536 + v / 2048 % 32 * 2048 + v / 32 % 64 * 32 + v % 32 := by omega
    have ha : 0 ≤ v / 33554432 ∧ v / 33554432 ≤ 127 := by omega
    have hc : 0 ≤ v % 32 ∧ v % 32 ≤ 31 := by omega
    unfold dosSecs secs at h
    generalize v / 33554432 = a at *
    generalize v / 2097152 % 16 = M at *
    generalize v / 65536 % 32 = D at *
    generalize v / 2048 % 32 = hh at *
    generalize v / 32 % 64 = i at *
    generalize v % 32 = c at *
    obtain ⟨f1, f2, f3⟩ := date_dayNum (1980 + a) M D m0 m1 d0 d1
    have hl := mlen_le (1980 + a) M
    generalize dayNum (1980 + a) M D = n at *
    have hn : S / 86400 = n := by omega
    have hr : S % 86400 = hh * 3600 + i * 60 + c * 2 := by omega
    have hcode : code n = (1980 + a) * 512 + M * 32 + D := by unfold code; rw [f1, f2, f3]
    have g0 : 3652 ≤ n := by
      rcases Int.lt_or_le n 3652 with hlt | hge
      · have := code_lt hlt; rw [code_first] at this; omega
      · exact hge
    have g1 : n ≤ 50402 := by
      rcases Int.lt_or_le 50402 n with hlt | hge
      · have := code_lt hlt; rw [code_last] at this; omega
      · exact hge
    refine ⟨?_, by omega, by omega, by omega⟩
    unfold dosS
    rw [hn, hr, hcode]
    have e1 : (hh * 3600 + i * 60 + c * 2) / 3600 = hh := by omega
    have e2 : (hh * 3600 + i * 60 + c * 2) / 60 % 60 = i := by omega
    have e3 : (hh * 3600 + i * 60 + c * 2) % 60 / 2 = c := by omega
    rw [e1, e2, e3]
    omega
  · rw [if_neg hc] at h; cases h
end Go.Proofs.YtfmfikodnpnblaaDoor.ClkSecs

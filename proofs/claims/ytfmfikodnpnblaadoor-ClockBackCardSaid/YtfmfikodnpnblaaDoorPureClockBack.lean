/- ClockBack, plainly: a date's time has that date; the next second's is another one; days follow one another. -/
import Derived.Test.YtfmfikodnpnblaaDoorPClockBackx
import Derived.Test.YtfmfikodnpnblaaDoorClkPlainB
set_option linter.unusedVariables false
set_option linter.unusedSimpArgs false
namespace Go.Proofs.YtfmfikodnpnblaaDoor.PureClockBack
open Go.RowKit Go.Proofs Go.Proofs.YtfmfikodnpnblaaDoorW.PrintWords Go.Proofs.YtfmfikodnpnblaaDoor.PClockBack Go.Proofs.YtfmfikodnpnblaaDoor.PClk1 Go.Proofs.YtfmfikodnpnblaaDoor.PClkB Go.Proofs.YtfmfikodnpnblaaDoor.ClkTold Go.Proofs.YtfmfikodnpnblaaDoor.ClkLib Go.Proofs.YtfmfikodnpnblaaDoor.ClkDate Go.Proofs.YtfmfikodnpnblaaDoor.ClkDays Go.Proofs.YtfmfikodnpnblaaDoor.ClkDateEq Go.Proofs.YtfmfikodnpnblaaDoor.ClkSecs Go.Proofs.YtfmfikodnpnblaaDoor.Cal Go.Proofs.YtfmfikodnpnblaaDoor.Civil

theorem secs_date {y m d h i s : Int} (ok : okDate y m d h i s) : dateOf (secs y m d h i s) = (y, m, d, h, i, s) ∧ -1099511627776 ≤ secs y m d h i s ∧ secs y m d h i s ≤ 1099511627776 := by
  obtain ⟨y0, y1, m0, m1, d0, d1, h0, h1, i0, i1, s0, s1⟩ := ok
  obtain ⟨f1, f2, f3⟩ := date_dayNum y m d m0 m1 d0 d1
  have hl := mlen_le y m
  have hb : -4000000 ≤ dayNum y m d ∧ dayNum y m d ≤ 4000000 := by
    unfold dayNum
    split <;> omega
  have e1 : secs y m d h i s / 86400 = dayNum y m d := by unfold secs; omega
  have e2 : secs y m d h i s % 86400 = h * 3600 + i * 60 + s := by unfold secs; omega
  refine ⟨?_, by unfold secs; omega, by unfold secs; omega⟩
  unfold dateOf
  rw [e1, e2, f1, f2, f3]
  congr 4
  · omega
  · congr 1
    · omega
    · omega
theorem year_bound {n : Int} (h0 : -20000000 ≤ n) (h1 : n ≤ 20000000) : -100000 ≤ yearOf n ∧ yearOf n ≤ 100000 := by
  obtain ⟨_, _, f2, _, _⟩ := day_facts n
  have he : -200 ≤ era n ∧ era n ≤ 200 := by unfold era; omega
  unfold yearOf
  split <;> omega
theorem date_days (n : Int) (h0 : -20000000 ≤ n) (h1 : n ≤ 20000000) : clock_Days.f (yearOf n) (monthOf n) (dayOf n) = some n := by
  have hd0 := day_pos n
  have hd1 := day_le n
  rw [Days_eq _ _ _ (year_bound h0 h1) (month_range n) (by omega), dayNum_date]
theorem j1_out (k : Nat) (s : Int) : stevedorelaw4_ClockBack.j1 (k + 2) s true = some true := by
  have e : clock_Date.f (k + 1) (-4611686018427387904) = some (0, 0, 0, 0, 0, 0) := by
    unfold clock_Date.f
    rw [if_pos (by decide), clock_Date.j0, if_pos rfl]
  rw [stevedorelaw4_ClockBack.j1, if_pos rfl]
  simp only [stevedorelaw4_told.f, Option.bind_some, if_true]
  rw [e]
  rfl
theorem j1_core (k : Nat) (s Y M D h i c Y' M' D' h' i' c' n n' : Int) (h0 : -1099511627776 ≤ s) (h1 : s < 1099511627776)
    (hA : clock_Date.f (k + 1) s = some (Y, M, D, h, i, c)) (hB : clock_Date.f (k + 1) (s + 1) = some (Y', M', D', h', i', c')) (hd : clock_Days.f Y M D = some n) (hd' : clock_Days.f Y' M' D' = some n')
    (hs : s = n * 86400 + (h * 3600 + i * 60 + c)) (hs' : s + 1 = n' * 86400 + (h' * 3600 + i' * 60 + c')) (b1 : 0 ≤ h ∧ h ≤ 23) (b2 : 0 ≤ i ∧ i ≤ 59) (b3 : 0 ≤ c ∧ c ≤ 59) (b1' : 0 ≤ h' ∧ h' ≤ 23) (b2' : 0 ≤ i' ∧ i' ≤ 59) (b3' : 0 ≤ c' ∧ c' ≤ 59)
    (hM : 1 ≤ M ∧ M ≤ 12) (hD : 1 ≤ D ∧ D ≤ 31) (hinj : Y = Y' → M = M' → D = D' → n = n') : stevedorelaw4_ClockBack.j1 (k + 2) s false = some true := by
  rw [stevedorelaw4_ClockBack.j1, if_neg (by decide), w64 (n := s + 1) (by omega), hA, Option.bind_some, hB, Option.bind_some]
  dsimp only
  rw [hd, Option.bind_some]
  have esum : wrap64 (wrap64 (wrap64 (wrap64 (n * 86400) + wrap64 (h * 3600)) + wrap64 (i * 60)) + c) = s := by
    rw [w64 (n := n * 86400) (by omega), w64 (n := h * 3600) (by omega), w64 (n := i * 60) (by omega), w64 (n := n * 86400 + h * 3600) (by omega), w64 (n := n * 86400 + h * 3600 + i * 60) (by omega), w64 (by omega)]
    omega
  have eab : ¬ ((Y == Y' && (M == M' && (D == D' && (h == h' && (i == i' && (c == c')))))) = true) := by
    simp only [Bool.and_eq_true, beq_iff_eq]
    rintro ⟨g1, g2, g3, g4, g5, g6⟩
    have := hinj g1 g2 g3
    omega
  have tail : (if M ≥ 1 then (if M ≤ 12 then (if D ≥ 1 then (some (decide (D ≤ 31))) else (some false)) else (some false)) else (some false)) = some true := by
    rw [if_pos (by omega), if_pos (by omega), if_pos (by omega), decide_eq_true (by omega)]
  have hstep : (n' = n ∧ ¬ (h = 23 ∧ i = 59 ∧ c = 59)) ∨ (n' = n + 1 ∧ h = 23 ∧ i = 59 ∧ c = 59) := by omega
  rw [if_pos esum, if_neg eab, hd']
  simp only [stevedorelaw4_told.f, Option.bind_some, if_true, stevedorelaw4_boolean.f]
  rw [w64 (n := n' - n) (by omega)]
  clear esum eab hA hB hd hd' hs hs' hinj
  by_cases g1 : h = 23
  · rw [if_pos g1]
    by_cases g2 : i = 59
    · rw [if_pos g2]
      by_cases g3 : c = 59
      · have e : (c == 59) = true := beq_iff_eq.2 g3
        simp only [e, if_true, Option.bind_some]
        rw [if_pos (by omega)]
        exact tail
      · have e : (c == 59) = false := beq_eq_false_iff_ne.2 g3
        simp only [e, Bool.false_eq_true, if_false, Option.bind_some]
        rw [if_pos (by omega)]
        exact tail
    · rw [if_neg g2]
      simp only [Bool.false_eq_true, if_false, Option.bind_some]
      rw [if_pos (by omega)]
      exact tail
  · rw [if_neg g1]
    simp only [Bool.false_eq_true, if_false, Option.bind_some]
    rw [if_pos (by omega)]
    exact tail
theorem rest_facts (s : Int) : s = s / 86400 * 86400 + (s % 86400 / 3600 * 3600 + s % 86400 / 60 % 60 * 60 + s % 86400 % 60) ∧ (0 ≤ s % 86400 / 3600 ∧ s % 86400 / 3600 ≤ 23) ∧ (0 ≤ s % 86400 / 60 % 60 ∧ s % 86400 / 60 % 60 ≤ 59) ∧ (0 ≤ s % 86400 % 60 ∧ s % 86400 % 60 ≤ 59) := by
  have h : s % 86400 / 3600 = s % 86400 / 60 / 60 := by omega
  omega
theorem j1_in (k : Nat) (s : Int) (h0 : -1099511627776 ≤ s) (h1 : s < 1099511627776) : stevedorelaw4_ClockBack.j1 (k + 2) s false = some true := by
  have hA := Date_eq (k + 1) s (by omega) (by omega) (by omega)
  have hB := Date_eq (k + 1) (s + 1) (by omega) (by omega) (by omega)
  have n0 : -20000000 ≤ s / 86400 ∧ s / 86400 ≤ 20000000 := by omega
  have n1 : -20000000 ≤ (s + 1) / 86400 ∧ (s + 1) / 86400 ≤ 20000000 := by omega
  obtain ⟨f1, f2, f3, f4⟩ := rest_facts s
  obtain ⟨g1, g2, g3, g4⟩ := rest_facts (s + 1)
  have hd0 := day_pos (s / 86400)
  have hd1 := day_le (s / 86400)
  exact j1_core k s _ _ _ _ _ _ _ _ _ _ _ _ _ _ h0 h1 hA hB (date_days _ n0.1 n0.2) (date_days _ n1.1 n1.2) f1 g1 f2 f3 f4 g2 g3 g4 (month_range _) ⟨by omega, by omega⟩
    (fun a b c => by rw [← dayNum_date (s / 86400), ← dayNum_date ((s + 1) / 86400), a, b, c])
theorem j0_true (k : Nat) (s : Int) : stevedorelaw4_ClockBack.j0 (k + 3) s false = some true := by
  rw [stevedorelaw4_ClockBack.j0, if_neg (by decide)]
  by_cases h0 : s < -1099511627776
  · rw [if_pos h0]; exact j1_out k s
  · rw [if_neg h0]
    by_cases h1 : s ≥ 1099511627776
    · rw [decide_eq_true h1]; exact j1_out k s
    · rw [decide_eq_false h1]; exact j1_in k s (by omega) (by omega)
theorem ClockBack (y m d h i c s : Int) : ∃ k, stevedorelaw4_ClockBack.f k y m d h i c s = some true := by
  refine ⟨3, ?_⟩
  unfold stevedorelaw4_ClockBack.f
  rw [Seconds_eq 3 y m d h i c (by omega), Option.bind_some]
  by_cases ok : okDate y m d h i c
  · obtain ⟨e, b0, b1⟩ := secs_date ok
    rw [if_pos ok, if_pos rfl]
    dsimp only
    rw [Date_eq 3 _ (by omega) b0 b1, Option.bind_some, e]
    simp only [beq_self_eq_true, Bool.not_true, Bool.or_false]
    exact j0_true 0 s
  · rw [if_neg ok, if_neg (by decide)]
    exact j0_true 0 s
end Go.Proofs.YtfmfikodnpnblaaDoor.PureClockBack

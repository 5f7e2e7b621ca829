/- ClockYears, plainly: four hundred years, one year, one month, thirty days: from every year on. -/
import Derived.Test.YtfmfikodnpnblaaDoorPClockYearsx
import Derived.Test.YtfmfikodnpnblaaDoorClkDays
set_option linter.unusedVariables false
namespace Go.Proofs.YtfmfikodnpnblaaDoor.PureClockYears
open Go.RowKit Go.Proofs Go.Proofs.YtfmfikodnpnblaaDoorW.PrintWords Go.Proofs.YtfmfikodnpnblaaDoor.PClockYears Go.Proofs.YtfmfikodnpnblaaDoor.PClk1 Go.Proofs.YtfmfikodnpnblaaDoor.ClkTold Go.Proofs.YtfmfikodnpnblaaDoor.ClkDays Go.Proofs.YtfmfikodnpnblaaDoor.Cal

theorem j_eq (n m : Int) (hn : -90000 ≤ n ∧ n ≤ 90000) (hm : 1 ≤ m ∧ m ≤ 12) : stevedorelaw4_ClockYears.j0 4 n m (decide (leap n)) = some true := by
  have hb := fun (y m d : Int) (h : -1000000 ≤ y ∧ y ≤ 1000000) (h' : 1 ≤ m ∧ m ≤ 12) (h'' : -1000 ≤ d ∧ d ≤ 1000) => dayNum_bound y m d h h' h''
  have hj1 : stevedorelaw4_ClockYears.j0 4 n m (decide (leap n)) = stevedorelaw4_ClockYears.j1 3 n m (if leap n then 366 else 365) := by
    rw [stevedorelaw4_ClockYears.j0]
    by_cases h : leap n
    · rw [if_pos (decide_eq_true h), if_pos h]
    · rw [if_neg (by rw [decide_eq_false h]; decide), if_neg h]
  have hw : wrap64 (n + 1) = n + 1 := w64 (by omega)
  have hw4 : wrap64 (n + 400) = n + 400 := w64 (by omega)
  have hj2 : stevedorelaw4_ClockYears.j1 3 n m (if leap n then 366 else 365) = stevedorelaw4_ClockYears.j2 2 n m (if leap n then 366 else 365) (if m < 12 then dayNum n (m + 1) 1 else dayNum (n + 1) 1 1) := by
    rw [stevedorelaw4_ClockYears.j1, hw, Days_eq _ _ _ (by omega) (by omega) (by omega), Option.bind_some]
    by_cases h : m < 12
    · rw [if_pos h, if_pos h, w64 (n := m + 1) (by omega), Days_eq _ _ _ (by omega) (by omega) (by omega), Option.bind_some]
    · rw [if_neg h, if_neg h]
  have b1 := hb (n + 400) m 5 (by omega) hm (by omega)
  have b2 := hb n m 5 (by omega) hm (by omega)
  have b3 := hb (n + 1) 1 1 (by omega) (by omega) (by omega)
  have b4 := hb n 1 1 (by omega) (by omega) (by omega)
  have b5 := hb n m 1 (by omega) hm (by omega)
  have b6 := hb n m 31 (by omega) hm (by omega)
  have b7 : -400000000 ≤ (if m < 12 then dayNum n (m + 1) 1 else dayNum (n + 1) 1 1) ∧ (if m < 12 then dayNum n (m + 1) 1 else dayNum (n + 1) 1 1) ≤ 400000000 := by
    by_cases h : m < 12
    · rw [if_pos h]; exact hb n (m + 1) 1 (by omega) (by omega) (by omega)
    · rw [if_neg h]; exact b3
  rw [hj1, hj2, stevedorelaw4_ClockYears.j2, hw, hw4]
  simp only [stevedorelaw4_told.f, Option.bind_some, if_true]
  rw [Days_eq _ _ _ (by omega) hm (by omega), Days_eq n m 5 (by omega) hm (by omega)]
  simp only [Option.bind_some]
  rw [if_pos (by rw [w64 (by omega)]; exact era_400 n m 5), Days_eq _ _ _ (by omega) (by omega) (by omega), Days_eq n 1 1 (by omega) (by omega) (by omega)]
  simp only [Option.bind_some]
  rw [if_pos (by rw [w64 (by omega)]; exact year_len n), Days_eq n m 1 (by omega) hm (by omega), Month_eq n m hm]
  simp only [Option.bind_some]
  rw [if_pos (by rw [w64 (by omega)]; exact month_len n m hm.1 hm.2), Days_eq n m 31 (by omega) hm (by omega)]
  simp only [Option.bind_some]
  rw [w64 (by omega), day_step n m 31 1]
  rfl
theorem ClockYears (a0 a1 : Int) : ∃ k, stevedorelaw4_ClockYears.f k a0 a1 = some true := by
  refine ⟨4, ?_⟩
  have hu : ∀ a : Int, 0 ≤ IntKind.u64.wrap a := by
    intro a
    have : IntKind.u64.wrap a = a % 18446744073709551616 := rfl
    omega
  unfold stevedorelaw4_ClockYears.f
  obtain ⟨n, hn, hnr⟩ : ∃ n, wrap64 ((wrap64 (Int.tmod (IntKind.u64.wrap (a0)) 180001)) - 90000) = n ∧ (-90000 ≤ n ∧ n ≤ 90000) := by
    refine ⟨_, rfl, ?_⟩
    have h := hu a0
    rw [tmod_pos h, w64 (n := IntKind.u64.wrap a0 % 180001) (by omega), w64 (by omega)]
    omega
  obtain ⟨m, hm, hmr⟩ : ∃ m, wrap64 (1 + (wrap64 (Int.tmod (IntKind.u64.wrap (a1)) 12))) = m ∧ (1 ≤ m ∧ m ≤ 12) := by
    refine ⟨_, rfl, ?_⟩
    have h := hu a1
    rw [tmod_pos h, w64 (n := IntKind.u64.wrap a1 % 12) (by omega), w64 (by omega)]
    omega
  rw [hn, hm]
  clear hn hm
  have hl := leap_eq n
  have main := j_eq n m hnr hmr
  unfold stevedoreref4_leap.f at hl
  generalize decide (leap n) = lp at hl main
  by_cases h4 : Int.tmod n 4 = 0
  · rw [if_pos h4] at hl ⊢
    by_cases h100 : Int.tmod n 100 = 0
    · rw [if_pos h100] at hl ⊢
      injection hl with hl
      subst hl; exact main
    · rw [if_neg h100] at hl ⊢
      injection hl with hl
      subst hl; exact main
  · rw [if_neg h4] at hl ⊢
    injection hl with hl
    subst hl; exact main
end Go.Proofs.YtfmfikodnpnblaaDoor.PureClockYears

/- Great, which asks whether entries are more than is asked: what it answers. No program here. -/
import Derived.Test.YtfmfikodnpnblaaDoorPRateOf1x
import Derived.Test.YtfmfikodnpnblaaDoorBase
set_option linter.unusedVariables false
namespace Go.Proofs.YtfmfikodnpnblaaDoor.GreatEq
open Go.RowKit Go.Proofs.YtfmfikodnpnblaaDoorW.PrintWords Go.Proofs.YtfmfikodnpnblaaDoorW.PrintLast Go.Proofs.YtfmfikodnpnblaaDoorW.PrintMore Go.Proofs.YtfmfikodnpnblaaDoor.Base Go.Proofs.YtfmfikodnpnblaaDoor.PRateOf1
def Few (l : List S73) : Prop := l.length ≤ 12 ∧ ∀ e ∈ l, e.f0.size ≤ 5000 ∧ e.f6.size ≤ 5000 ∧ e.f7.length ≤ 1000
theorem rd_at {l : List S73} {i : Nat} (h : i < l.length) : rd_T73 l (i : Int) = l[i] := by
  unfold rd_T73; rw [Int.toNat_natCast, List.getD_eq_getElem?_getD, List.getElem?_eq_getElem h]; rfl
theorem great_l0 (l : List S73) (hl : l.length ≤ 12) (d : Nat) : ∀ i, i + d = l.length → ∃ b, (∀ k, d < k → stevedorelaw20_Great.l0 k l i = some b) ∧ (b = false → ∀ e ∈ l.drop i, e.f0.size ≤ 5000 ∧ e.f6.size ≤ 5000 ∧ e.f7.length ≤ 1000) := by
  induction d with
  | zero =>
    intro i hi
    refine ⟨false, fun k hk => ?_, fun _ e he => ?_⟩
    · obtain ⟨k, rfl⟩ : ∃ m, k = m + 1 := ⟨k - 1, by omega⟩
      rw [stevedorelaw20_Great.l0, if_neg (by omega)]
    · rw [List.drop_of_length_le (by omega)] at he; cases he
  | succ d ih =>
    intro i hi
    have hlt : i < l.length := by omega
    obtain ⟨b, h1, h2⟩ := ih (i + 1) (by omega)
    have step : ∀ k, stevedorelaw20_Great.l0 (k + 1) l i = if (l[i].f0.size : Int) > 5000 then some true else if (l[i].f6.size : Int) > 5000 then some true else if (l[i].f7.length : Int) > 1000 then some true else stevedorelaw20_Great.l0 k l ((i + 1 : Nat) : Int) := fun k => by
      rw [stevedorelaw20_Great.l0, if_pos (by omega), if_pos (by omega), rd_at hlt, show wrap64 ((i : Int) + 1) = ((i + 1 : Nat) : Int) by unfold wrap64; omega]
    by_cases c1 : (l[i].f0.size : Int) > 5000
    · refine ⟨true, fun k hk => ?_, fun h => by cases h⟩
      obtain ⟨k, rfl⟩ : ∃ m, k = m + 1 := ⟨k - 1, by omega⟩
      rw [step, if_pos c1]
    by_cases c2 : (l[i].f6.size : Int) > 5000
    · refine ⟨true, fun k hk => ?_, fun h => by cases h⟩
      obtain ⟨k, rfl⟩ : ∃ m, k = m + 1 := ⟨k - 1, by omega⟩
      rw [step, if_neg c1, if_pos c2]
    by_cases c3 : (l[i].f7.length : Int) > 1000
    · refine ⟨true, fun k hk => ?_, fun h => by cases h⟩
      obtain ⟨k, rfl⟩ : ∃ m, k = m + 1 := ⟨k - 1, by omega⟩
      rw [step, if_neg c1, if_neg c2, if_pos c3]
    refine ⟨b, fun k hk => ?_, fun h e he => ?_⟩
    · obtain ⟨k, rfl⟩ : ∃ m, k = m + 1 := ⟨k - 1, by omega⟩
      rw [step, if_neg c1, if_neg c2, if_neg c3]
      exact h1 k (by omega)
    · rw [List.drop_eq_getElem_cons hlt] at he
      rcases List.mem_cons.1 he with rfl | he
      · exact ⟨by omega, by omega, by omega⟩
      · exact h2 h e he
theorem great (l : List S73) : ∃ b, (∀ k, 13 ≤ k → stevedorelaw20_Great.f k l = some b) ∧ (b = false → Few l) := by
  by_cases h : (l.length : Int) > 12
  · exact ⟨true, fun k _ => by unfold stevedorelaw20_Great.f; rw [if_pos h], fun h => by cases h⟩
  · obtain ⟨b, h1, h2⟩ := great_l0 l (by omega) l.length 0 (by omega)
    refine ⟨b, fun k hk => ?_, fun hb => ⟨by omega, fun e he => h2 hb e (by simpa using he)⟩⟩
    unfold stevedorelaw20_Great.f
    rw [if_neg h]
    exact h1 k (by omega)
end Go.Proofs.YtfmfikodnpnblaaDoor.GreatEq

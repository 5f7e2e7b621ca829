/- RateRank, plainly. No program here. -/
import Derived.Test.YtfmfikodnpnblaaDoorPRateRankx
import Derived.Test.YtfmfikodnpnblaaDoorRankF
set_option linter.unusedVariables false
set_option linter.unusedSimpArgs false
namespace Go.Proofs.YtfmfikodnpnblaaDoor.PureRateRank
open Go.RowKit Go.Sort Go.Proofs.YtfmfikodnpnblaaDoorW.PrintWords Go.Proofs.YtfmfikodnpnblaaDoor.Base Go.Proofs.YtfmfikodnpnblaaDoor.Flt Go.Proofs.YtfmfikodnpnblaaDoor.RankCmp Go.Proofs.YtfmfikodnpnblaaDoor.RankRow Go.Proofs.YtfmfikodnpnblaaDoor.RankWalk Go.Proofs.YtfmfikodnpnblaaDoor.RankFacts
open PRateRank (stevedorelaw36_RateRank.l0 stevedorelaw36_RateRank.j1 stevedorelaw36_RateRank.f)
/-- two numbers, by their keys. -/
theorem by_keys (a b : Nat) : FloatKind.f64.format.order a b = match key a, key b with | some x, some y => some (compare x y) | _, _ => none := by
  cases ha : key a with
  | none => exact order_nan (.inl ha)
  | some x =>
    cases hb : key b with
    | none => exact order_nan (.inr hb)
    | some y => exact order_key ha hb
/-- the neighbours' test, in the print's form. -/
theorem next_ok (a b : Nat) (ra rb : Int) (X : Option Bool) (h1 : kz (key b) (key a) = false) (h2 : kz (key a) (key b) = true ∨ ra ≤ rb) (hne : ra ≠ rb) :
    (if (FloatKind.f64.format.order a a == some .eq) = true then (if (FloatKind.f64.format.order b b != some .eq) = true then (some false) else (if (FloatKind.f64.format.order a b == some .gt) = true then (some false) else (if (FloatKind.f64.format.order a b == some .eq) = true then (if ra ≥ rb then (some false) else X) else (if (FloatKind.f64.format.order a a != some .eq) = true then X else X)))) else (if (FloatKind.f64.format.order a b == some .gt) = true then (some false) else (if (FloatKind.f64.format.order a b == some .eq) = true then (if ra ≥ rb then (some false) else X) else (if (FloatKind.f64.format.order a a != some .eq) = true then (if (FloatKind.f64.format.order b b != some .eq) = true then (if ra ≥ rb then (some false) else X) else X) else X)))) = X := by
  rw [by_keys a a, by_keys b b, by_keys a b]
  cases ha : key a with
  | none =>
    rw [ha] at h1 h2
    cases hb : key b with
    | none =>
      rw [hb] at h1 h2
      have : ¬ ra ≥ rb := by
        rcases h2 with h2 | h2
        · cases h2
        · omega
      simp [this]
    | some y => simp [cmp_eq]
  | some x =>
    rw [ha] at h1 h2
    cases hb : key b with
    | none => rw [hb] at h1; cases h1
    | some y =>
      rw [hb] at h1 h2
      have k1 : ¬ y < x := of_decide_eq_false h1
      rcases Int.lt_trichotomy x y with g | g | g
      · simp [cmp_eq, cmp_lt g]
      · have h3 : ¬ ra ≥ rb := by
          rcases h2 with h2 | h2
          · have := of_decide_eq_true h2; omega
          · omega
        simp [cmp_eq, cmp_eq g, h3]
      · exact absurd g k1
theorem gd {β : Type} {l : List β} {d : β} {i : Nat} (h : i < l.length) : l.getD i d = l[i] := by rw [List.getD_eq_getElem?_getD, List.getElem?_eq_getElem h]; rfl
theorem getD_set {l : List Bool} {i j : Nat} : (l.set i true).getD j false = true → j = i ∨ l.getD j false = true := by
  intro h
  by_cases e : j = i
  · exact .inl e
  · right
    rw [List.getD_eq_getElem?_getD, List.getElem?_set_ne (fun h => e h.symm)] at h
    rw [List.getD_eq_getElem?_getD]; exact h
theorem loop (L : List Nat) (r : List Int) (k : Nat) (hL : L.length = k + 1) (h40 : k + 1 ≤ 40) (hr : RankOf (fun t => L.getD t 0) k r) (K : Nat) (d : Nat) : ∀ (i : Nat) (seen : List Bool), i + d = k + 1 → seen.length = k + 1 → (∀ v, seen.getD v false = true → ∃ j, j < i ∧ r.getD j 0 = (v : Int)) →
    stevedorelaw36_RateRank.l0 (2 * d + 1 + K) L r seen (i : Int) = some true := by
  have hl := rank_len hr
  induction d with
  | zero =>
    intro i seen h1 h2 h3
    rw [show 2 * 0 + 1 + K = K + 1 by omega, stevedorelaw36_RateRank.l0, if_neg (by omega)]
    rfl
  | succ d ih =>
    intro i seen h1 h2 h3
    have hi : i < r.length := by omega
    have hb := rank_bound hr _ (List.getElem_mem hi)
    have hrd : rd r (i : Int) = r[i] := by unfold rd; rw [Int.toNat_natCast, gd hi]
    have hns : rdOf false seen r[i] = false := by
      cases hh : rdOf false seen r[i] with
      | false => rfl
      | true =>
        obtain ⟨j, j1, j2⟩ := h3 _ hh
        rw [gd (by omega), Int.toNat_of_nonneg hb.1] at j2
        have := (List.getElem_inj (rank_nodup hr)).1 j2
        omega
    have hseen : ∀ v, (seen.set (r[i]).toNat true).getD v false = true → ∃ j, j < i + 1 ∧ r.getD j 0 = (v : Int) := by
      intro v hv
      rcases getD_set hv with e | e
      · exact ⟨i, by omega, by rw [gd hi, e, Int.toNat_of_nonneg hb.1]⟩
      · obtain ⟨j, j1, j2⟩ := h3 v e
        exact ⟨j, by omega, j2⟩
    have hnext := ih (i + 1) (seen.set (r[i]).toNat true) (by omega) (by rw [List.length_set]; exact h2) hseen
    have hw : wrap64 ((i : Int) + 1) = ((i + 1 : Nat) : Int) := by unfold wrap64; omega
    rw [show 2 * (d + 1) + 1 + K = (2 * d + 1 + K + 1) + 1 by omega, stevedorelaw36_RateRank.l0, hrd, if_pos (by omega), if_pos (by omega), if_neg (by omega), if_neg (by rw [hL]; omega), if_pos hb.1, if_pos (by rw [h2]; omega), hns,
      stevedorelaw36_RateRank.j1, if_neg (by decide), if_pos (by omega), hrd, if_pos (by omega), if_pos hb.1, if_pos (by rw [h2]; omega), Option.bind_some, hw]
    by_cases h0 : i = 0
    · rw [if_pos (by omega)]; exact hnext
    · obtain ⟨p, rfl⟩ : ∃ p, i = p + 1 := ⟨i - 1, by omega⟩
      have hw2 : wrap64 (((p + 1 : Nat) : Int) - 1) = (p : Int) := by unfold wrap64; omega
      have hrp : rd r (p : Int) = r[p] := by unfold rd; rw [Int.toNat_natCast, gd (by omega)]
      have hbp := rank_bound hr _ (List.getElem_mem (show p < r.length by omega))
      obtain ⟨n1, n2⟩ := rank_next hr hi
      rw [if_neg (by omega), hw2, hrp, if_pos (by omega), if_pos (by omega), if_pos hbp.1, if_pos (by rw [hL]; omega), if_pos (by rw [hL]; omega)]
      refine (next_ok (rdOf 0 L r[p]) (rdOf 0 L r[p + 1]) r[p] r[p + 1] _ n1 n2 (fun e => ?_)).trans hnext
      have := (List.getElem_inj (rank_nodup hr)).1 e
      omega
theorem RateRank (l : List Nat) : ∃ k, stevedorelaw36_RateRank.f k l = some true := by
  refine ⟨200, ?_⟩
  unfold stevedorelaw36_RateRank.f
  by_cases h : (l.length : Int) > 40
  · rw [if_pos h]; rfl
  · rw [if_neg h]
    unfold RankF.rate_Rank.f
    rw [if_pos (by omega), Option.bind_some]
    by_cases h0 : l.length = 0
    · rw [if_pos h0, if_pos (by simp [h0]), if_pos (by omega), if_pos (by omega), show (200 : Nat) = 199 + 1 by rfl, stevedorelaw36_RateRank.l0, if_neg (by simp)]
      rfl
    · obtain ⟨k, hk⟩ : ∃ k, l.length = k + 1 := ⟨l.length - 1, by omega⟩
      have hr := rankOf_is (fun t => l.getD t 0) k
      have hl := rank_len hr
      rw [if_neg h0, show l.length - 1 = k by omega, if_pos (by rw [hl, hk]), if_pos (by omega), if_pos (by omega)]
      have := loop l _ k hk (by omega) hr (200 - (2 * (k + 1) + 1)) (k + 1) 0 (List.replicate (k + 1) false) (by omega) (by simp) (fun v hv => by simp [List.getD_eq_getElem?_getD, List.getElem?_replicate] at hv; split at hv <;> simp_all)
      rw [show 2 * (k + 1) + 1 + (200 - (2 * (k + 1) + 1)) = 200 by omega] at this
      rw [hk, Int.toNat_natCast]
      exact this
end Go.Proofs.YtfmfikodnpnblaaDoor.PureRateRank

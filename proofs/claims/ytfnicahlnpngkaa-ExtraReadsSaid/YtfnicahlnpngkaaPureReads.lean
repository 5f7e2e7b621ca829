/- ExtraReads, the plain law. -/
import Derived.Test.YtfnicahlnpngkaaPExtraReadsx
import Derived.Test.YtfnicahlnpngkaaBase
set_option linter.unusedVariables false
set_option linter.unusedSimpArgs false
namespace Go.Proofs.Ytfnicahlnpngkaa.PureReads
open Go.RowKit Go.Proofs.YtfnicahlnpngkaaW.PrintWords Go.Proofs.YtfnicahlnpngkaaW.PrintLast Go.Proofs.YtfnicahlnpngkaaW.PrintMore Go.Proofs.Ytfnicahlnpngkaa.Base Go.Proofs.Ytfnicahlnpngkaa.NumRead Go.Proofs.Ytfnicahlnpngkaa.ExtraNum Go.Proofs.Ytfnicahlnpngkaa.Num1 Go.Proofs.Ytfnicahlnpngkaa.PExtraReads Go.Proofs.Ytfnicahlnpngkaa.ExtraOfExtraReads Go.Proofs.Ytfnicahlnpngkaa.ExtraRefOfExtraReads Go.Proofs.Ytfnicahlnpngkaa.ExtraPutOfExtraReads

theorem told_true : stevedorelaw27_told.f 100 = some true := by decide +kernel
theorem told_at (k : Nat) (hk : 100 ≤ k) : stevedorelaw27_told.f k = some true := at_rounds (g := fun k => stevedorelaw27_told.f k) (fun k => stevedorelaw27_told.mono k) hk told_true

def fewB (l : List S38) : Bool := (l.all fun x => decide ((x.f1.size : Int) ≤ 300)) && decide ((l.length : Int) ≤ 10)
theorem few_go (l : List S38) (hl : l.length ≤ 9223372036854775807) : ∀ (j i k : Nat), i + j = l.length → j < k → stevedorelaw27_Few.l0 k l (i : Int) = some (((l.drop i).all fun x => decide ((x.f1.size : Int) ≤ 300)) && decide ((l.length : Int) ≤ 10))
  | 0, i, k + 1, hi, hk => by
    rw [stevedorelaw27_Few.l0, if_neg (by omega), List.drop_of_length_le (by omega)]
    simp
  | j + 1, i, k + 1, hi, hk => by
    rw [stevedorelaw27_Few.l0, if_pos (by omega), if_pos (by omega), drop_rd l i (by omega)]
    by_cases h : (((rd_T38 l (i : Int)).f1).size : Int) > 300
    · rw [if_pos h, List.all_cons, decide_eq_false (by omega)]
      simp
    · rw [if_neg h, wrap64_id (by omega) (by omega), show ((i : Int) + 1) = ((i + 1 : Nat) : Int) by omega, few_go l hl j (i + 1) k (by omega) (by omega), List.all_cons, decide_eq_true (show (((rd_T38 l (i : Int)).f1).size : Int) ≤ 300 by omega)]
      simp
theorem few_eq (l : List S38) (hl : l.length ≤ 9223372036854775807) (k : Nat) (hk : l.length < k) : stevedorelaw27_Few.f k l = some (fewB l) := by
  have := few_go l hl l.length 0 k (by omega) hk
  exact this

theorem same_go (l : List S38) (hl : l.length ≤ 9223372036854775807) : ∀ (j i k : Nat), i + j = l.length → j < k → stevedorelaw27_same.l0 k l l (i : Int) = some true
  | 0, i, k + 1, hi, hk => by rw [stevedorelaw27_same.l0, if_neg (by omega)]
  | j + 1, i, k + 1, hi, hk => by
    rw [stevedorelaw27_same.l0, if_pos (by omega), if_pos (by omega), if_pos (by omega), if_neg (by simp), wrap64_id (by omega) (by omega), show ((i : Int) + 1) = ((i + 1 : Nat) : Int) by omega]
    exact same_go l hl j (i + 1) k (by omega) (by omega)
theorem same_eq (l : List S38) (hl : l.length ≤ 9223372036854775807) (k : Nat) (hk : l.length < k) : stevedorelaw27_same.f k l l = some true := by
  unfold stevedorelaw27_same.f
  rw [if_pos rfl]
  exact same_go l hl l.length 0 k (by omega) hk

theorem exNum_nonneg {l : List Int} {at_ n v : Int} (h : exNum l at_ n = some v) : 0 ≤ v := by
  unfold exNum at h
  split at h
  · injection h with h; rw [← h]; exact (rdNum_range _ _ _ _).1
  · cases h
theorem read_total (s : ByteArray) : ∀ (k : Nat) (at_ : Int) (out : List S38), (out.length : Int) ≤ at_ → (s.size : Int) - at_ < k → at_ ≤ s.size → ∃ p, rdLoop s k at_ out = some p ∧ p.1.length ≤ s.size
  | 0, at_, out, h0, h1, h2 => by omega
  | k + 1, at_, out, h0, h1, h2 => by
    rw [rdLoop]
    by_cases h : at_ < (s.size : Int)
    · rw [if_pos h]
      cases hx : exNum (bytesOf s) at_ 2 with
      | none => exact ⟨_, rfl, by simp⟩
      | some id =>
        dsimp only
        cases hy : exNum (bytesOf s) (at_ + 2) 2 with
        | none => exact ⟨_, rfl, by simp⟩
        | some n =>
          have hn := exNum_nonneg hy
          dsimp only
          by_cases hc : n > (s.size : Int) - (at_ + 4)
          · rw [if_pos hc]; exact ⟨_, rfl, by simp⟩
          · rw [if_neg hc]
            exact read_total s k (at_ + 4 + n) _ (by simp; omega) (by omega) (by omega)
    · rw [if_neg h]
      exact ⟨_, rfl, by show out.length ≤ s.size; omega⟩

theorem str_app (a b : List Int) : strOfNums (a ++ b) = strOfNums a ++ strOfNums b := by
  apply ByteArray.ext
  simp [strOfNums]
theorem str_bytes (s : ByteArray) : strOfNums (bytesOf s) = s := by
  apply ByteArray.ext
  apply Array.ext'
  rw [strOfNums_data]
  unfold bytesOf
  rw [List.map_map]
  exact (List.map_congr_left (fun b _ => by simp)).trans (List.map_id _)
theorem str_size (a : List Int) : (strOfNums a).size = a.length := strOfNums_size a

theorem put_go (l : List S38) (hl : l.length ≤ 9223372036854775807) (hs : ∀ x ∈ l, x.f1.size ≤ 9223372036854710000) : ∀ (j i k : Nat) (b : List Int), i + j = l.length → 2 * j < k → b.length ≤ 65535 → stevedoreref27_Put.l0 k l (strOfNums b) (i : Int) = some (putLoop (l.drop i) b)
  | 0, i, k + 1, b, hi, hk, hb => by
    rw [stevedoreref27_Put.l0, if_neg (by omega), List.drop_of_length_le (by omega), putLoop]
  | j + 1, i, k + 2, b, hi, hk, hb => by
    have hx : (rd_T38 l (i : Int)).f1.size ≤ 9223372036854710000 := hs _ (by
      have := drop_rd l i (by omega)
      exact List.mem_of_mem_drop (i := i) (by rw [this]; exact List.mem_cons_self))
    rw [stevedoreref27_Put.l0, if_pos (by omega), if_pos (by omega), drop_rd l i (by omega), putLoop]
    generalize hX : rd_T38 l (i : Int) = X at hx ⊢
    by_cases h1 : X.f0 < 0
    · rw [if_pos h1, stevedoreref27_Put.j1, if_pos rfl, if_pos (Or.inl h1)]
    · rw [if_neg h1]
      by_cases h2 : X.f0 > 65535
      · rw [if_pos h2, stevedoreref27_Put.j1, if_pos rfl, if_pos (Or.inr (Or.inl h2))]
      · rw [if_neg h2]
        by_cases h3 : (X.f1.size : Int) > 65535
        · rw [decide_eq_true h3, stevedoreref27_Put.j1, if_pos rfl, if_pos (Or.inr (Or.inr (Or.inl h3)))]
        · have e4 : (strOfNums b ++ strOfNums (leB (IntKind.u64.wrap X.f0) 2) ++ strOfNums (leB (IntKind.u64.wrap (X.f1.size : Int)) 2) ++ X.f1) = strOfNums (b ++ fieldB X) := by
            unfold fieldB
            rw [← List.append_assoc, ← List.append_assoc, str_app, str_app, str_app, str_bytes]
          have n2 : ∀ v, (leB v 2).length = 2 := fun v => by rw [leB_length, if_neg (by omega)]; rfl
          have hfb : (b ++ fieldB X).length = b.length + (4 + X.f1.size) := by rw [List.length_append, fieldB_length]
          rw [decide_eq_false h3, stevedoreref27_Put.j1, if_neg (by decide), if_pos (by omega), if_pos (by omega), hX]
          simp only [stevedoreref1_Bytes.f, Bool.false_eq_true, if_false, Option.bind_some, e4]
          simp only [str_size, ByteArray.size_append, n2]
          rw [if_pos (by omega), if_pos (by omega), if_pos (by omega), hfb]
          by_cases h4 : 65531 - (b.length : Int) < (X.f1.size : Int)
          · rw [if_pos (by omega), if_pos (Or.inr (Or.inr (Or.inr h4)))]
          · rw [if_neg (by omega), if_neg (by omega), wrap64_id (by omega) (by omega), show ((i : Int) + 1) = ((i + 1 : Nat) : Int) by omega]
            exact put_go l hl hs j (i + 1) k _ (by omega) (by omega) (by omega)
theorem put_eq (l : List S38) (hl : l.length ≤ 9223372036854775807) (hs : ∀ x ∈ l, x.f1.size ≤ 9223372036854710000) (k : Nat) (hk : 2 * l.length < k) : stevedoreref27_Put.f k l = some (putLoop l []) := by
  have := put_go l hl hs l.length 0 k [] (by omega) hk (by simp)
  exact this

theorem ExtraReads (a0 : ByteArray) (l : List S38) (hl : l.length ≤ 9223372036854775807) : ∃ k, stevedorelaw27_ExtraReads.f k a0 l = some true := by
  by_cases h1 : (a0.size : Int) > 1000
  · refine ⟨101, ?_⟩
    unfold stevedorelaw27_ExtraReads.f
    rw [if_pos h1, stevedorelaw27_ExtraReads.j0, if_pos rfl, told_at 100 (by omega)]
    rfl
  · refine ⟨l.length + 5000, ?_⟩
    unfold stevedorelaw27_ExtraReads.f
    rw [if_neg h1, few_eq l hl _ (by omega), Option.bind_some]
    show stevedorelaw27_ExtraReads.j0 ((l.length + 4999) + 1) a0 l _ = _
    rw [stevedorelaw27_ExtraReads.j0, told_at (l.length + 4999) (by omega)]
    cases hf : fewB l with
    | false => rfl
    | true =>
      unfold fewB at hf
      rw [Bool.and_eq_true, List.all_eq_true, decide_eq_true_eq] at hf
      obtain ⟨hf1, hf2⟩ := hf
      obtain ⟨p, hp, hpl⟩ := read_total a0 (a0.size + 1) 0 [] (by simp) (by omega) (by omega)
      have hr : extra_Read.f a0 = some p := by unfold extra_Read.f; rw [if_pos (by omega), hp]
      have hr2 : stevedoreref27_Read.f a0 = some p := hr
      have hw : extra_Put.f l = some (putLoop l []) := by unfold extra_Put.f; rw [if_pos (by omega)]
      rw [hr, hr2, hw, put_eq l hl (fun x hx => by have := of_decide_eq_true (hf1 x hx); omega) _ (by omega)]
      simp only [Bool.not_true, Bool.false_eq_true, if_false, Option.bind_some, if_true]
      rw [same_eq p.1 (by omega) _ (by omega)]
      simp
end Go.Proofs.Ytfnicahlnpngkaa.PureReads

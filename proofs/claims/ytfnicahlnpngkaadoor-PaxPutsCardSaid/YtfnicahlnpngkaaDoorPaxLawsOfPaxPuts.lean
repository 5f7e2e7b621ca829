/- Small laws that the pax statements share. PaxPuts -/
import Derived.Test.YtfnicahlnpngkaaDoorPaxPutOfPaxPuts
set_option linter.unusedVariables false
set_option linter.unusedSimpArgs false
namespace Go.Proofs.YtfnicahlnpngkaaDoor.PaxLawsOfPaxPuts
open Go.RowKit Go.Proofs Go.Proofs.YtfnicahlnpngkaaDoorW.PrintWords Go.Proofs.YtfnicahlnpngkaaDoorW.PrintLast Go.Proofs.YtfnicahlnpngkaaDoorW.PrintMore Go.Proofs.YtfnicahlnpngkaaDoor.Base Go.Proofs.YtfnicahlnpngkaaDoor.DoorCut Go.Proofs.YtfnicahlnpngkaaDoor.DoorLen Go.Proofs.YtfnicahlnpngkaaDoor.DoorPutOfPaxPuts Go.Proofs.YtfnicahlnpngkaaDoor.PaxSem Go.Proofs.YtfnicahlnpngkaaDoor.PPaxPuts Go.Proofs.YtfnicahlnpngkaaDoor.PaxOneOfPaxPuts Go.Proofs.YtfnicahlnpngkaaDoor.PaxPutOfPaxPuts

theorem told_true : stevedorelaw24_told.f 100 = some true := by decide +kernel
theorem told_at (k : Nat) (hk : 100 ≤ k) : stevedorelaw24_told.f k = some true := at_rounds (g := fun k => stevedorelaw24_told.f k) (fun k => stevedorelaw24_told.mono k) hk told_true
theorem rd_get (l : List S39) (i : Nat) (h : i < l.length) : rd_T39 l (i : Int) = l[i] := by
  unfold rd_T39
  rw [Int.toNat_natCast, List.getD_eq_getElem?_getD, List.getElem?_eq_getElem h]
  rfl

def fewB (l : List S39) : Bool := (l.all fun x => decide (x.f0.size ≤ 200) && decide (x.f1.size ≤ 1200)) && decide (l.length ≤ 12)
theorem few_go (l : List S39) (hl : l.length ≤ 9223372036854775807) : ∀ (j i k : Nat), i + j = l.length → j < k → stevedorelaw24_few.l0 k l (i : Int) = some (((l.drop i).all fun x => decide (x.f0.size ≤ 200) && decide (x.f1.size ≤ 1200)) && decide (l.length ≤ 12))
  | 0, i, k + 1, hi, hk => by
    rw [stevedorelaw24_few.l0, if_neg (by omega), List.drop_of_length_le (by omega)]
    simp
    omega
  | j + 1, i, k + 1, hi, hk => by
    rw [stevedorelaw24_few.l0, if_pos (by omega), if_pos (by omega), List.drop_eq_getElem_cons (by omega), ← rd_get l i (by omega), List.all_cons]
    by_cases h : (((rd_T39 l (i : Int)).f0).size : Int) > 200
    · rw [if_pos h, decide_eq_false (show ¬ (rd_T39 l (i : Int)).f0.size ≤ 200 by omega)]
      rfl
    · rw [if_neg h, decide_eq_true (show (rd_T39 l (i : Int)).f0.size ≤ 200 by omega)]
      by_cases h1 : (((rd_T39 l (i : Int)).f1).size : Int) > 1200
      · rw [if_pos h1, decide_eq_false (show ¬ (rd_T39 l (i : Int)).f1.size ≤ 1200 by omega)]
        rfl
      · rw [if_neg h1, decide_eq_true (show (rd_T39 l (i : Int)).f1.size ≤ 1200 by omega), wrap64_id (by omega) (by omega), show ((i : Int) + 1) = ((i + 1 : Nat) : Int) by omega, few_go l hl j (i + 1) k (by omega) (by omega)]
        rfl
  | 0, i, 0, hi, hk => absurd hk (by omega)
  | j + 1, i, 0, hi, hk => absurd hk (by omega)
theorem few_eq (l : List S39) (hl : l.length ≤ 9223372036854775807) (k : Nat) (hk : l.length < k) : stevedorelaw24_few.f k l = some (fewB l) := few_go l hl l.length 0 k (by omega) hk

theorem same_go (l : List S39) (hl : l.length ≤ 9223372036854775807) : ∀ (j i k : Nat), i + j = l.length → j < k → stevedoreref23_SameRecords.l0 k l l (i : Int) = some true
  | 0, i, k + 1, hi, hk => by rw [stevedoreref23_SameRecords.l0, if_neg (by omega)]
  | j + 1, i, k + 1, hi, hk => by
    rw [stevedoreref23_SameRecords.l0, if_pos (by omega), if_pos (by omega), if_pos (by omega), if_neg (by simp), wrap64_id (by omega) (by omega), show ((i : Int) + 1) = ((i + 1 : Nat) : Int) by omega]
    exact same_go l hl j (i + 1) k (by omega) (by omega)
  | 0, i, 0, hi, hk => absurd hk (by omega)
  | j + 1, i, 0, hi, hk => absurd hk (by omega)
theorem same_eq (l : List S39) (hl : l.length ≤ 9223372036854775807) (k : Nat) (hk : l.length < k) : stevedoreref23_SameRecords.f k l l = some true := by
  unfold stevedoreref23_SameRecords.f
  rw [if_pos rfl]
  exact same_go l hl l.length 0 k (by omega) hk

theorem readS_bounds : ∀ (n : Nat) (s : List UInt8) (l : List (List UInt8 × List UInt8)), readS n s = some l → 5 * l.length ≤ s.length ∧ ∀ p ∈ l, p.1.length ≤ s.length ∧ p.2.length ≤ s.length
  | 0, s, l, h => by
    rw [readS] at h
    split at h
    · injection h with h; subst h; simp
    · cases h
  | n + 1, s, l, h => by
    rw [readS] at h
    split at h
    · injection h with h; subst h; simp
    · cases ho : oneS s with
      | none => rw [ho] at h; cases h
      | some p =>
        obtain ⟨k, v, r⟩ := p
        rw [ho] at h
        dsimp only at h
        cases hr : readS n r with
        | none => rw [hr] at h; cases h
        | some l' =>
          rw [hr, Option.map_some, Option.some.injEq] at h
          subst h
          obtain ⟨m, hs, hm, hk, _⟩ := oneS_inv ho
          have hml := recL_length (m : Int) k v
          have hk1 : 0 < k.length := List.length_pos_iff.2 hk
          have hi1 := itoa_pos (m : Int) (by omega)
          have hsl : s.length = m + r.length := by rw [hs, List.length_append, hm]
          obtain ⟨h1, h2⟩ := readS_bounds n r l' hr
          refine ⟨by rw [List.length_cons]; omega, fun p hp => ?_⟩
          rcases List.mem_cons.1 hp with rfl | hp
          · exact ⟨by show k.length ≤ _; omega, by show v.length ≤ _; omega⟩
          · have := h2 p hp; omega

end Go.Proofs.YtfnicahlnpngkaaDoor.PaxLawsOfPaxPuts

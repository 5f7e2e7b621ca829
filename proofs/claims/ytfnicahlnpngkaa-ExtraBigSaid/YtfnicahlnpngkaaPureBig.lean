/- ExtraBig, the plain law. -/
import Derived.Test.YtfnicahlnpngkaaPExtraBigx
import Derived.Test.YtfnicahlnpngkaaBase
import Derived.Test.YtfnicahlnpngkaaWalkBig
set_option linter.unusedVariables false
set_option linter.unusedSimpArgs false
namespace Go.Proofs.Ytfnicahlnpngkaa.PureBig
open Go.RowKit Go.Proofs.YtfnicahlnpngkaaW.PrintWords Go.Proofs.YtfnicahlnpngkaaW.PrintLast Go.Proofs.YtfnicahlnpngkaaW.PrintMore Go.Proofs.Ytfnicahlnpngkaa.Base Go.Proofs.Ytfnicahlnpngkaa.NumRead Go.Proofs.Ytfnicahlnpngkaa.ExtraNum Go.Proofs.Ytfnicahlnpngkaa.NumAcc Go.Proofs.Ytfnicahlnpngkaa.Num1 Go.Proofs.Ytfnicahlnpngkaa.PExtraBig Go.Proofs.Ytfnicahlnpngkaa.ExtraOfExtraBig Go.Proofs.Ytfnicahlnpngkaa.ExtraPutOfExtraBig Go.Proofs.Ytfnicahlnpngkaa.ExtraBigOfExtraBig

theorem told_true : stevedorelaw27_told.f 100 = some true := by decide +kernel
theorem told_at (k : Nat) (hk : 100 ≤ k) : stevedorelaw27_told.f k = some true := at_rounds (g := fun k => stevedorelaw27_told.f k) (fun k => stevedorelaw27_told.mono k) hk told_true

def fewB (l : List S38) : Bool := (l.all fun x => decide ((x.f1.size : Int) ≤ 300)) && decide ((l.length : Int) ≤ 10)
theorem few_go (l : List S38) (hl : l.length ≤ 9223372036854775807) : ∀ (j i k : Nat), i + j = l.length → j < k → stevedorelaw27_Few.l0 k l (i : Int) = some (((l.drop i).all fun x => decide ((x.f1.size : Int) ≤ 300)) && decide ((l.length : Int) ≤ 10))
  | 0, i, k + 1, hi, hk => by
    rw [stevedorelaw27_Few.l0, if_neg (by omega), List.drop_of_length_le (by omega)]
    simp
  | j + 1, i, k + 1, hi, hk => by
    rw [stevedorelaw27_Few.l0, if_pos (by omega), if_pos (by omega), ExtraPutOfExtraBig.drop_rd l i (by omega)]
    by_cases h : (((rd_T38 l (i : Int)).f1).size : Int) > 300
    · rw [if_pos h, List.all_cons, decide_eq_false (by omega)]
      simp
    · rw [if_neg h, wrap64_id (by omega) (by omega), show ((i : Int) + 1) = ((i + 1 : Nat) : Int) by omega, few_go l hl j (i + 1) k (by omega) (by omega), List.all_cons, decide_eq_true (show (((rd_T38 l (i : Int)).f1).size : Int) ≤ 300 by omega)]
      simp
theorem few_eq (l : List S38) (hl : l.length ≤ 9223372036854775807) (k : Nat) (hk : l.length < k) : stevedorelaw27_Few.f k l = some (fewB l) := by
  have := few_go l hl l.length 0 k (by omega) hk
  exact this
theorem str_app (a b : List Int) : strOfNums (a ++ b) = strOfNums a ++ strOfNums b := by
  apply ByteArray.ext
  simp [strOfNums]
theorem str_size (a : List Int) : (strOfNums a).size = a.length := strOfNums_size a
/-- the bytes of great numbers. -/
def eights : List Int → List Int
  | [] => []
  | x :: v => leB (IntKind.u64.wrap x) 8 ++ eights v
theorem n8 (v : Int) : (leB v 8).length = 8 := by rw [leB_length, if_neg (by omega)]; rfl
theorem rd_cons (v : List Int) (i : Nat) (h : i < v.length) : v.drop i = rd v (i : Int) :: v.drop (i + 1) := by
  rw [List.drop_eq_getElem_cons h]
  unfold rd
  rw [Int.toNat_natCast, List.getD_eq_getElem?_getD, List.getElem?_eq_getElem h]
  rfl
theorem putBig_go (v : List Int) (hl : v.length ≤ 1000) : ∀ (j i k : Nat) (b : List Int), i + j = v.length → j < k → b.length ≤ 8 * i → extra_PutBig.l0 k b v (v.length : Int) (i : Int) = some (1, strOfNums (b ++ eights (v.drop i)))
  | 0, i, k + 1, b, hi, hk, hb => by
    rw [extra_PutBig.l0, if_neg (by omega), List.drop_of_length_le (by omega)]
    simp [eights]
  | j + 1, i, k + 1, b, hi, hk, hb => by
    rw [extra_PutBig.l0, if_pos (by omega), if_pos (by omega), if_pos (by omega), rd_cons v i (by omega), eights]
    unfold num_PutLittle.f
    rw [if_pos (by omega), Option.bind_some, wrap64_id (by omega) (by omega), show ((i : Int) + 1) = ((i + 1 : Nat) : Int) by omega, putBig_go v hl j (i + 1) k _ (by omega) (by omega) (by rw [List.length_append, n8]; omega), List.append_assoc]
theorem putBig_eq (v : List Int) (hl : v.length ≤ 1000) (k : Nat) (hk : v.length < k) : extra_PutBig.f k v = some (1, strOfNums (eights v)) := by
  have := putBig_go v hl v.length 0 k [] (by omega) hk (by simp)
  exact this
theorem refBig_go (v : List Int) (hl : v.length ≤ 1000) : ∀ (j i k : Nat) (b : List Int), i + j = v.length → j < k → b.length ≤ 8 * i → stevedoreref27_PutBig.l0 k v (strOfNums b) (i : Int) = some (1, strOfNums (b ++ eights (v.drop i)))
  | 0, i, k + 1, b, hi, hk, hb => by
    rw [stevedoreref27_PutBig.l0, if_neg (by omega), List.drop_of_length_le (by omega)]
    simp [eights]
  | j + 1, i, k + 1, b, hi, hk, hb => by
    rw [stevedoreref27_PutBig.l0, if_pos (by omega), if_pos (by omega), rd_cons v i (by omega), eights]
    simp only [stevedoreref1_Bytes.f, Bool.false_eq_true, if_false, Option.bind_some, str_size, n8]
    rw [if_pos (by omega), ← str_app, wrap64_id (by omega) (by omega), show ((i : Int) + 1) = ((i + 1 : Nat) : Int) by omega, refBig_go v hl j (i + 1) k _ (by omega) (by omega) (by rw [List.length_append, n8]; omega), List.append_assoc]
theorem refBig_eq (v : List Int) (hl : v.length ≤ 1000) (k : Nat) (hk : v.length < k) : stevedoreref27_PutBig.f k v = some (1, strOfNums (eights v)) := by
  have := refBig_go v hl v.length 0 k [] (by omega) hk (by simp)
  exact this
/-- whatever comes in, it answers true. -/
theorem calls (A0 : Option Addr) (c0 : Nat) (l0 : List S38) (A1 : Option Addr) (c1 : Nat) (l1 : List Bool) (A2 : Option Addr) (c2 : Nat) (l2 : List Int) (w : World) (hl : l0.length ≤ 9223372036854775807) (hr0 : Kd.C k38 w A0 l0.length l0) (hc0 : l0.length ≤ c0)
    (hr1 : Kd.C Kd.bool w A1 l1.length l1) (hc1 : l1.length ≤ c1) (hr2 : Kd.C (Kd.int .i64) w A2 l2.length l2) (hc2 : l2.length ≤ c2) :
    Calls Try.prog 4 #[.slice A0 l0.length c0, .slice A1 l1.length c1, .slice A2 l2.length c2] w fun e w' => e = .returned (.bool true) ∧ Below w.heap.size w w' := by
  have hf := few_eq l0 hl (l0.length + 1000) (by omega)
  have ht := told_at (l0.length + 1000) (by omega)
  by_cases hno : fewB l0 = false ∨ 5 < (l1.length : Int) ∨ 5 < (l2.length : Int)
  · exact WalkBig.no _ A0 c0 l0 A1 c1 l1 A2 c2 l2 (fewB l0) w hr0 hc0 hf ht hno
  · have hb : fewB l0 = true := by
      cases h : fewB l0 with
      | true => rfl
      | false => exact absurd (Or.inl h) hno
    rw [hb] at hf
    unfold fewB at hb
    rw [Bool.and_eq_true, decide_eq_true_eq] at hb
    have h1 : ¬ 5 < (l1.length : Int) := fun h => hno (Or.inr (Or.inl h))
    have h2 : ¬ 5 < (l2.length : Int) := fun h => hno (Or.inr (Or.inr h))
    exact WalkBig.yes _ A0 c0 l0 A1 c1 l1 A2 c2 l2 _ w hr0 hc0 hr1 hc1 hr2 hc2 hf ht h1 h2 (by omega) (putBig_eq l2 (by omega) _ (by omega)) (refBig_eq l2 (by omega) _ (by omega))
end Go.Proofs.Ytfnicahlnpngkaa.PureBig

/- pax.Get, the document's Get and Merge, as they are printed: what they come to. PaxPuts -/
import Derived.Test.YtfnicahlnpngkaaDoorPaxLawsOfPaxPuts
import Derived.Test.YtfnicahlnpngkaaDoorPaxMergeOfPaxPuts
set_option linter.unusedVariables false
set_option linter.unusedSimpArgs false
namespace Go.Proofs.YtfnicahlnpngkaaDoor.PaxMergeLOfPaxPuts
open Go.RowKit Go.Proofs Go.Proofs.YtfnicahlnpngkaaDoorW.PrintWords Go.Proofs.YtfnicahlnpngkaaDoorW.PrintLast Go.Proofs.YtfnicahlnpngkaaDoorW.PrintMore Go.Proofs.YtfnicahlnpngkaaDoor.Base Go.Proofs.YtfnicahlnpngkaaDoor.MergeP Go.Proofs.YtfnicahlnpngkaaDoor.PPaxPuts Go.Proofs.YtfnicahlnpngkaaDoor.PaxMergeOfPaxPuts Go.Proofs.YtfnicahlnpngkaaDoor.PaxLawsOfPaxPuts
theorem tl_eq {a b : ByteArray} : a.toList = b.toList ↔ a = b := by
  constructor
  · intro h
    rw [toList_eq, toList_eq] at h
    exact ByteArray.ext (Array.toList_inj.1 h)
  · intro h; rw [h]
def getS (l : List S39) (key : ByteArray) : ByteArray × Bool := match (l.filter fun x => decide (x.f0 = key)).getLast? with
  | none => (⟨#[]⟩, false)
  | some x => (x.f1, true)
theorem get_go (l : List S39) (key : ByteArray) (hl : l.length ≤ 1000000) : ∀ (i k : Nat), i ≤ l.length → i < k → pax_Get.l0 k l key ((i : Int) - 1) = some (getS (l.take i) key)
  | 0, k + 1, hi, hk => by
    rw [pax_Get.l0, if_neg (by omega)]
    simp [getS]
  | i + 1, k + 1, hi, hk => by
    rw [pax_Get.l0, show (((i + 1 : Nat) : Int) - 1) = (i : Int) by omega, if_pos (by omega), if_pos (by omega), if_pos (by omega), rd_get l i (by omega), show wrap64 ((i : Int) - 1) = (i : Int) - 1 from wrap64_id (by omega) (by omega)]
    have ht : l.take (i + 1) = l.take i ++ [l[i]] := List.take_succ_eq_append_getElem (by omega)
    by_cases h : l[i].f0 = key
    · rw [if_pos (tl_eq.2 h), ht]
      unfold getS
      rw [List.filter_append, List.filter_cons, if_pos (by simpa using h), List.filter_nil, List.getLast?_concat]
    · rw [if_neg (fun e => h (tl_eq.1 e)), get_go l key hl i k (by omega) (by omega), ht]
      unfold getS
      rw [List.filter_append, List.filter_cons, if_neg (by simpa using h), List.filter_nil, List.append_nil]
  | 0, 0, hi, hk => absurd hk (by omega)
  | i + 1, 0, hi, hk => absurd hk (by omega)
theorem get_eq (l : List S39) (key : ByteArray) (hl : l.length ≤ 1000000) (k : Nat) (hk : l.length < k) : pax_Get.f k l key = some (getS l key) := by
  unfold pax_Get.f
  rw [show wrap64 ((l.length : Int) - 1) = (l.length : Int) - 1 from wrap64_id (by omega) (by omega), get_go l key hl l.length k (Nat.le_refl _) hk, List.take_length]
theorem live_iff (x : S39) : live39 x = true ↔ ¬ x.f1.toList = [] := by
  unfold live39
  cases h : x.f1.toList <;> simp
theorem filter_len {p : S39 → Bool} (l : List S39) : (l.filter p).length ≤ l.length := List.length_filter_le _ _
theorem merge1_len (out : List S39) (r : S39) : (merge1 S39.f0 live39 out r).length ≤ out.length + 1 := by
  have := filter_len (p := fun x => !same S39.f0 r x) out
  unfold merge1
  split
  · split
    · rw [List.length_append, List.length_singleton]; omega
    · rw [List.length_append, List.length_cons, List.length_take, List.length_drop]; omega
  · omega
end Go.Proofs.YtfnicahlnpngkaaDoor.PaxMergeLOfPaxPuts

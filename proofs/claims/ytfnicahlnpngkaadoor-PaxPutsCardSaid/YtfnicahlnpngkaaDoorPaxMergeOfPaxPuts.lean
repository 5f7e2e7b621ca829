/- pax.Merge, in the print's form. PaxPuts: the printed namespace. -/
import Derived.Test.YtfnicahlnpngkaaDoorPPaxPutsx0
import Derived.Test.YtfnicahlnpngkaaDoorMergeX
set_option linter.unusedVariables false
set_option linter.unusedSimpArgs false
namespace Go.Proofs.YtfnicahlnpngkaaDoor.PaxMergeOfPaxPuts
open Go.RowKit Go.Proofs Go.Proofs.YtfnicahlnpngkaaDoorW.PrintWords Go.Proofs.YtfnicahlnpngkaaDoorW.PrintLast Go.Proofs.YtfnicahlnpngkaaDoorW.PrintMore Go.Proofs.YtfnicahlnpngkaaDoor.Base Go.Proofs.YtfnicahlnpngkaaDoor.MergeP Go.Proofs.YtfnicahlnpngkaaDoor.MergeW Go.Proofs.YtfnicahlnpngkaaDoor.MergeX Go.Proofs.YtfnicahlnpngkaaDoor.PPaxPuts
def toS (x : S39) : S := (x.f0, x.f1)
def ofS (x : S) : S39 := ⟨x.1, x.2⟩
theorem of_to (x : S39) : ofS (toS x) = x := rfl
theorem to_of (x : S) : toS (ofS x) = x := rfl
def live39 (x : S39) : Bool := !(x.f1.toList == [])
def pax_Merge.f (l0 l1 : List S39) : Option (List S39) := if l0.length ≤ 1000000 ∧ l1.length ≤ 1000000 then some (l1.foldl (merge1 S39.f0 live39) l0) else none
theorem C_toS {w : World} {A : Option Addr} {n : Nat} {xs : List S39} (h : Kd.C k39 w A n xs) : Kd.C kS w A n (xs.map toS) := by
  obtain ⟨h1, h2, h3⟩ := h
  refine ⟨by rw [List.length_map]; exact h1, h2, fun h0 => ?_⟩
  obtain ⟨ad, e, hc⟩ := h3 h0
  refine ⟨ad, e, fun j p hj => ?_⟩
  rw [List.getElem?_map] at hj
  obtain ⟨q, hq, rfl⟩ := Option.map_eq_some_iff.1 hj
  obtain ⟨cs, g1, g2, g3⟩ := hc j q hq
  exact ⟨cs, g1, by rw [k39_open g2]; exact ⟨_, _, rfl, rfl, rfl⟩, g3⟩
theorem R_ofS {w : World} {base : Nat} {v : Value} {xs : List S39} (h : Kd.R kS 39 w base (fun _ => True) v (xs.map toS)) : Kd.R k39 39 w base (fun _ => True) v xs := by
  obtain ⟨h1, inner, h2, h3, h4⟩ := h
  rw [List.length_map] at h2 h3
  refine ⟨h1, inner, h2, h3, fun j p hj => ?_⟩
  have := h4 j (toS p) (by rw [List.getElem?_map, hj]; rfl)
  have e := kS_openM this
  show k39.M _ _ _ p ((inner.drop (j * 2)).take 2)
  rw [show (inner.drop (j * 2)).take 2 = encS (toS p) from e]
  exact k39_mkM _ _ _ p
theorem str_eq {a b : ByteArray} : (a.toList == b.toList) = decide (a = b) := by
  by_cases h : a = b
  · rw [h]; simp
  · rw [decide_eq_false h]
    refine beq_eq_false_iff_ne.2 (fun e => h ?_)
    rw [toList_eq, toList_eq] at e
    exact ByteArray.ext (Array.toList_inj.1 e)
theorem key_is (r x : S39) : isKey (toS r).1 (toS x) = same S39.f0 r x := str_eq
theorem keep_is (r : S39) (l : List S39) : keep (toS r).1 (l.map toS) = (l.filter fun x => !same S39.f0 r x).map toS := by
  unfold keep
  rw [List.filter_map, show ((fun x => !isKey (toS r).1 x) ∘ toS) = fun x => !same S39.f0 r x from funext fun x => by rw [Function.comp, key_is]]
theorem merge_is (out : List S39) (r : S39) : mergeS (out.map toS) (toS r) = (merge1 S39.f0 live39 out r).map toS := by
  have hf : (out.map toS).findIdx? (isKey (toS r).1) = out.findIdx? (same S39.f0 r) := by
    rw [List.findIdx?_map, show (isKey (toS r).1 ∘ toS) = same S39.f0 r from funext fun x => key_is r x]
  unfold mergeS merge1
  rw [hf, keep_is, show live (toS r) = live39 r from rfl]
  by_cases hl : live39 r = true
  · rw [if_pos hl, if_pos hl]
    cases out.findIdx? (same S39.f0 r) with
    | none => simp
    | some i => simp [List.map_take, List.map_drop]
  · rw [if_neg hl, if_neg hl]
theorem fold_is : ∀ (l1 l0 : List S39), (l1.map toS).foldl mergeS (l0.map toS) = (l1.foldl (merge1 S39.f0 live39) l0).map toS
  | [], l0 => rfl
  | r :: t, l0 => by rw [List.map_cons, List.foldl_cons, List.foldl_cons, merge_is, fold_is t]
theorem pax_Merge.calls (A0 : Option Addr) (c0 : Nat) (l0 : List S39) (A1 : Option Addr) (c1 : Nat) (l1 : List S39) (r : List S39) (w : World) (hr0 : Kd.C k39 w A0 l0.length l0) (hc0 : l0.length ≤ c0) (hr1 : Kd.C k39 w A1 l1.length l1) (hc1 : l1.length ≤ c1) (h : pax_Merge.f l0 l1 = some r) :
    Calls Tryd.prog 20 #[.slice A0 l0.length c0, .slice A1 l1.length c1] w fun e w' => ∃ v0_ : Value, e = .returned (v0_) ∧ Kd.R k39 39 w' w.heap.size (fun _ => True) v0_ r ∧ Below w.heap.size w w' := by
  unfold pax_Merge.f at h
  split at h
  · rename_i hl
    injection h with h
    have q := merge_calls A0 c0 (l0.map toS) A1 c1 (l1.map toS) w (by rw [List.length_map]; exact C_toS hr0) (by rw [List.length_map]; exact C_toS hr1) (by rw [List.length_map]; exact hl.1) (by rw [List.length_map]; exact hl.2)
    rw [List.length_map, List.length_map] at q
    refine q.mono ?_
    rintro e w' ⟨v, rfl, hR, hb⟩
    rw [fold_is, h] at hR
    exact ⟨v, rfl, R_ofS hR, hb⟩
  · cases h
theorem ne_pos {t : Bool} {l : List UInt8} (h : (t != (l != ([] : List UInt8))) = true) : l.isEmpty = t := by
  cases t <;> cases l <;> first | rfl | (exact absurd h (by decide)) | (exact absurd h (by simp))
theorem ne_neg {t : Bool} {l : List UInt8} (h : ¬ (t != (l != ([] : List UInt8))) = true) : l.isEmpty = !t := by
  cases t <;> cases l <;> first | rfl | (exact absurd (by decide) h) | (exact absurd (by simp) h)
end Go.Proofs.YtfnicahlnpngkaaDoor.PaxMergeOfPaxPuts

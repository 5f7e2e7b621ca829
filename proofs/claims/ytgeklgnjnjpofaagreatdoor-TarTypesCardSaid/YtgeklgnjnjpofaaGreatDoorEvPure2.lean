/- operations that only compute, one by one. -/
import Derived.Test.YtgeklgnjnjpofaaGreatDoorEvPure
set_option linter.unusedVariables false
set_option linter.unusedSimpArgs false
namespace Go.Ev
open Go Go.RowKit
section
variable {P : Program} {μ : Mu}
theorem indexAt_slice {t e : TypeId} {b o n l c : Nat} {k : IntKind} {w : World} (hu : P.underlying t = some (.slice e)) (hn : n < l) {i : TypeInfo} (hi : P.info? e = some i) :
    (Instr.indexAt t (.slice (some ⟨b, o, none⟩) l c) (.int k (.ofNat n))).run P w = .ok (.pointer (some ⟨b, o + n * szOf P e, none⟩)) w := by
  simp [Instr.indexAt, go_sem, underlying_run hu, sizeOf_run hi, Result.andThen, hn, szOf_eq hi, add_none]
theorem indexAt_arr {t e : TypeId} {b o n l : Nat} {k : IntKind} {w : World} (hu : P.underlying t = some (.array l e)) (hn : n < l) {i : TypeInfo} (hi : P.info? e = some i) :
    (Instr.indexAt t (.pointer (some ⟨b, o, none⟩)) (.int k (.ofNat n))).run P w = .ok (.pointer (some ⟨b, o + n * szOf P e, none⟩)) w := by
  simp [Instr.indexAt, Instr.sureAddr, go_sem, underlying_run hu, sizeOf_run hi, Result.andThen, hn, szOf_eq hi, add_none]
theorem fieldAt_run {t : TypeId} {fs : Array Field} {f : Nat} {fl : Field} {b o : Nat} {w : World} (hu : P.underlying t = some (.struct fs)) (hf : fs.toList[f]? = some fl) (hz : szOf P fl.type ≠ 0) :
    (Instr.fieldAt t (.pointer (some ⟨b, o, none⟩)) f).run P w = .ok (.pointer (some ⟨b, o + fl.offset, none⟩)) w := by
  obtain ⟨i, hi, hs⟩ := szOf_pos hz
  rw [Array.getElem?_toList] at hf
  simp [Instr.fieldAt, Instr.sureAddr, fieldPlace, go_sem, underlying_run hu, sizeOf_run hi, Result.andThen, hf, hs, hz, add_none]
theorem index_str {t : TypeId} {s : ByteArray} {k : IntKind} {n : Nat} {x : UInt8} {w : World} (hu : P.underlying t = some .string) (hx : s.data.toList[n]? = some x) :
    (Instr.index t (.string s) (.int k (.ofNat n))).run P w = .ok (.int .u8 x.toNat) w := by
  rw [Array.getElem?_toList] at hx
  have : s[n]? = some x := by
    have hlt : n < s.data.size := by
      rcases Nat.lt_or_ge n s.data.size with h | h
      · exact h
      · rw [Array.getElem?_eq_none h] at hx; cases hx
    rw [Array.getElem?_eq_getElem hlt] at hx
    have h2 : n < s.size := hlt
    rw [getElem?_pos s n h2]
    exact hx
  simp [Instr.index, go_sem, underlying_run hu, Result.andThen, this]
theorem makeIface_run {t : TypeId} {d : TypeDesc} {x : Value} {w : World} (hu : P.underlying t = some d) (hd : ∀ m, d ≠ .interface m) : (Instr.makeInterface t x).run P w = .ok (.iface t x) w := by
  unfold Instr.makeInterface
  rw [bind_ok (underlying_run hu w)]
  cases d <;> first | rfl | exact absurd rfl (hd _)
theorem part_run {t : TypeId} {cs : Array Value} {off : Nat} {v : Value} {w : World} (h : partL P t cs.toList off = some v) : (part t cs off).run P w = .ok v w := by
  unfold partL at h
  unfold part
  cases hu : P.underlying t with
  | none => rw [hu] at h; cases h
  | some d =>
  rw [hu] at h
  obtain ⟨i, hi⟩ := info_of_underlying hu
  rw [bind_ok (isAgg_run hu w)]
  cases hb : isAggB P t with
  | true =>
    rw [hb] at h
    simp only [cond_true, Option.some.injEq] at h
    rw [if_pos rfl, bind_ok (sizeOf_run hi w), ← h, szOf_eq hi]
    rw [pure_run]
    congr 2
    rw [← Array.toList_inj]
    simp [Array.toList_extract, List.extract_eq_take_drop]
  | false =>
    rw [hb] at h
    simp only [cond_false] at h
    rw [if_neg (by simp)]
    rw [Array.getElem?_toList] at h
    rw [h]; rfl
end
end Go.Ev

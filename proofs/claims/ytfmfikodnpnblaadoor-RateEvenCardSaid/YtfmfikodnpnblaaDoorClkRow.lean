/- A row of digits that '[]byte(s)' made: what is read, what is written. -/
import Derived.Test.YtfmfikodnpnblaaDoorClkLib
import Derived.Test.YtfmfikodnpnblaaDoorClkPartsP
import Derived.Lib.ConvBytes
import Derived.Laws.IdiomStrings
set_option linter.unusedVariables false
namespace Go.Proofs.YtfmfikodnpnblaaDoor.ClkRow
open Go.RowKit Go.Proofs Go.Proofs.YtfmfikodnpnblaaDoorW.PrintWords Go.Proofs.YtfmfikodnpnblaaDoor.Base Go.Proofs.YtfmfikodnpnblaaDoor.ClkPartsP

def dig (d : Nat) : Value := .int .u8 ((48 + d : Nat) : Int)
def BRow (w : World) (b : Nat) (l : List Nat) : Prop := ∃ (cs : Array Value) (c : Nat), w.heap[b]? = some (.cells cs 5 (c, c + 1)) ∧ l.length ≤ c ∧ ∀ i (h : i < l.length), cs[i]? = some (dig l[i])

theorem BRow.cell {w : World} {b : Nat} {l : List Nat} (h : BRow w b l) (i : Nat) (hi : i < l.length) : w.cell? ⟨b, i, none⟩ = some (dig l[i]) := by
  obtain ⟨cs, c, h1, h2, h3⟩ := h
  simp [World.cell?, h1, h3 i hi]
theorem BRow.frozen {w : World} {b : Nat} {l : List Nat} (h : BRow w b l) (i : Nat) (hi : i < l.length) : w.frozen? ⟨b, i, none⟩ = false := by
  obtain ⟨cs, c, h1, h2, h3⟩ := h
  simp only [World.frozen?, h1]
  simp
  omega
theorem BRow.lt {w : World} {b : Nat} {l : List Nat} (h : BRow w b l) : b < w.heap.size := by
  obtain ⟨cs, c, h1, h2, h3⟩ := h
  rcases Nat.lt_or_ge b w.heap.size with h' | h'
  · exact h'
  · simp [Array.getElem?_eq_none h'] at h1
theorem BRow.set {w : World} {b : Nat} {l : List Nat} (h : BRow w b l) (i d : Nat) : BRow (w.setCell ⟨b, i, none⟩ (dig d)) b (l.set i d) := by
  obtain ⟨cs, c, h1, h2, h3⟩ := h
  have hb : b < w.heap.size := BRow.lt ⟨cs, c, h1, h2, h3⟩
  refine ⟨cs.setIfInBounds i (dig d), c, ?_, by simpa using h2, ?_⟩
  · have h1' := h1
    rw [Array.getElem?_eq_getElem hb, Option.some.injEq] at h1'
    show (w.heap.modify b _)[b]? = _
    rw [Array.getElem?_modify, if_pos rfl, h1]
    rfl
  · intro j hj
    have hj' : j < l.length := by simpa using hj
    have hcs : j < cs.size := by
      have := h3 j hj'
      rcases Nat.lt_or_ge j cs.size with h' | h'
      · exact h'
      · simp [Array.getElem?_eq_none h'] at this
    rw [Array.getElem?_setIfInBounds, List.getElem_set]
    by_cases hij : i = j
    · subst hij; simp [hcs]
    · rw [if_neg hij, if_neg hij]; exact h3 j hj'

/-- '[]byte(s)', as the walk meets it. -/
theorem conv_bytes (w : World) (s : ByteArray) : (convert 9 71 (.string s)).run Tryd.prog w = .ok (.slice (some ⟨w.heap.size, 0, none⟩) s.size (grownCap w s.size 0 5)) (Lib.bytesWorld w 5 s) :=
  Lib.run_convert_string_bytes w 9 71 5 s Tryd.underlying9 Tryd.underlying71 Tryd.underlying5
theorem brow_made (w : World) (s : ByteArray) (l : List Nat) (hl : s.data.toList = l.map fun d => UInt8.ofNat (48 + d)) (hd : ∀ d ∈ l, d < 10) : BRow (Lib.bytesWorld w 5 s) w.heap.size l := by
  have hsz : s.data.size = l.length := by rw [← Array.length_toList, hl]; simp
  refine ⟨_, _, Lib.bytesWorld_at_new w 5 s, ?_, ?_⟩
  · simp [Lib.bytesCells, hsz]
  · intro i hi
    have h1 : s.data[i]? = some (UInt8.ofNat (48 + l[i])) := by
      rw [← Array.getElem?_toList, hl]; simp [hi]
    have hi' : i < s.data.size := by omega
    have hdi := hd _ (List.getElem_mem hi)
    have h2 : s.data[i] = UInt8.ofNat (48 + l[i]) := by
      rw [Array.getElem?_eq_getElem hi', Option.some.injEq] at h1; exact h1
    simp only [Lib.bytesCells, dig]
    rw [Array.getElem?_append_left (by simpa using hi'), Array.getElem?_map, h1]
    simp only [Option.map_some, Option.some.injEq, Value.int.injEq, true_and]
    have : (UInt8.ofNat (48 + l[i])).toNat = 48 + l[i] := by
      rw [UInt8.toNat_ofNat']; omega
    omega
/-- 'string(d)' of such a row. -/
theorem conv_back (w : World) (b cap : Nat) (l : List Nat) (h : BRow w b l) (hd : ∀ d ∈ l, d < 10) :
    (convert 71 9 (.slice (some ⟨b, 0, none⟩) l.length cap)).run Tryd.prog w = .ok (.string ⟨(l.map fun d => UInt8.ofNat (48 + d)).toArray⟩) w := by
  have hx := run_convert_bytes_back (P := Tryd.prog) w 71 9 5 ⟨b, 0, none⟩ cap (l.map fun d => UInt8.ofNat (48 + d)) Tryd.underlying71 Tryd.underlying5 Tryd.underlying9 (fun j hj => by
    have hj' : j < l.length := by simpa using hj
    have hdj := hd _ (List.getElem_mem hj')
    have h1 := h.cell j hj'
    have ha : (Addr.add ⟨b, 0, none⟩ j) = ⟨b, j, none⟩ := by
      simp only [Addr.add, Nat.zero_add]; split <;> simp_all
    rw [ha, h1]
    simp only [dig, List.getElem_map, Option.some.injEq, Value.int.injEq, true_and]
    have : (UInt8.ofNat (48 + l[j])).toNat = 48 + l[j] := by
      rw [UInt8.toNat_ofNat']; omega
    omega)
  rw [List.length_map] at hx
  exact hx
end Go.Proofs.YtfmfikodnpnblaaDoor.ClkRow

/- A slice of doubles that came in, opened. -/
import Derived.Test.YtfmfikodnpnblaaDoorRankF
import Derived.Deep.Slices
set_option linter.unusedVariables false
namespace Go.Proofs.YtfmfikodnpnblaaDoor.OpenF
open Go.RowKit Go.Proofs Go.Deep Go.Proofs.YtfmfikodnpnblaaDoorW.PrintWords
theorem float_cell {H : Type} {enc : TypeId × Value → H} {W : World} {base : Nat} {sp : Nat → Bool} {hd : Bool} {n : Nat} {v : Value} {x : DataW H × List MemPlace} (h : DataW.trod enc Tryd.prog W base sp hd n 27 [v] = some x) : ∃ b, v = .float .f64 b := by
  cases n with
  | zero => simp [DataW.trod] at h
  | succ n =>
    simp only [DataW.trod, Tryd.underlying27] at h
    cases v <;> simp_all
theorem open_F {H : Type} {enc : TypeId × Value → H} {W : World} {base : Nat} {sp : Nat → Bool} {hd : Bool} {b : Option Addr} {len cap : Nat} {d : DataW H} {ps : List MemPlace} (h : DataW.Trod enc Tryd.prog W base sp hd 22 (.slice b len cap) d ps) :
    ∃ l : List Nat, len = l.length ∧ l.length ≤ cap ∧ Kd.C Kd.float W b l.length l := by
  obtain ⟨fuel, hf⟩ := h
  rcases open_slice1 Tryd.underlying22 (by kernel_rfl) hf with ⟨hcs, _⟩ | ⟨a, l, c, m, n, V, D, Pl, hcs, _, hl, hm, hmm, _, hx⟩
  · simp [Value.cells] at hcs
    obtain ⟨rfl, rfl, rfl⟩ := hcs
    exact ⟨[], rfl, by simp, Kd.C_of_reads (d := (0 : Nat)) (h1 := fun _ => rfl) ⟨rfl, by simp, fun h => by simp at h⟩⟩
  · simp [Value.cells] at hcs
    obtain ⟨rfl, rfl, rfl⟩ := hcs
    have hlm : len ≤ m := by subst hmm; split <;> omega
    have hb : ∀ i, i < len → ∃ x : Nat, W.cell? (a.add i) = some (.float .f64 x) := fun i hi => by
      obtain ⟨h1, h2⟩ := hx i (by omega)
      obtain ⟨x, e⟩ := float_cell h2
      exact ⟨x, by rw [h1, e]⟩
    obtain ⟨F, hF⟩ := choose_lt (α := Nat) hb
    have hmx : maxLen ≤ 9223372036854775807 := by decide
    refine ⟨(List.range len).map F, by simp, by simpa using hl, Kd.C_of_reads (d := (0 : Nat)) (h1 := fun _ => rfl) ⟨rfl, by simp; omega, fun _ => ⟨a, rfl, fun j hj => ?_⟩⟩⟩
    have hj' : j < len := by simpa using hj
    rw [hF j hj']
    simp [List.getD_eq_getElem?_getD, hj']
end Go.Proofs.YtfmfikodnpnblaaDoor.OpenF

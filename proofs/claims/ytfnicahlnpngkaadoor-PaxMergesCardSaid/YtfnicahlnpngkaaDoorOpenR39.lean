/- An argument that is a record (struct type 39, two texts), by value, opened. -/
import Derived.Deep.Fields
import Derived.ChangeArms
import Derived.ChangeSame
import Derived.KernelRfl
import Derived.RowKit
import Derived.ShutString
import Derived.Test.YtfnicahlnpngkaaDoorRows
set_option linter.unusedVariables false
namespace Go.Proofs.YtfnicahlnpngkaaDoor.OpenR39
open Go Go.ChangeShapes Go.WideShapes Go.Deep Go.RowKit
section
variable {H : Type} {enc : TypeId × Value → H} {w : World} {base : Nat} {spare : Nat → Bool} {held : Bool}
theorem one {n : Nat} {c : Value} {y : DataW H × List MemPlace} (h : DataW.trod enc Tryd.prog w base spare held n 9 [c] = some y) : ∃ s, c = .string s := by
  obtain ⟨s, h1, _, _⟩ := DataW.trod_string Tryd.underlying9 h
  exact ⟨s, by simpa using h1⟩
set_option maxRecDepth 100000 in
theorem opened {r : Reach} {b0 : Nat} {v : Value} {d : DataW H} {p : List MemPlace} (hv : Value.okWide Tryd.prog w r b0 39 v) (h : DataW.Trod enc Tryd.prog w base spare held 39 v d p) :
    ∃ a0 a1 : ByteArray, v = .agg #[.string a0, .string a1] := by
  obtain ⟨cs, rfl, hsz⟩ := okWide_struct Tryd.underlying39 hv
  have hC : Tryd.prog.cellsOf 39 = 2 := by kernel_rfl
  have hI : Tryd.prog.cellsOf 9 = 1 := by kernel_rfl
  obtain ⟨l⟩ := cs
  match l, hsz.trans hC with
  | [c0, c1], _ =>
    obtain ⟨fuel, hf⟩ := h
    obtain ⟨xs, n, _, _, _, hlen, hg⟩ := DataW.trod_struct Tryd.underlying39 hf
    match xs, hlen with
    | [y0, y1], _ =>
      have g0 := hg 0 _ rfl
      (try dsimp only at g0)
      (try rw [hI] at g0)
      obtain ⟨n0, rfl⟩ := one (show DataW.trod enc Tryd.prog w base spare held n 9 [c0] = some y0 from g0)
      have g1 := hg 1 _ rfl
      (try dsimp only at g1)
      (try rw [hI] at g1)
      obtain ⟨n1, rfl⟩ := one (show DataW.trod enc Tryd.prog w base spare held n 9 [c1] = some y1 from g1)
      exact ⟨n0, n1, rfl⟩
end
end Go.Proofs.YtfnicahlnpngkaaDoor.OpenR39

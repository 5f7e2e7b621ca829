/- An argument that is a struct of six whole numbers, by value (struct type 23, fields of type 3), opened. -/
import Derived.Deep.Fields
import Derived.ChangeArms
import Derived.ChangeSame
import Derived.KernelRfl
import Derived.RowKit
import Derived.Test.YtfmfikodnpnblaaGreatDoorRows
set_option linter.unusedVariables false
namespace Go.Proofs.YtfmfikodnpnblaaGreatDoor.OpenS59
open Go Go.ChangeShapes Go.WideShapes Go.Deep Go.RowKit
section
variable {H : Type} {enc : TypeId × Value → H} {w : World} {base : Nat} {spare : Nat → Bool} {held : Bool}
theorem one {n : Nat} {c : Value} {x : Option (DataW H × List MemPlace)} {y : DataW H × List MemPlace} (hx : x = some y) (h : DataW.trod enc Tryz.prog w base spare held n 3 [c] = x) : ∃ m, c = .int .i64 m := by
  rw [hx] at h
  obtain ⟨m, h1, _, _⟩ := DataW.trod_int Tryz.underlying3 h
  exact ⟨m, by simpa using h1⟩
set_option maxRecDepth 100000 in
theorem opened {r : Reach} {b0 : Nat} {v : Value} {d : DataW H} {p : List MemPlace} (hv : Value.okWide Tryz.prog w r b0 23 v) (h : DataW.Trod enc Tryz.prog w base spare held 23 v d p) :
    ∃ a0 a1 a2 a3 a4 a5 : Int, v = .agg #[.int .i64 a0, .int .i64 a1, .int .i64 a2, .int .i64 a3, .int .i64 a4, .int .i64 a5] := by
  obtain ⟨cs, rfl, hsz⟩ := okWide_struct Tryz.underlying23 hv
  have hC : Tryz.prog.cellsOf 23 = 6 := by kernel_rfl
  have hI : Tryz.prog.cellsOf 3 = 1 := by kernel_rfl
  obtain ⟨l⟩ := cs
  match l, hsz.trans hC with
  | [c0, c1, c2, c3, c4, c5], _ =>
    obtain ⟨fuel, hf⟩ := h
    obtain ⟨xs, n, _, _, _, hlen, hg⟩ := DataW.trod_struct Tryz.underlying23 hf
    match xs, hlen with
    | [y0, y1, y2, y3, y4, y5], _ =>
      have g0 := hg 0 _ rfl
      (try dsimp only at g0)
      (try rw [hI] at g0)
      obtain ⟨n0, rfl⟩ := one rfl (show DataW.trod enc Tryz.prog w base spare held n 3 [c0] = some y0 from g0)
      have g1 := hg 1 _ rfl
      (try dsimp only at g1)
      (try rw [hI] at g1)
      obtain ⟨n1, rfl⟩ := one rfl (show DataW.trod enc Tryz.prog w base spare held n 3 [c1] = some y1 from g1)
      have g2 := hg 2 _ rfl
      (try dsimp only at g2)
      (try rw [hI] at g2)
      obtain ⟨n2, rfl⟩ := one rfl (show DataW.trod enc Tryz.prog w base spare held n 3 [c2] = some y2 from g2)
      have g3 := hg 3 _ rfl
      (try dsimp only at g3)
      (try rw [hI] at g3)
      obtain ⟨n3, rfl⟩ := one rfl (show DataW.trod enc Tryz.prog w base spare held n 3 [c3] = some y3 from g3)
      have g4 := hg 4 _ rfl
      (try dsimp only at g4)
      (try rw [hI] at g4)
      obtain ⟨n4, rfl⟩ := one rfl (show DataW.trod enc Tryz.prog w base spare held n 3 [c4] = some y4 from g4)
      have g5 := hg 5 _ rfl
      (try dsimp only at g5)
      (try rw [hI] at g5)
      obtain ⟨n5, rfl⟩ := one rfl (show DataW.trod enc Tryz.prog w base spare held n 3 [c5] = some y5 from g5)
      exact ⟨n0, n1, n2, n3, n4, n5, rfl⟩
end
end Go.Proofs.YtfmfikodnpnblaaGreatDoor.OpenS59

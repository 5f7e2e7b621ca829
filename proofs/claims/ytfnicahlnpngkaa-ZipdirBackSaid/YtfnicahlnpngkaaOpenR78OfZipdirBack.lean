/- An argument that is a zip member (struct type 78: numbers, texts, fields), by value, opened. ZipdirBack: the printed namespace. -/
import Derived.Deep.Fields
import Derived.ChangeArms
import Derived.ChangeSame
import Derived.KernelRfl
import Derived.RowKit
import Derived.ShutString
import Derived.Test.YtfnicahlnpngkaaRows
import Derived.Test.YtfnicahlnpngkaaOpenS38OfZipdirBack
set_option linter.unusedVariables false
namespace Go.Proofs.Ytfnicahlnpngkaa.OpenR78OfZipdirBack
open Go Go.ChangeShapes Go.WideShapes Go.Deep Go.RowKit Go.Proofs.YtfnicahlnpngkaaW.PrintWords Go.Proofs.Ytfnicahlnpngkaa.PZipdirBack
section
variable {H : Type} {enc : TypeId × Value → H} {w : World} {base : Nat} {spare : Nat → Bool} {held : Bool}
theorem oneS {n : Nat} {c : Value} {y : DataW H × List MemPlace} (h : DataW.trod enc Try.prog w base spare held n 9 [c] = some y) : ∃ s, c = .string s := by
  obtain ⟨s, h1, _, _⟩ := DataW.trod_string Try.underlying9 h
  exact ⟨s, by simpa using h1⟩
theorem oneI {n : Nat} {c : Value} {y : DataW H × List MemPlace} (h : DataW.trod enc Try.prog w base spare held n 3 [c] = some y) : ∃ m, c = .int .i64 m := by
  obtain ⟨m, h1, _, _⟩ := DataW.trod_int Try.underlying3 h
  exact ⟨m, by simpa using h1⟩
theorem oneU {n : Nat} {c : Value} {y : DataW H × List MemPlace} (h : DataW.trod enc Try.prog w base spare held n 76 [c] = some y) : ∃ m, c = .int .u32 m ∧ (Lit.int .u32 m).wf = true := by
  obtain ⟨m, h1, _, h2⟩ := DataW.trod_int Try.underlying76 h
  exact ⟨m, by simpa using h1, h2⟩
theorem oneF {n : Nat} {c : Value} {y : DataW H × List MemPlace} (h : DataW.trod enc Try.prog w base spare held n 33 [c] = some y) : ∃ (A : Option Addr) (cp : Nat) (xs : List S38), c = .slice A xs.length cp ∧ xs.length ≤ cp ∧ xs.length ≤ maxLen ∧ Kd.C k38 w A xs.length xs := by
  have hc : ∃ A len cp, c = .slice A len cp := by
    rcases OpenS38OfZipdirBack.open_slice_fields Try.underlying33 Try.underlying38 (by kernel_rfl) (by kernel_rfl) h with ⟨hcs, _⟩ | ⟨x, l, cp, m, D, Pl, hcs, _⟩
    · exact ⟨none, 0, 0, by simpa using hcs⟩
    · exact ⟨some x, l, cp, by simpa using hcs⟩
  obtain ⟨A, len, cp, rfl⟩ := hc
  obtain ⟨d, p⟩ := y
  obtain ⟨xs, rfl, h2, h3, h4, _⟩ := OpenS38OfZipdirBack.open_S38 (a := A) (cap := cp) (d := d) (p := p) ⟨n, h⟩
  exact ⟨A, cp, xs, rfl, h2, h3, h4⟩
set_option maxRecDepth 100000 in
theorem opened {r : Reach} {b0 : Nat} {v : Value} {d : DataW H} {p : List MemPlace} (hv : Value.okWide Try.prog w r b0 78 v) (h : DataW.Trod enc Try.prog w base spare held 78 v d p) :
    ∃ (a0 a1 a2 a3 a4 a5 a6 a7 : Int) (a8 : ByteArray) (A9 : Option Addr) (c9 : Nat) (xs : List S38) (a10 : ByteArray) (a11 a12 : Int), v = .agg #[.int .i64 a0, .int .i64 a1, .int .i64 a2, .int .i64 a3, .int .i64 a4, .int .u32 a5, .int .i64 a6, .int .i64 a7, .string a8, .slice A9 xs.length c9, .string a10, .int .u32 a11, .int .i64 a12] ∧ xs.length ≤ c9 ∧ xs.length ≤ maxLen ∧ Kd.C k38 w A9 xs.length xs ∧ (Lit.int .u32 a5).wf = true ∧ (Lit.int .u32 a11).wf = true := by
  obtain ⟨cs, rfl, hsz⟩ := okWide_struct Try.underlying78 hv
  have hC : Try.prog.cellsOf 78 = 13 := by kernel_rfl
  have hI3 : Try.prog.cellsOf 3 = 1 := by kernel_rfl
  have hI76 : Try.prog.cellsOf 76 = 1 := by kernel_rfl
  have hI9 : Try.prog.cellsOf 9 = 1 := by kernel_rfl
  have hI33 : Try.prog.cellsOf 33 = 1 := by kernel_rfl
  obtain ⟨l⟩ := cs
  match l, hsz.trans hC with
  | [c0, c1, c2, c3, c4, c5, c6, c7, c8, c9, c10, c11, c12], _ =>
    obtain ⟨fuel, hf⟩ := h
    obtain ⟨xs, n, _, _, _, hlen, hg⟩ := DataW.trod_struct Try.underlying78 hf
    match xs, hlen with
    | [y0, y1, y2, y3, y4, y5, y6, y7, y8, y9, y10, y11, y12], _ =>
      have g0 := hg 0 _ rfl
      (try dsimp only at g0)
      (try rw [hI3] at g0)
      obtain ⟨n0, rfl⟩ := oneI (show DataW.trod enc Try.prog w base spare held n 3 [c0] = some y0 from g0)
      have g1 := hg 1 _ rfl
      (try dsimp only at g1)
      (try rw [hI3] at g1)
      obtain ⟨n1, rfl⟩ := oneI (show DataW.trod enc Try.prog w base spare held n 3 [c1] = some y1 from g1)
      have g2 := hg 2 _ rfl
      (try dsimp only at g2)
      (try rw [hI3] at g2)
      obtain ⟨n2, rfl⟩ := oneI (show DataW.trod enc Try.prog w base spare held n 3 [c2] = some y2 from g2)
      have g3 := hg 3 _ rfl
      (try dsimp only at g3)
      (try rw [hI3] at g3)
      obtain ⟨n3, rfl⟩ := oneI (show DataW.trod enc Try.prog w base spare held n 3 [c3] = some y3 from g3)
      have g4 := hg 4 _ rfl
      (try dsimp only at g4)
      (try rw [hI3] at g4)
      obtain ⟨n4, rfl⟩ := oneI (show DataW.trod enc Try.prog w base spare held n 3 [c4] = some y4 from g4)
      have g5 := hg 5 _ rfl
      (try dsimp only at g5)
      (try rw [hI76] at g5)
      obtain ⟨n5, rfl, w5⟩ := oneU (show DataW.trod enc Try.prog w base spare held n 76 [c5] = some y5 from g5)
      have g6 := hg 6 _ rfl
      (try dsimp only at g6)
      (try rw [hI3] at g6)
      obtain ⟨n6, rfl⟩ := oneI (show DataW.trod enc Try.prog w base spare held n 3 [c6] = some y6 from g6)
      have g7 := hg 7 _ rfl
      (try dsimp only at g7)
      (try rw [hI3] at g7)
      obtain ⟨n7, rfl⟩ := oneI (show DataW.trod enc Try.prog w base spare held n 3 [c7] = some y7 from g7)
      have g8 := hg 8 _ rfl
      (try dsimp only at g8)
      (try rw [hI9] at g8)
      obtain ⟨n8, rfl⟩ := oneS (show DataW.trod enc Try.prog w base spare held n 9 [c8] = some y8 from g8)
      have g9 := hg 9 _ rfl
      (try dsimp only at g9)
      (try rw [hI33] at g9)
      obtain ⟨A9, cp9, xs9, rfl, q1, q2, q3⟩ := oneF (show DataW.trod enc Try.prog w base spare held n 33 [c9] = some y9 from g9)
      have g10 := hg 10 _ rfl
      (try dsimp only at g10)
      (try rw [hI9] at g10)
      obtain ⟨n10, rfl⟩ := oneS (show DataW.trod enc Try.prog w base spare held n 9 [c10] = some y10 from g10)
      have g11 := hg 11 _ rfl
      (try dsimp only at g11)
      (try rw [hI76] at g11)
      obtain ⟨n11, rfl, w11⟩ := oneU (show DataW.trod enc Try.prog w base spare held n 76 [c11] = some y11 from g11)
      have g12 := hg 12 _ rfl
      (try dsimp only at g12)
      (try rw [hI3] at g12)
      obtain ⟨n12, rfl⟩ := oneI (show DataW.trod enc Try.prog w base spare held n 3 [c12] = some y12 from g12)
      exact ⟨n0, n1, n2, n3, n4, n5, n6, n7, n8, A9, cp9, xs9, n10, n11, n12, rfl, q1, q2, q3, w5, w11⟩
end
end Go.Proofs.Ytfnicahlnpngkaa.OpenR78OfZipdirBack

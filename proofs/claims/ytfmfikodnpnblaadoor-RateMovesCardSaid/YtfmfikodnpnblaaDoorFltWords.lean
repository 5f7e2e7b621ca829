/- What the print's words lack for doubles: a kind of cell, the operations' runs. -/
import Derived.Test.YtfmfikodnpnblaaDoorWWords
import Derived.Test.YtfmfikodnpnblaaDoorWMore
import Derived.Test.YtfmfikodnpnblaaDoorWFoot
import Derived.Laws.FloatArith
import Derived.WalkLawsBesides
set_option linter.unusedVariables false
namespace Go.Proofs.YtfmfikodnpnblaaDoorW.PrintWords
open Go.RowKit
namespace Kd
def float : Kd Nat := scalar (Value.float .f64) (fun _ => rfl)
theorem heap_float : Heap Kd.float := ⟨fun _ h => h⟩
theorem at_float {w : World} {A : Option Addr} {n : Nat} {xs : List Nat} (h : Kd.float.C w A n xs) (i : Int) (h0 : 0 ≤ i) (h1 : i < n) : ∃ ad, A = some ad ∧ w.cell? (ad.add i.toNat) = some (.float .f64 (rdOf 0 xs i)) :=
  ReadsOf.at_ (reads_of_C (enc := Value.float .f64) (d := 0) (h1 := fun _ => rfl) h) i h0 h1
end Kd
/-- an operation that is valid; its bits. -/
def fvalid (op : BinOp) (x y : Nat) : Bool := (floatBits op .f64 x y).isSome
def fop (op : BinOp) (x y : Nat) : Nat := (floatBits op .f64 x y).getD 0
theorem fop_some {op : BinOp} {x y : Nat} (h : fvalid op x y = true) : floatBits op .f64 x y = some (fop op x y) := by
  unfold fvalid at h
  unfold fop
  cases e : floatBits op .f64 x y with
  | none => rw [e] at h; cases h
  | some r => rfl
theorem fop_run {P : Program} (op : BinOp) (t : TypeId) (x y : Nat) (h : fvalid op x y = true) (w : World) : (binOp op t (.float .f64 x) (.float .f64 y)).run P w = .ok (.float .f64 (fop op x y)) w :=
  run_float_arith w op t .f64 x y _ (fop_some h)
theorem fop_of {op : BinOp} {x y r : Nat} (h : floatBits op .f64 x y = some r) : fvalid op x y = true ∧ fop op x y = r := by
  unfold fvalid fop
  rw [h]
  exact ⟨rfl, rfl⟩
/-- int(x), where it is told. -/
def fintOk (x : Nat) : Bool := (floatToIntVal .f64 x .i64).isSome
def fint (x : Nat) : Int := (floatToIntVal .f64 x .i64).getD 0
theorem fint_some {x : Nat} (h : fintOk x = true) : floatToIntVal .f64 x .i64 = some (fint x) := by
  unfold fintOk at h
  unfold fint
  cases e : floatToIntVal .f64 x .i64 with
  | none => rw [e] at h; cases h
  | some r => rfl
theorem fint_run {P : Program} (src dst : TypeId) (x : Nat) (hs : (P.underlying src).isSome = true) (hd : P.underlying dst = some (.int .i64)) (h : fintOk x = true) (w : World) : (convert src dst (.float .f64 x)).run P w = .ok (.int .i64 (fint x)) w :=
  run_convert_float_int w src dst .f64 .i64 x _ hs hd (fint_some h)
theorem fint_of {x : Nat} {n : Int} (h : floatToIntVal .f64 x .i64 = some n) : fintOk x = true ∧ fint x = n := by
  unfold fintOk fint
  rw [h]
  exact ⟨rfl, rfl⟩
theorem fofint_run {P : Program} (src dst : TypeId) (n : Int) (hs : (P.underlying src).isSome = true) (hd : P.underlying dst = some (.float .f64)) (w : World) : (convert src dst (.int .i64 n)).run P w = .ok (.float .f64 (floatOfInt .f64 n)) w :=
  run_convert_int_float w src dst .i64 .f64 n hs hd
end Go.Proofs.YtfmfikodnpnblaaDoorW.PrintWords

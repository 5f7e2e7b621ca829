/- Contracts of the document's Number and Bytes, and of num.PutLittle and num.PutBig, in closed form. -/
import Derived.Test.YtfnicahlnpngkaaFixedRefOfNum1
set_option linter.unusedVariables false
set_option linter.unusedSimpArgs false
namespace Go.Proofs.Ytfnicahlnpngkaa.Num1
open Go.RowKit Go.Proofs.YtfnicahlnpngkaaW.PrintWords Go.Proofs.YtfnicahlnpngkaaW.PrintLast Go.Proofs.YtfnicahlnpngkaaW.PrintMore Go.Proofs.Ytfnicahlnpngkaa.Base Go.Proofs.Ytfnicahlnpngkaa.NumRead Go.Proofs.Ytfnicahlnpngkaa.NumAcc Go.Proofs.Ytfnicahlnpngkaa.FixedOfNum1

/-- the lowest n bytes of v, the lowest first; the highest first. -/
def leB (v n : Int) : List Int := if n < 1 ∨ 8 < n then [] else bs (byteAt v) 0 n.toNat
def beB (v n : Int) : List Int := if n < 1 ∨ 8 < n then [] else bs (fun j => byteAt v (n - 1 - j)) 0 n.toNat
theorem leB_length (v n : Int) : (leB v n).length = if n < 1 ∨ 8 < n then 0 else n.toNat := by unfold leB; split; rfl; exact bs_length _ _ _
theorem beB_length (v n : Int) : (beB v n).length = if n < 1 ∨ 8 < n then 0 else n.toNat := by unfold beB; split; rfl; exact bs_length _ _ _

def stevedoreref1_Number.f (l0 : List Int) (a1 : Int) (a2 : Int) (a3 : Bool) : Option (Int × Int) :=
  if l0.length ≤ 140737488000000 ∧ -9223372036854775808 ≤ a1 ∧ a1 < 9223372036854775808 then some (rdNum l0 a1 a2 (fun j => if a3 = true then j else a2 - 1 - j)) else none
def stevedoreref1_Bytes.f (a0 : Int) (a1 : Int) (a2 : Bool) : Option ByteArray := some (strOfNums (if a2 = true then beB a0 a1 else leB a0 a1))
def num_PutLittle.f (l0 : List Int) (a1 : Int) (a2 : Int) : Option (List Int) := if l0.length ≤ 140737488000000 then some (l0 ++ leB a1 a2) else none
def num_PutBig.f (l0 : List Int) (a1 : Int) (a2 : Int) : Option (List Int) := if l0.length ≤ 140737488000000 ∧ -9223372036854775808 ≤ a2 then some (l0 ++ beB a1 a2) else none

theorem stevedoreref1_Number.calls (A0 : Option Addr) (c0 : Nat) (l0 : List Int) (a1 : Int) (a2 : Int) (a3 : Bool) (r1 : Int) (r2 : Int) (w : World) (hr0 : Kd.C (Kd.int .u8) w A0 l0.length l0) (hc0 : l0.length ≤ c0) (h : stevedoreref1_Number.f l0 a1 a2 a3 = some (r1, r2)) :
    Calls Try.prog 36 #[.slice A0 l0.length c0, .int .i64 a1, .int .i64 a2, .bool a3] w fun e w' => e = .returned (.tuple #[.int .u64 r1, .int .i64 r2]) ∧ Drawn0 w w' := by
  unfold stevedoreref1_Number.f at h
  split at h
  · rename_i hh
    injection h with h
    exact PNum1.stevedoreref1_Number.calls 100 A0 c0 l0 a1 a2 a3 r1 r2 w hr0 hc0 (by rw [number_eq l0 a1 a2 a3 (by omega) hh.2 100 (by omega), h])
  · cases h
theorem stevedoreref1_Bytes.calls (a0 : Int) (a1 : Int) (a2 : Bool) (r : ByteArray) (w : World) (h : stevedoreref1_Bytes.f a0 a1 a2 = some r) :
    Calls Try.prog 39 #[.int .u64 a0, .int .i64 a1, .bool a2] w fun e w' => e = .returned (.string r) ∧ Below w.heap.size w w' := by
  unfold stevedoreref1_Bytes.f at h
  injection h with h
  refine PNum1.stevedoreref1_Bytes.calls 100 a0 a1 a2 r w ?_
  rw [bytes_eq a0 a1 a2 100 (by omega), ← h]
  cases a2 with
  | true => rfl
  | false => rfl
theorem num_PutLittle.calls (A0 : Option Addr) (c0 : Nat) (l0 : List Int) (a1 : Int) (a2 : Int) (r : List Int) (w : World) (hr0 : Kd.C (Kd.int .u8) w A0 l0.length l0) (hc0 : l0.length ≤ c0) (h : num_PutLittle.f l0 a1 a2 = some r) :
    Calls Try.prog 38 #[.slice A0 l0.length c0, .int .u64 a1, .int .i64 a2] w fun e w' => ∃ v0_ : Value, e = .returned (v0_) ∧ Kd.R (Kd.int .u8) 5 w' w.heap.size (fun _ => True) v0_ r ∧ Below w.heap.size w w' := by
  unfold num_PutLittle.f at h
  split at h
  · rename_i hh
    injection h with h
    exact PNum1.num_PutLittle.calls 100 A0 c0 l0 a1 a2 r w hr0 hc0 (by rw [putLittle_eq l0 a1 a2 hh 100 (by omega), ← h]; rfl)
  · cases h
theorem num_PutBig.calls (A0 : Option Addr) (c0 : Nat) (l0 : List Int) (a1 : Int) (a2 : Int) (r : List Int) (w : World) (hr0 : Kd.C (Kd.int .u8) w A0 l0.length l0) (hc0 : l0.length ≤ c0) (h : num_PutBig.f l0 a1 a2 = some r) :
    Calls Try.prog 40 #[.slice A0 l0.length c0, .int .u64 a1, .int .i64 a2] w fun e w' => ∃ v0_ : Value, e = .returned (v0_) ∧ Kd.R (Kd.int .u8) 5 w' w.heap.size (fun _ => True) v0_ r ∧ Below w.heap.size w w' := by
  unfold num_PutBig.f at h
  split at h
  · rename_i hh
    injection h with h
    exact PNum1.num_PutBig.calls 100 A0 c0 l0 a1 a2 r w hr0 hc0 (by rw [putBig_eq l0 a1 a2 hh.1 hh.2 100 (by omega), ← h]; rfl)
  · cases h
end Go.Proofs.Ytfnicahlnpngkaa.Num1

/- Go's library at this seat's numbers, in the print's own form: strings.Cut, CutPrefix, TrimLeft, TrimRight, Trim at one byte; strconv.Itoa, Atoi; math.Floor, math.NaN. -/
import Derived.Test.YtfmfikodnpnblaaDoorShelf
import Derived.Test.YtfmfikodnpnblaaDoorWWords
import Derived.Lib.IndexLaws
import Derived.Lib.ItoaNum
import Derived.Lib.ItoaLen
import Derived.FnData
import Derived.Test.YtfmfikodnpnblaaDoorBase
import Derived.Test.YtfmfikodnpnblaaDoorFlt
import Derived.BigQuiet
import Derived.Deep.DeepCutAuto
import Derived.WalkLawsBesides
set_option linter.unusedVariables false
namespace Go.Proofs.YtfmfikodnpnblaaDoor.ClkLib
open Go.RowKit Go.Proofs Go.Proofs.YtfmfikodnpnblaaDoorW.PrintWords Go.Proofs.YtfmfikodnpnblaaDoor.Base Go.Proofs.YtfmfikodnpnblaaDoor.Flt

/-- what a table of strconv's reads as. -/
def Vars (w : World) : Prop := Lib.TabIs Tryd.prog w "internal/strconv.uint64pow10" .u64 Lib.pow10Tab
theorem var_lt {P : Program} {w : World} {n : String} {cs : Array Value} (h : w.var? P n = some cs) : ∃ g, P.globalNamed n = some g ∧ g < w.heap.size := by
  unfold World.var? at h
  cases hg : P.globalNamed n with
  | none => simp [hg] at h
  | some g =>
    refine ⟨g, rfl, ?_⟩
    rcases Nat.lt_or_ge g w.heap.size with h' | h'
    · exact h'
    · simp [hg, Array.getElem?_eq_none h'] at h
theorem Vars.below {w w' : World} (h : Vars w) (hb : Below w.heap.size w w') : Vars w' := by
  obtain ⟨g, hg, hlt⟩ := var_lt h
  have hk := hb.block g hlt
  unfold Vars Lib.TabIs World.var? at h ⊢
  rw [hg] at h ⊢
  simp only [Option.bind_some] at h ⊢
  rw [hk]
  exact h
theorem below_grow (w : World) (k : Nat) (os : Array Obj) : Below w.heap.size w (Go.Sort.grow (w.drewN k) os) := by
  refine ⟨rfl, rfl, rfl, by simp [Go.Sort.grow], fun i hi => ?_⟩
  show (w.heap ++ os)[i]? = _
  rw [Array.getElem?_append_left hi]

def strOf (l : List UInt8) : ByteArray := ⟨l.toArray⟩
def strconv_Itoa.f (n : Int) : Option ByteArray := if -9223372036854775808 ≤ n ∧ n ≤ 9223372036854775807 then some (strOf (Lib.itoa n)) else none
theorem strconv_Itoa.calls (n : Int) (r : ByteArray) (w : World) (h : strconv_Itoa.f n = some r) (hv : Vars w) :
    Calls Tryd.prog 71 #[.int .i64 n] w fun e w' => e = .returned (.string r) ∧ Below w.heap.size w w' := by
  unfold strconv_Itoa.f at h
  split at h
  · rename_i hn
    injection h with h
    subst h
    refine (Tryd.strconv_Itoa n hn.1 hn.2 w hv).mono ?_
    rintro e w' ⟨rfl, k, os, rfl⟩
    exact ⟨rfl, below_grow w k os⟩
  · cases h

theorem one_byte {s : ByteArray} {c : UInt8} (h : s.data.toList = [c]) : s = ⟨#[c]⟩ := by apply ByteArray.ext; apply Array.ext'; rw [h]
def strings_TrimLeft.f (a0 a1 : ByteArray) : Option ByteArray := match a1.data.toList with
  | [c] => if c.toNat < 128 then some (strOf (Lib.trimLeftB a0.data.toList c)) else none
  | _ => none
theorem strings_TrimLeft.calls (a0 a1 : ByteArray) (r : ByteArray) (w : World) (h : strings_TrimLeft.f a0 a1 = some r) :
    Calls Tryd.prog 75 #[.string a0, .string a1] w fun e w' => e = .returned (.string r) ∧ Below w.heap.size w w' := by
  unfold strings_TrimLeft.f at h
  split at h
  · rename_i c hc
    split at h
    · rename_i h128
      injection h with h
      subst h
      obtain rfl := one_byte hc
      refine (Tryd.strings_TrimLeft_one a0 c h128 w).mono ?_
      rintro e w' ⟨rfl, rfl⟩
      exact ⟨rfl, Below.refl _ _⟩
    · cases h
  · cases h
def strings_TrimRight.f (a0 a1 : ByteArray) : Option ByteArray := match a1.data.toList with
  | [c] => if c.toNat < 128 ∧ a0.size ≤ 9223372036854775807 then some (strOf (Lib.trimRightB a0.data.toList c)) else none
  | _ => none
theorem strings_TrimRight.calls (a0 a1 : ByteArray) (r : ByteArray) (w : World) (h : strings_TrimRight.f a0 a1 = some r) :
    Calls Tryd.prog 77 #[.string a0, .string a1] w fun e w' => e = .returned (.string r) ∧ Below w.heap.size w w' := by
  unfold strings_TrimRight.f at h
  split at h
  · rename_i c hc
    split at h
    · rename_i hh
      injection h with h
      subst h
      obtain rfl := one_byte hc
      refine (Tryd.strings_TrimRight_one a0 c hh.1 w hh.2).mono ?_
      rintro e w' ⟨rfl, rfl⟩
      exact ⟨rfl, Below.refl _ _⟩
    · cases h
  · cases h
def strings_Trim.f (a0 a1 : ByteArray) : Option ByteArray := match a1.data.toList with
  | [c] => if c.toNat < 128 ∧ a0.size ≤ 9223372036854775807 then some (strOf (Lib.trimB a0.data.toList c)) else none
  | _ => none
theorem strings_Trim.calls (a0 a1 : ByteArray) (r : ByteArray) (w : World) (h : strings_Trim.f a0 a1 = some r) :
    Calls Tryd.prog 96 #[.string a0, .string a1] w fun e w' => e = .returned (.string r) ∧ Below w.heap.size w w' := by
  unfold strings_Trim.f at h
  split at h
  · rename_i c hc
    split at h
    · rename_i hh
      injection h with h
      subst h
      obtain rfl := one_byte hc
      refine (Tryd.strings_Trim_one a0 c hh.1 w hh.2).mono ?_
      rintro e w' ⟨rfl, hw⟩
      rcases hw with rfl | rfl
      · exact ⟨rfl, Below.refl _ _⟩
      · exact ⟨rfl, below_drew (Below.refl _ _)⟩
    · cases h
  · cases h

/-- a text around the first of a byte. -/
def cutAt (s : ByteArray) (c : UInt8) : ByteArray × ByteArray × Bool :=
  if 0 ≤ Lib.indexByte s.data.toList c then (s.extract 0 (Lib.indexByte s.data.toList c).toNat, s.extract ((Lib.indexByte s.data.toList c) + 1).toNat s.size, true) else (s, ⟨#[]⟩, false)
def strings_Cut.f (a0 a1 : ByteArray) : Option (ByteArray × ByteArray × Bool) := match a1.data.toList with
  | [c] => if a0.size ≤ 9223372036854775806 then some (cutAt a0 c) else none
  | _ => none
theorem index_lt (s : ByteArray) (c : UInt8) (h : 0 ≤ Lib.indexByte s.data.toList c) : Lib.indexByte s.data.toList c < s.size := by
  obtain ⟨o, ho⟩ := Int.eq_ofNat_of_zero_le h
  have := (Lib.indexByte_some ho).1
  have hl := (List.getElem?_eq_some_iff.1 this).1
  rw [Array.length_toList] at hl
  rw [ho]
  exact_mod_cast hl
set_option maxHeartbeats 2000000 in
set_option maxRecDepth 100000 in
theorem lite_Cut (s : ByteArray) (c : UInt8) (w : World) (hs : s.size ≤ 9223372036854775806) :
    Calls Tryd.prog 89 #[.string s, .string ⟨#[c]⟩] w fun e w' => e = .returned (.tuple #[.string (cutAt s c).1, .string (cutAt s c).2.1, .bool (cutAt s c).2.2]) ∧ Below w.heap.size w w' := by
  unfold cutAt
  have hlt := index_lt s c
  have HI := Aside0.mk (Tryd.stringslite_Index_one s c)
  have hsz : (ByteArray.mk #[c]).size = 1 := rfl
  generalize Lib.indexByte s.data.toList c = i at hlt HI ⊢
  by_cases h : 0 ≤ i
  · have hi := hlt h
    have g1 : decide (0 ≤ i) = true := decide_eq_true h
    have g2 : (i ≤ (s.size : Int)) = True := eq_true (by omega)
    have g3 : (0 ≤ i + 1) = True := eq_true (by omega)
    have g4 : (i + 1 ≤ (s.size : Int)) = True := eq_true (by omega)
    have g5 := eq_true h
    have g6 : wrap64 (i + 1) = i + 1 := wrap64_id (by omega) (by omega)
    rw [if_pos h]
    clear hlt
    go_enter Tryd.func89, Tryd.ntmps89
    go_wp2_with (go_at_call 110; (with_reducible refine (HI.out _).mono ?_); rintro e w1 ⟨rfl, rfl⟩)
    go_region
    go_wp2
    refine bodyPost_ret (v := .tuple #[.string (s.extract 0 i.toNat), .string (s.extract (i + 1).toNat s.size), .bool true]) (by simp [results, Tryd.results89, go_sem]) rfl ⟨rfl, below_drew (Below.refl _ _)⟩
  · have g1 : decide (0 ≤ i) = false := decide_eq_false h
    rw [if_neg h]
    clear hlt
    go_enter Tryd.func89, Tryd.ntmps89
    go_wp2_with (go_at_call 110; (with_reducible refine (HI.out _).mono ?_); rintro e w1 ⟨rfl, rfl⟩)
    refine bodyPost_ret (v := .tuple #[.string s, .string ⟨#[]⟩, .bool false]) (by simp [results, Tryd.results89, go_sem]) rfl ⟨rfl, Below.refl _ _⟩
set_option maxHeartbeats 2000000 in
set_option maxRecDepth 100000 in
theorem strings_Cut.calls (a0 a1 : ByteArray) (r1 r2 : ByteArray) (r3 : Bool) (w : World) (h : strings_Cut.f a0 a1 = some (r1, r2, r3)) :
    Calls Tryd.prog 64 #[.string a0, .string a1] w fun e w' => e = .returned (.tuple #[.string r1, .string r2, .bool r3]) ∧ Below w.heap.size w w' := by
  unfold strings_Cut.f at h
  split at h
  · rename_i c hc
    split at h
    · rename_i hs
      injection h with h
      obtain rfl := one_byte hc
      have HL := Aside0.mk (lite_Cut a0 c w hs)
      rw [h] at HL
      clear h hc
      go_enter Tryd.func64, Tryd.ntmps64
      go_wp2_with (go_at_call 89; (with_reducible refine (HL.out).mono ?_); rintro e w1 ⟨rfl, hb⟩)
      refine bodyPost_ret (v := .tuple #[.string r1, .string r2, .bool r3]) (by simp [results, Tryd.results64, go_sem]) rfl ⟨rfl, hb⟩
    · cases h
  · cases h

/-! ### math -/
theorem run_nan (w : World) : (Extern.MathFloatBits.float64frombits #[.int .u64 9221120237041090561]).run Tryd.prog w = .ok (.float .f64 9221120237041090561) w := rfl
def math_NaN.f : Option Nat := some 9221120237041090561
set_option maxRecDepth 100000 in
theorem math_NaN.calls (r : Nat) (w : World) (h : math_NaN.f = some r) : Calls Tryd.prog 54 #[] w fun e w' => e = .returned (.float .f64 r) ∧ Below w.heap.size w w' := by
  injection h with h
  subst h
  go_enter Tryd.func54, Tryd.ntmps54
  go_wp2
  rw [run_callFunc_extern Tryd.func84 (by kernel_rfl) (by kernel_rfl) (by kernel_rfl) (e := Extern.MathFloatBits.float64frombits) (by kernel_rfl)]
  rw [run_nan]
  simp only [Result.andThen]
  rw [Oper.upon_value]
  go_wp2
  go_ret
  exact ⟨rfl, Below.refl _ _⟩
/-- the model's floor, on what a word stands for. -/
def floorOf (x : Nat) : Ieee.Datum → Sem Value
  | .nan s t => if FloatKind.f64.format.quiet t = t then pure (.float .f64 x) else do
      let kept ← choose (.extern "math.Floor,Ceil,Trunc,RoundToEven.signallingNaN kept" 2)
      pure (.float .f64 (if kept == 1 then x else FloatKind.f64.encode (.nan s (FloatKind.f64.format.quiet t))))
  | d => pure (.float .f64 (FloatKind.f64.encode (d.integral .down)))
theorem floor_is (x : Nat) : Extern.MathFloor.toIntegral "math.archFloor" .down #[.float .f64 x] = floorOf x (FloatKind.f64.decode x) := rfl
def math_Floor.f (x : Nat) : Option Nat := if (Ieee.double.read x).isNaN = true then none else some (floorBits x)
set_option maxRecDepth 100000 in
theorem math_Floor.calls (x r : Nat) (w : World) (h : math_Floor.f x = some r) : Calls Tryd.prog 70 #[.float .f64 x] w fun e w' => e = .returned (.float .f64 r) ∧ Below w.heap.size w w' := by
  unfold math_Floor.f at h
  split at h
  · cases h
  · rename_i hn
    injection h with h
    have hx : ∀ w : World, (Extern.MathFloor.toIntegral "math.archFloor" .down #[.float .f64 x]).run Tryd.prog w = .ok (.float .f64 r) w := by
      intro w
      subst h
      rw [floor_is]
      unfold floorBits
      cases hd : FloatKind.f64.decode x with
      | nan s t =>
        exfalso
        apply hn
        show (FloatKind.f64.decode x).isNaN = true
        rw [hd]
        rfl
      | infinity s => rfl
      | number s m i => rfl
    clear h
    go_enter Tryd.func70, Tryd.ntmps70
    go_wp2
    rw [run_callFunc_extern Tryd.func93 (by kernel_rfl) (by kernel_rfl) (by kernel_rfl) (e := Extern.MathFloor.toIntegral "math.archFloor" .down) (by kernel_rfl)]
    rw [hx]
    simp only [Result.andThen]
    rw [Oper.upon_value]
    go_wp2
    go_ret
    exact ⟨rfl, Below.refl _ _⟩
end Go.Proofs.YtfmfikodnpnblaaDoor.ClkLib

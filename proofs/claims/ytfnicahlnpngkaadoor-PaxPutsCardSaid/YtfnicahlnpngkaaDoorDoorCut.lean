/- strings.Cut and strings.Contains at one byte, strconv.Itoa: contracts in the print's own form. -/
import Derived.Test.YtfnicahlnpngkaaDoorShelf
import Derived.Test.YtfnicahlnpngkaaDoorWWords
import Derived.Lib.IndexLaws
import Derived.Lib.ItoaNum
import Derived.Lib.ItoaLen
import Derived.FnData
import Derived.Test.YtfnicahlnpngkaaDoorBase
import Derived.BigQuiet
import Derived.Deep.DeepCutAuto
set_option linter.unusedVariables false
namespace Go.Proofs.YtfnicahlnpngkaaDoor.DoorCut
open Go.RowKit Go.Proofs Go.Proofs.YtfnicahlnpngkaaDoorW.PrintWords Go.Proofs.YtfnicahlnpngkaaDoor.Base

/-- what a table of strconv's reads as. -/
def Vars (w : World) : Prop := Lib.TabIs Tryd.prog w "internal/strconv.uint64pow10" .u64 Lib.pow10Tab
theorem var_lt {P : Program} {w : World} {n : String} {cs : Array Value} (h : w.var? P n = some cs) : ∃ g, P.globalNamed n = some g ∧ g < w.heap.size := by
  unfold World.var? at h
  cases hg : P.globalNamed n with
  | none => simp [hg] at h
  | some g =>
    refine ⟨g, rfl, ?_⟩
    rcases Nat.lt_or_ge g w.heap.size with h' | h'
    · exact h'
    · simp [hg, Array.getElem?_eq_none h'] at h
theorem Vars.below {w w' : World} (h : Vars w) (hb : Below w.heap.size w w') : Vars w' := by
  obtain ⟨g, hg, hlt⟩ := var_lt h
  have hk := hb.block g hlt
  unfold Vars Lib.TabIs World.var? at h ⊢
  rw [hg] at h ⊢
  simp only [Option.bind_some] at h ⊢
  rw [hk]
  exact h
theorem below_grow (w : World) (k : Nat) (os : Array Obj) : Below w.heap.size w (Go.Sort.grow (w.drewN k) os) := by
  refine ⟨rfl, rfl, rfl, by simp [Go.Sort.grow], fun i hi => ?_⟩
  show (w.heap ++ os)[i]? = _
  rw [Array.getElem?_append_left hi]

def strOf (l : List UInt8) : ByteArray := ⟨l.toArray⟩
def strconv_Itoa.f (n : Int) : Option ByteArray := if -9223372036854775808 ≤ n ∧ n ≤ 9223372036854775807 then some (strOf (Lib.itoa n)) else none
theorem strconv_Itoa.calls (n : Int) (r : ByteArray) (w : World) (h : strconv_Itoa.f n = some r) (hv : Vars w) :
    Calls Tryd.prog 22 #[.int .i64 n] w fun e w' => e = .returned (.string r) ∧ Below w.heap.size w w' := by
  unfold strconv_Itoa.f at h
  split at h
  · rename_i hn
    injection h with h
    subst h
    refine (Tryd.strconv_Itoa n hn.1 hn.2 w hv).mono ?_
    rintro e w' ⟨rfl, k, os, rfl⟩
    exact ⟨rfl, below_grow w k os⟩
  · cases h

def strings_Contains.f (a0 a1 : ByteArray) : Option Bool := match a1.data.toList with
  | [c] => some (decide (0 ≤ Lib.indexByte a0.data.toList c))
  | _ => none
theorem strings_Contains.calls (a0 a1 : ByteArray) (r : Bool) (w : World) (h : strings_Contains.f a0 a1 = some r) :
    Calls Tryd.prog 25 #[.string a0, .string a1] w fun e w' => e = .returned (.bool r) ∧ Below w.heap.size w w' := by
  unfold strings_Contains.f at h
  split at h
  · rename_i c hc
    injection h with h
    subst h
    have : a1 = ⟨#[c]⟩ := by apply ByteArray.ext; apply Array.ext'; rw [hc]
    subst this
    refine (Tryd.strings_Contains_one a0 c w).mono ?_
    rintro e w' ⟨rfl, rfl⟩
    exact ⟨rfl, Below.refl _ _⟩
  · cases h

/-- a text around the first of a byte. -/
def cutAt (s : ByteArray) (c : UInt8) : ByteArray × ByteArray × Bool :=
  if 0 ≤ Lib.indexByte s.data.toList c then (s.extract 0 (Lib.indexByte s.data.toList c).toNat, s.extract ((Lib.indexByte s.data.toList c) + 1).toNat s.size, true) else (s, ⟨#[]⟩, false)
def strings_Cut.f (a0 a1 : ByteArray) : Option (ByteArray × ByteArray × Bool) := match a1.data.toList with
  | [c] => if a0.size ≤ 9223372036854775806 then some (cutAt a0 c) else none
  | _ => none
theorem index_lt (s : ByteArray) (c : UInt8) (h : 0 ≤ Lib.indexByte s.data.toList c) : Lib.indexByte s.data.toList c < s.size := by
  obtain ⟨o, ho⟩ := Int.eq_ofNat_of_zero_le h
  have := (Lib.indexByte_some ho).1
  have hl := (List.getElem?_eq_some_iff.1 this).1
  rw [Array.length_toList] at hl
  rw [ho]
  exact_mod_cast hl
set_option maxHeartbeats 2000000 in
set_option maxRecDepth 100000 in
theorem lite_Cut (s : ByteArray) (c : UInt8) (w : World) (hs : s.size ≤ 9223372036854775806) :
    Calls Tryd.prog 41 #[.string s, .string ⟨#[c]⟩] w fun e w' => e = .returned (.tuple #[.string (cutAt s c).1, .string (cutAt s c).2.1, .bool (cutAt s c).2.2]) ∧ Below w.heap.size w w' := by
  unfold cutAt
  have hlt := index_lt s c
  have HI := Aside0.mk (Tryd.stringslite_Index_one s c)
  have hsz : (ByteArray.mk #[c]).size = 1 := rfl
  generalize Lib.indexByte s.data.toList c = i at hlt HI ⊢
  by_cases h : 0 ≤ i
  · have hi := hlt h
    have g1 : decide (0 ≤ i) = true := decide_eq_true h
    have g2 : (i ≤ (s.size : Int)) = True := eq_true (by omega)
    have g3 : (0 ≤ i + 1) = True := eq_true (by omega)
    have g4 : (i + 1 ≤ (s.size : Int)) = True := eq_true (by omega)
    have g5 := eq_true h
    have g6 : wrap64 (i + 1) = i + 1 := wrap64_id (by omega) (by omega)
    rw [if_pos h]
    clear hlt
    go_enter Tryd.func41, Tryd.ntmps41
    go_wp2_with (go_at_call 42; (with_reducible refine (HI.out _).mono ?_); rintro e w1 ⟨rfl, rfl⟩)
    go_region
    go_wp2
    refine bodyPost_ret (v := .tuple #[.string (s.extract 0 i.toNat), .string (s.extract (i + 1).toNat s.size), .bool true]) (by simp [results, Tryd.results41, go_sem]) rfl ⟨rfl, below_drew (Below.refl _ _)⟩
  · have g1 : decide (0 ≤ i) = false := decide_eq_false h
    rw [if_neg h]
    clear hlt
    go_enter Tryd.func41, Tryd.ntmps41
    go_wp2_with (go_at_call 42; (with_reducible refine (HI.out _).mono ?_); rintro e w1 ⟨rfl, rfl⟩)
    refine bodyPost_ret (v := .tuple #[.string s, .string ⟨#[]⟩, .bool false]) (by simp [results, Tryd.results41, go_sem]) rfl ⟨rfl, Below.refl _ _⟩
set_option maxHeartbeats 2000000 in
set_option maxRecDepth 100000 in
theorem strings_Cut.calls (a0 a1 : ByteArray) (r1 r2 : ByteArray) (r3 : Bool) (w : World) (h : strings_Cut.f a0 a1 = some (r1, r2, r3)) :
    Calls Tryd.prog 34 #[.string a0, .string a1] w fun e w' => e = .returned (.tuple #[.string r1, .string r2, .bool r3]) ∧ Below w.heap.size w w' := by
  unfold strings_Cut.f at h
  split at h
  · rename_i c hc
    split at h
    · rename_i hs
      injection h with h
      have : a1 = ⟨#[c]⟩ := by apply ByteArray.ext; apply Array.ext'; rw [hc]
      subst this
      have HL := Aside0.mk (lite_Cut a0 c w hs)
      rw [h] at HL
      clear h hc
      go_enter Tryd.func34, Tryd.ntmps34
      go_wp2_with (go_at_call 41; (with_reducible refine (HL.out).mono ?_); rintro e w1 ⟨rfl, hb⟩)
      refine bodyPost_ret (v := .tuple #[.string r1, .string r2, .bool r3]) (by simp [results, Tryd.results34, go_sem]) rfl ⟨rfl, hb⟩
    · cases h
  · cases h
end Go.Proofs.YtfnicahlnpngkaaDoor.DoorCut

/- Which operations on doubles are valid: no NaN comes of them. No program here. -/
import Derived.Test.YtfmfikodnpnblaaDoorFltExact
import Derived.Test.YtfmfikodnpnblaaDoorFltWords
set_option linter.unusedVariables false
namespace Go.Proofs.YtfmfikodnpnblaaDoor.FltOk
open Ieee Go.Proofs.YtfmfikodnpnblaaDoorW.PrintWords Go.Proofs.YtfmfikodnpnblaaDoor.Flt Go.Proofs.YtfmfikodnpnblaaDoor.FltClk Go.Proofs.YtfmfikodnpnblaaDoor.FltAdd Go.Proofs.YtfmfikodnpnblaaDoor.FltInj Go.Proofs.YtfmfikodnpnblaaDoor.FltExact
/-- a number; no NaN. -/
def Real_ (x : Nat) : Prop := ∃ s m i, double.read x = .number s m i
def Ok_ (x : Nat) : Prop := Real_ x ∨ ∃ s, double.read x = .infinity s
theorem word_fin {s : Bool} {q : Nat} (h : q < 9218868437227405312) : Real_ (double.word s q) := by
  unfold Real_
  rw [read_word s q h]
  split
  · exact ⟨_, _, _, rfl⟩
  · exact ⟨_, _, _, rfl⟩
theorem word_inf (s : Bool) : double.read (double.word s 9218868437227405312) = .infinity s := by cases s <;> decide +kernel
theorem nearest_ok (s : Bool) (m : Nat) (p : Int) : Ok_ (double.nearest s m p) := by
  obtain ⟨q, hq, e⟩ := nearest_is s m p
  rw [e]
  by_cases h : q < 9218868437227405312
  · exact .inl (word_fin h)
  · rw [show q = 9218868437227405312 by omega]
    exact .inr ⟨s, word_inf s⟩
theorem nearest_zero (s : Bool) (p : Int) : Real_ (double.nearest s 0 p) := by
  unfold Format.nearest
  rw [if_pos rfl]
  exact word_fin (by omega)
theorem key_fin {x : Nat} {a : Int} (h : key x = some a) (hb : a.natAbs < p2 2150) : Real_ x := by
  obtain ⟨s, m, i, e, _⟩ := key_number h hb
  exact ⟨s, m, i, e⟩
theorem int_fin (n : Int) (h : n.natAbs < 9007199254740992) : Real_ (floatOfInt .f64 n) := key_fin (key_ofInt n h) (int_small h)
theorem add_ok {s x : Nat} (hs : Ok_ s) (hx : Real_ x) : fvalid .add s x = true ∧ Ok_ (fop .add s x) := by
  obtain ⟨t, n, j, ex⟩ := hx
  obtain ⟨r, h, hr⟩ : ∃ r, floatBits .add .f64 s x = some r ∧ Ok_ r := by
    show ∃ r, Format.add double s x = some r ∧ Ok_ r
    unfold Format.add
    rcases hs with ⟨u, m, i, es⟩ | ⟨u, es⟩
    · rw [es, ex]; exact ⟨_, rfl, nearest_ok _ _ _⟩
    · rw [es, ex]; exact ⟨_, rfl, .inr ⟨u, word_inf u⟩⟩
  obtain ⟨h1, h2⟩ := fop_of h
  exact ⟨h1, by rw [h2]; exact hr⟩
theorem sub_fin {x y : Nat} (hx : Real_ x) (hy : Real_ y) : fvalid .sub x y = true := by
  obtain ⟨t, n, j, ex⟩ := hx
  obtain ⟨u, m, i, ey⟩ := hy
  show (Format.sub double x y).isSome = true
  unfold Format.sub
  rw [ex, ey]
  rfl
theorem sub_self {x : Nat} (h : fvalid .sub x x = true) : Real_ x := by
  have h' : (Format.sub double x x).isSome = true := h
  unfold Format.sub at h'
  rcases read_cases x with ⟨s, t, e⟩ | ⟨s, e⟩ | ⟨s, m, i, e, _⟩
  · rw [e] at h'; cases h'
  · rw [e] at h'; cases s <;> cases h'
  · exact ⟨s, m, i, e⟩
theorem quo_ok {s : Nat} {n : Int} (hs : Ok_ s) (hn : n.natAbs < 9007199254740992) (h0 : n ≠ 0) : fvalid .quo s (floatOfInt .f64 n) = true := by
  obtain ⟨t, m, j, ex, _, _, _, _, hu⟩ := key_number (key_ofInt n hn) (int_small hn)
  have hm : m ≠ 0 := by
    rintro rfl
    have e : (n * U).natAbs = 0 := by rw [hu, units_abs]; exact Nat.zero_mul _
    rw [Int.natAbs_mul] at e
    have := U_pos
    rcases Nat.mul_eq_zero.1 e with e | e <;> omega
  show (Format.div double s (floatOfInt .f64 n)).isSome = true
  unfold Format.div
  rcases hs with ⟨u, k, i, es⟩ | ⟨u, es⟩
  · rw [es, ex]
    show (Option.map double.write (if m = 0 then _ else _)).isSome = true
    rw [if_neg hm]
    rfl
  · rw [es, ex]; rfl
theorem mul_fin {a b : Int} (ha : a.natAbs < 9007199254740992) (hb : b.natAbs < 9007199254740992) (hc : (a * b).natAbs < 9007199254740992) : fvalid .mul (floatOfInt .f64 a) (floatOfInt .f64 b) = true ∧ Real_ (fop .mul (floatOfInt .f64 a) (floatOfInt .f64 b)) := by
  by_cases h0 : a * b = 0
  · obtain ⟨s, m, i, ex, _, _, _, _, hu⟩ := key_number (key_ofInt a ha) (int_small ha)
    obtain ⟨t, n, j, ey, _, _, _, _, hv⟩ := key_number (key_ofInt b hb) (int_small hb)
    have h : floatBits .mul .f64 (floatOfInt .f64 a) (floatOfInt .f64 b) = some (double.nearest (s ^^ t) (m * n) (i + j)) := by
      show Format.mul double _ _ = _
      unfold Format.mul
      rw [ex, ey]
      rfl
    have hz : m * n = 0 := by
      have eu := congrArg Int.natAbs hu
      have ev := congrArg Int.natAbs hv
      rw [units_abs] at eu ev
      have p1 := p2_pos (i + 1074).toNat
      have p2' := p2_pos (j + 1074).toNat
      rcases Int.mul_eq_zero.1 h0 with e | e
      · rw [e] at eu
        simp only [Int.zero_mul, Int.natAbs_zero] at eu
        rcases Nat.mul_eq_zero.1 eu.symm with e | e
        · rw [e, Nat.zero_mul]
        · omega
      · rw [e] at ev
        simp only [Int.zero_mul, Int.natAbs_zero] at ev
        rcases Nat.mul_eq_zero.1 ev.symm with e | e
        · rw [e, Nat.mul_zero]
        · omega
    rw [hz] at h
    obtain ⟨h1, h2⟩ := fop_of h
    exact ⟨h1, by rw [h2]; exact nearest_zero _ _⟩
  · obtain ⟨h1, h2⟩ := fop_of (mul_int a b ha hb hc h0)
    exact ⟨h1, by rw [h2]; exact int_fin _ hc⟩
theorem F1024 : (4652218415073722368 : Nat) = floatOfInt .f64 1024 := by decide +kernel
/-- 1024 times a whole number. -/
theorem mul_1024 {n : Int} (h : n.natAbs < 4398046511104) (h0 : n ≠ 0) : fvalid .mul 4652218415073722368 (floatOfInt .f64 n) = true ∧ fop .mul 4652218415073722368 (floatOfInt .f64 n) = floatOfInt .f64 (1024 * n) := by
  rw [F1024]
  exact fop_of (mul_int 1024 n (by omega) (by omega) (by omega) (by omega))
theorem zero_ok : Ok_ 0 := .inl ⟨false, 0, -1074, by decide +kernel⟩
end Go.Proofs.YtfmfikodnpnblaaDoor.FltOk

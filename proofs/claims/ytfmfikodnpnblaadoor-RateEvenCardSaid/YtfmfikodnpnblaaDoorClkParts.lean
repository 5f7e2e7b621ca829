/- clock.parts: the walk. -/
import Derived.Test.YtfmfikodnpnblaaDoorClkRow
import Derived.WalkMore
set_option linter.unusedVariables false
namespace Go.Proofs.YtfmfikodnpnblaaDoor.ClkParts
open Go.RowKit Go.Proofs Go.Proofs.YtfmfikodnpnblaaDoorW.PrintWords Go.Proofs.YtfmfikodnpnblaaDoor.Base Go.Proofs.YtfmfikodnpnblaaDoor.ClkPartsP Go.Proofs.YtfmfikodnpnblaaDoor.ClkRow Go.Proofs.YtfmfikodnpnblaaDoor.ClkLib

def digs (s : ByteArray) : List Nat := s.data.toList.map fun b => b.toNat - 48
def clock_parts.f (a0 : ByteArray) : Option (Int × Bool) :=
  if (∀ b ∈ a0.data.toList, 48 ≤ b.toNat ∧ b.toNat ≤ 57) ∧ a0.size ≤ 1000000000 then some (((rounds 9 (digs a0) 0).2 : Int), decide (val (rounds 9 (digs a0) 0).1 ≠ 0)) else none

theorem digs_spec (s : ByteArray) (h : ∀ b ∈ s.data.toList, 48 ≤ b.toNat ∧ b.toNat ≤ 57) : s.data.toList = (digs s).map (fun d => UInt8.ofNat (48 + d)) ∧ ∀ d ∈ digs s, d < 10 := by
  constructor
  · unfold digs
    rw [List.map_map]
    conv => lhs; rw [← List.map_id s.data.toList]
    refine List.map_congr_left fun b hb => ?_
    have := h b hb
    simp only [id, Function.comp]
    rw [show 48 + (b.toNat - 48) = b.toNat by omega]
    simp
  · intro d hd
    unfold digs at hd
    obtain ⟨b, hb, rfl⟩ := List.mem_map.mp hd
    have := h b hb
    omega
theorem rounds_le : ∀ k l n, (∀ d ∈ l, d < 10) → (rounds k l n).2 ≤ 2 ^ k * n + 2 ^ k - 1
  | 0, l, n, _ => by simp [rounds]
  | k + 1, l, n, h => by
    have h1 := rounds_le k (twice l).1 (n * 2 + (twice l).2) (twice_digits l)
    have h2 := twice_carry l h
    rw [rounds, Nat.pow_succ]
    have : 2 ^ k * (n * 2 + (twice l).2) ≤ 2 ^ k * (n * 2 + 1) := Nat.mul_le_mul_left _ (by omega)
    have hp : 0 < 2 ^ k := Nat.pow_pos (by decide)
    have e1 : 2 ^ k * (n * 2 + 1) = 2 ^ k * 2 * n + 2 ^ k := by rw [Nat.mul_add, Nat.mul_comm n 2, Nat.mul_assoc, Nat.mul_one]
    omega

theorem dropWhile_nil {α : Type} (p : α → Bool) : ∀ l : List α, l.dropWhile p = [] ↔ ∀ x ∈ l, p x = true
  | [] => by simp
  | a :: l => by
    have ih := dropWhile_nil p l
    rw [List.dropWhile_cons]
    by_cases h : p a = true
    · rw [if_pos h, ih]; simp [h]
    · rw [if_neg h]; simp [h]
theorem trimB_nil (l : List UInt8) (c : UInt8) : Lib.trimB l c = [] ↔ ∀ x ∈ l, x = c := by
  unfold Lib.trimB Lib.trimLeftB Lib.trimRightB
  rw [dropWhile_nil]
  constructor
  · intro h
    have h2 : (l.reverse.dropWhile (· == c)) = [] := by
      cases hx : l.reverse.dropWhile (· == c) with
      | nil => rfl
      | cons a t =>
        have h3 := h a (by rw [hx]; simp)
        have h4 := List.head_dropWhile_not (p := (· == c)) (l := l.reverse) (by rw [hx]; simp)
        simp only [hx, List.head_cons] at h4
        rw [h4] at h3; cases h3
    rw [dropWhile_nil] at h2
    intro x hx
    exact eq_of_beq (h2 x (by simpa using hx))
  · intro h x hx
    have : x ∈ l := by
      have h1 := List.mem_reverse.mp hx
      have h2 := (List.dropWhile_sublist _).subset h1
      exact List.mem_reverse.mp h2
    exact beq_iff_eq.mpr (h x this)
theorem trim_empty (l : List Nat) (h : ∀ d ∈ l, d < 10) : (!(strOf (Lib.trimB (l.map fun d => UInt8.ofNat (48 + d)) 48)).toList.isEmpty) = decide (val l ≠ 0) := by
  have e : Lib.trimB (l.map fun d => UInt8.ofNat (48 + d)) 48 = [] ↔ val l = 0 := by
    rw [trimB_nil, val_zero]
    simp only [List.forall_mem_map]
    refine forall_congr' fun d => forall_congr' fun hd => ?_
    have := h d hd
    constructor
    · intro hx
      have hy := congrArg UInt8.toNat hx
      rw [UInt8.toNat_ofNat'] at hy
      have : (48 : UInt8).toNat = 48 := rfl
      omega
    · rintro rfl; rfl
  have hs : (strOf (Lib.trimB (l.map fun d => UInt8.ofNat (48 + d)) 48)).toList = Lib.trimB (l.map fun d => UInt8.ofNat (48 + d)) 48 := by
    unfold strOf; exact ByteArray.toList_mk _
  rw [hs]
  by_cases hv : val l = 0
  · rw [e.mpr hv]; simp [hv]
  · have : Lib.trimB (l.map fun d => UInt8.ofNat (48 + d)) 48 ≠ [] := fun hx => hv (e.mp hx)
    cases hx : Lib.trimB (l.map fun d => UInt8.ofNat (48 + d)) 48 with
    | nil => exact absurd hx this
    | cons a t => simp [hv]
theorem set_at (l : List Nat) (m : Nat) (h : m < l.length) {X : List Nat} {x : Nat} : (l.take (m + 1) ++ X).set m x = l.take m ++ x :: X := by
  rw [List.take_succ_eq_append_getElem h, List.append_assoc, List.set_append_right _ _ (by simp; omega)]
  simp [Nat.min_eq_left (Nat.le_of_lt h)]
attribute [local go_sem] conv_bytes

set_option maxHeartbeats 8000000 in
set_option maxRecDepth 100000 in
theorem clock_parts.calls (a0 : ByteArray) (r1 : Int) (r2 : Bool) (w : World) (h : clock_parts.f a0 = some (r1, r2)) :
    Calls Tryd.prog 74 #[.string a0] w fun e w' => e = .returned (.tuple #[.int .i64 r1, .bool r2]) ∧ Below w.heap.size w w' := by
  unfold clock_parts.f at h
  by_cases hs : (∀ b ∈ a0.data.toList, 48 ≤ b.toNat ∧ b.toNat ≤ 57) ∧ a0.size ≤ 1000000000
  · rw [if_pos hs, Option.some.injEq, Prod.mk.injEq] at h
    obtain ⟨hd0, hsz⟩ := hs
    obtain ⟨hl, hd⟩ := digs_spec a0 hd0
    have hlen : a0.size = (digs a0).length := by show a0.data.size = _; unfold digs; simp
    have HH := Aside0.mk h
    have HBR := Aside0.mk (brow_made w a0 _ hl hd)
    have HD := Aside0.mk hd
    have HBB : Aside0 (Below w.heap.size w (Lib.bytesWorld w 5 a0)) := ⟨bytes_below (Below.refl _ _) (Nat.le_refl _) 5 a0⟩
    clear h hd0 hl hd
    go_enter Tryd.func74, Tryd.ntmps74
    go_upto_region 2 with (fail)
    generalize digs a0 = l at *
    generalize Lib.bytesWorld w 5 a0 = wb at *
    generalize grownCap w a0.size 0 5 = cap at *
    go_wp2
    go_loopg [5, 11] 10 (fun kq v5 v11 wr => ∃ (n j : Nat) (l' : List Nat), v5 = .int .i64 (n : Int) ∧ v11 = .int .i64 (j : Int) ∧ Aside0 (j ≤ 9 ∧ 9 - j < kq ∧ n < 2 ^ j) ∧ Aside0 (l'.length = l.length ∧ ∀ d ∈ l', d < 10) ∧ Aside0 (rounds (9 - j) l' n = rounds 9 l 0) ∧ Aside0 (BRow wr w.heap.size l') ∧ Aside0 (Below w.heap.size w wr))
    case atStart => exact ⟨0, 0, l, rfl, rfl, ⟨by omega, by omega, by decide⟩, ⟨rfl, HD.out⟩, ⟨rfl⟩, HBR, HBB⟩
    case round =>
      clear HBR HBB
      obtain ⟨n, j, l', rfl, rfl, HJ, HL, HR, HBR, HB⟩ := hrel
      have hj9 := HJ.out
      by_cases hj : (j : Int) < 9
      · have q1 : decide ((j : Int) < 9) = true := decide_eq_true hj
        obtain ⟨kq, rfl⟩ : ∃ kq, gk = kq + 1 := ⟨gk - 1, by omega⟩
        have hll : a0.size = l'.length := by rw [HL.out.1]; exact hlen
        clear hj
        go_wp2
        go_loopg [6, 7] (l'.length + 1) (fun kq v6 v7 wi => ∃ (m : Nat), v6 = .int .u8 (((twice (l'.drop m)).2 : Nat) : Int) ∧ v7 = .int .i64 ((m : Int) - 1) ∧ Aside0 (m ≤ l'.length ∧ m < kq) ∧ Aside0 (BRow wi w.heap.size (l'.take m ++ (twice (l'.drop m)).1)) ∧ Aside0 (Below w.heap.size w wi))
        case atStart => exact ⟨l'.length, by simp [twice], by rw [HL.out.1], ⟨Nat.le_refl _, by omega⟩, ⟨by simpa [twice] using HBR.out⟩, HB⟩
        case round =>
          clear HBR HB
          obtain ⟨m, rfl, rfl, HM, HBR, HB⟩ := hrel
          have hm := HM.out
          cases m with
          | zero =>
            have q2 : decide (((0 : Nat) : Int) - 1 ≥ 0) = false := by decide
            have hc := twice_carry l' HL.out.2
            have hn : n < 256 := Nat.lt_of_lt_of_le hj9.2.2 (Nat.pow_le_pow_right (by decide) (by have := of_decide_eq_true q1; omega) : 2 ^ j ≤ 2 ^ 8)
            have hbr := HBR.out
            simp only [List.take_zero, List.drop_zero, List.nil_append] at hbr
            have HBR' := Aside0.mk hbr
            clear hbr HBR
            go_wp2
            go_roundg kq
            case measure => omega
            case rel =>
              have hj8 := of_decide_eq_true q1
              have hr := HR.out
              rw [show 9 - j = (9 - (j + 1)) + 1 by omega, rounds] at hr
              refine ⟨n * 2 + (twice l').2, j + 1, (twice l').1, ?_, by push_cast; rfl, ⟨by omega, by omega, ?_⟩, ⟨by rw [twice_length]; exact HL.out.1, twice_digits l'⟩, ⟨hr⟩, HBR', HB⟩
              · push_cast; rfl
              · rw [Nat.pow_succ]; omega
          | succ m =>
            have q2 : decide (((m + 1 : Nat) : Int) - 1 ≥ 0) = true := decide_eq_true (by omega)
            have hlm : m < l'.length := by omega
            have hcell := HBR.out.cell m (by simp; omega)
            have hfz := HBR.out.frozen m (by simp; omega)
            rw [List.getElem_append_left (by simp; omega), List.getElem_take] at hcell
            unfold dig at hcell
            have hdm := HL.out.2 _ (List.getElem_mem hlm)
            have e0 : (((m + 1 : Nat) : Int) - 1) = (m : Int) := by omega
            have p3 : (0 : Int) ≤ (m : Int) := by omega
            have p4 : (m : Int) < (l.length : Int) := by have := HL.out.1; omega
            rw [e0] at q2 ⊢
            have hc1 := twice_carry (l'.drop (m + 1)) (fun d hd => HL.out.2 d (List.mem_of_mem_drop hd))
            have hdr : l'.drop m = l'[m] :: l'.drop (m + 1) := List.drop_eq_getElem_cons hlm
            have hst := HBR.out.set m ((2 * l'[m] + (twice (l'.drop (m + 1))).2) % 10)
            rw [set_at l' m hlm] at hst
            have HST := Aside0.mk hst
            clear hst HBR
            obtain ⟨kr, rfl⟩ : ∃ kr, gk = kr + 1 := ⟨gk - 1, by omega⟩
            go_wp2
            go_roundg kr
            case measure => omega
            case rel =>
              refine ⟨m, ?_, rfl, ⟨by omega, by omega⟩, ⟨?_⟩, ⟨below_set HB.out (Nat.le_refl _)⟩⟩
              · rw [hdr]; simp only [twice, Value.int.injEq, true_and]; omega
              · have h2 := HST.out
                rw [hdr]; simp only [twice]
                refine cast ?_ h2
                congr 2
                simp only [dig, Value.int.injEq, true_and]
                omega
      · have q1 : decide ((j : Int) < 9) = false := decide_eq_false hj
        have hj9' : j = 9 := by omega
        subst hj9'
        have hr : rounds 0 l' n = rounds 9 l 0 := HR.out
        rw [show rounds 0 l' n = (l', n) from rfl] at hr
        have hcv := conv_back wr w.heap.size (grownCap w l.length 0 5) l' HBR.out HL.out.2
        rw [HL.out.1] at hcv
        have hT : strings_Trim.f ⟨(l'.map fun d => UInt8.ofNat (48 + d)).toArray⟩ ⟨#[48]⟩ = some (strOf (Lib.trimB (l'.map fun d => UInt8.ofNat (48 + d)) 48)) := by
          show (if _ ∧ (l'.map fun d => UInt8.ofNat (48 + d)).toArray.size ≤ _ then _ else _) = _
          rw [if_pos ⟨by decide, by have := HL.out.1; simp; omega⟩]
        have HC := Aside0.mk (strings_Trim.calls _ _ _ wr hT)
        have HR2 := Aside0.mk hr
        clear hT hr
        generalize hs0 : (⟨(l'.map fun d => UInt8.ofNat (48 + d)).toArray⟩ : ByteArray) = s0 at hcv HC
        have HS0 := Aside0.mk hs0
        generalize ht0 : strOf (Lib.trimB (l'.map fun d => UInt8.ofNat (48 + d)) 48) = t0 at HC
        have HT0 := Aside0.mk ht0
        clear hs0 ht0
        go_wp2_with (go_at_call 96; (with_reducible refine (HC.out).mono ?_); rintro e w1 ⟨rfl, hb⟩)
        go_ret2
        have hh := HH.out
        rw [← HR2.out] at hh
        obtain ⟨rfl, rfl⟩ := hh
        have hte := trim_empty l' HL.out.2
        rw [HT0.out] at hte
        refine ⟨?_, below_then HB.out HB.out.size hb⟩
        rw [← hte]; rfl
  · rw [if_neg hs] at h; cases h
end Go.Proofs.YtfmfikodnpnblaaDoor.ClkParts

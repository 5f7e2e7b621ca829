/- ClockKeeps, plainly: what is floored twice is floored once; texts, seconds, DOS times there and back. -/
import Derived.Test.YtfmfikodnpnblaaDoorPClockKeepsx
import Derived.Test.YtfmfikodnpnblaaDoorClkPlainS
set_option linter.unusedVariables false
set_option linter.unusedSimpArgs false
namespace Go.Proofs.YtfmfikodnpnblaaDoor.PureClockKeeps
open Go.RowKit Go.Proofs Go.Proofs.YtfmfikodnpnblaaDoorW.PrintWords Go.Proofs.YtfmfikodnpnblaaDoor.PClockKeeps Go.Proofs.YtfmfikodnpnblaaDoor.PClk1 Go.Proofs.YtfmfikodnpnblaaDoor.ClkTold Go.Proofs.YtfmfikodnpnblaaDoor.ClkLib Go.Proofs.YtfmfikodnpnblaaDoor.ClkFloat Go.Proofs.YtfmfikodnpnblaaDoor.ClkText Go.Proofs.YtfmfikodnpnblaaDoor.ClkParse Go.Proofs.YtfmfikodnpnblaaDoor.Flt Go.Proofs.YtfmfikodnpnblaaDoor.FltClk Go.Proofs.YtfmfikodnpnblaaDoor.FltAdd Go.Proofs.YtfmfikodnpnblaaDoor.ClkDateEq Go.Proofs.YtfmfikodnpnblaaDoor.ClkSecs
open Go.Proofs.YtfmfikodnpnblaaDoor.PaxSem (isD dval isD_iff decDigits_dval decDigits_all decDigits_ne)
open Go.Lib (decDigits)

/-! ### the meaning of a time's text -/
theorem isD_46 {c : UInt8} (h : isD c = true) : (c != 46) = true := by
  rw [bne_iff_ne]
  rintro rfl
  exact absurd h (by decide)
theorem take_until (w q : List UInt8) (hw : w.all isD = true) : head (w ++ q) = w ++ head q ∧ rest (w ++ q) = rest q := by
  induction w with
  | nil => exact ⟨rfl, rfl⟩
  | cons c w ih =>
    rw [List.all_cons, Bool.and_eq_true] at hw
    obtain ⟨h1, h2⟩ := ih hw.2
    unfold head rest at *
    rw [List.cons_append, List.takeWhile_cons, List.dropWhile_cons, if_pos (isD_46 hw.1), if_pos (isD_46 hw.1), h1, h2]
    exact ⟨rfl, rfl⟩
theorem tails : (List.range 512).all (fun r => r == 0 || ((Txt.tail 9 r).all isD && Txt.tail 9 r != [] && 512 * dval (Txt.tail 9 r) == r * 10 ^ (Txt.tail 9 r).length)) = true := by decide +kernel
theorem tail_facts {r : Nat} (h : r < 512) (h0 : r ≠ 0) : (Txt.tail 9 r).all isD = true ∧ Txt.tail 9 r ≠ [] ∧ 512 * dval (Txt.tail 9 r) = r * 10 ^ (Txt.tail 9 r).length := by
  have := List.all_eq_true.1 tails r (List.mem_range.2 h)
  simp only [Bool.or_eq_true, Bool.and_eq_true, beq_iff_eq, bne_iff_ne] at this
  rcases this with h1 | ⟨⟨h1, h2⟩, h3⟩
  · exact absurd h1 h0
  · exact ⟨h1, h2, h3⟩
theorem parse_abs (neg : Bool) (u : Nat) (hu : u ≤ 4398046511104) : parseB neg (absL u) = (if neg then -(u : Int) else (u : Int), 0) := by
  have hr : u % 512 < 512 := Nat.mod_lt _ (by decide)
  have hw := decDigits_all (u / 512)
  have hv := decDigits_dval (u / 512)
  unfold parseB okForm absL
  by_cases h : u % 512 = 0
  · rw [if_pos h]
    obtain ⟨h1, h2⟩ := take_until (decDigits (u / 512)) [] hw
    have e1 : head [] = [] := rfl
    have e2 : rest [] = [] := rfl
    rw [e1, List.append_nil] at h1
    rw [e2, List.append_nil] at h2
    have hne : (decDigits (u / 512) != []) = true := by simpa using decDigits_ne (u / 512)
    rw [List.append_nil, h1, h2, hw, hne, if_pos (by rfl)]
    unfold fin
    have hd0 : dval (([] : List UInt8).drop 1) = 0 := rfl
    rw [hv, hd0, if_neg (by omega)]
    cases neg
    · simp; omega
    · simp; omega
  · rw [if_neg h]
    obtain ⟨t1, t2, t3⟩ := tail_facts hr h
    obtain ⟨h1, h2⟩ := take_until (decDigits (u / 512)) (46 :: Txt.tail 9 (u % 512)) hw
    have e1 : head (46 :: Txt.tail 9 (u % 512)) = [] := rfl
    have e2 : rest (46 :: Txt.tail 9 (u % 512)) = 46 :: Txt.tail 9 (u % 512) := rfl
    rw [e1, List.append_nil] at h1
    rw [e2] at h2
    have hne : (decDigits (u / 512) != []) = true := by simpa using decDigits_ne (u / 512)
    have hte : (Txt.tail 9 (u % 512) != []) = true := by simpa using t2
    rw [h1, h2, hw, hne, List.drop_one, List.tail_cons, t1, hte, if_pos (by rfl)]
    unfold fin
    have hp : 0 < 10 ^ (Txt.tail 9 (u % 512)).length := Nat.pow_pos (by decide)
    have e3 : 512 * dval (Txt.tail 9 (u % 512)) / 10 ^ (Txt.tail 9 (u % 512)).length = u % 512 := by rw [t3, Nat.mul_div_cancel _ hp]
    have e4 : 512 * dval (Txt.tail 9 (u % 512)) % 10 ^ (Txt.tail 9 (u % 512)).length = 0 := by rw [t3, Nat.mul_mod_left]
    rw [hv, if_neg (by omega), e3, e4]
    cases neg
    · simp; omega
    · simp; omega
theorem abs_head (u : Nat) : ∃ c t, absL u = c :: t ∧ c ≠ 45 := by
  have hw := decDigits_all (u / 512)
  unfold absL
  cases h : decDigits (u / 512) with
  | nil => exact absurd h (decDigits_ne _)
  | cons c t =>
    rw [h, List.all_cons, Bool.and_eq_true] at hw
    have := (isD_iff c).1 hw.1
    refine ⟨c, _, rfl, ?_⟩
    rintro rfl
    exact absurd this.1 (by decide)
theorem parse_text (n : Int) (h0 : -4398046511104 ≤ n) (h1 : n ≤ 4398046511104) : parseL (textL n) = (n, 0) := by
  unfold textL
  by_cases h : n < 0
  · rw [if_pos h]
    show (if (45 : UInt8) = 45 then parseB true (absL n.natAbs) else parseB false (45 :: absL n.natAbs)) = _
    rw [if_pos rfl, parse_abs true _ (by omega), if_pos rfl]
    congr 1
    omega
  · rw [if_neg h]
    obtain ⟨c, t, he, hc⟩ := abs_head n.natAbs
    have := parse_abs false n.natAbs (by omega)
    rw [he] at this ⊢
    show (if c = 45 then parseB true t else parseB false (c :: t)) = _
    rw [if_neg hc, this, if_neg (by decide)]
    congr 1
    omega
theorem text_len (n : Int) (h0 : -4398046511104 ≤ n) (h1 : n ≤ 4398046511104) : (textL n).length ≤ 40 := by
  have hd := dec_len (u := n.natAbs / 512) (by omega)
  have ht := tail_len 9 (n.natAbs % 512)
  have ha : (absL n.natAbs).length ≤ 30 := by
    unfold absL
    rw [List.length_append]
    split
    · simp; omega
    · simp only [List.length_cons]; omega
  unfold textL
  split
  · simp only [List.length_cons]; omega
  · omega

/-! ### what is floored twice -/
theorem edge_n : -(8589934592 * U) = -4398046511104 * V := by rw [edge_v, Int.neg_mul]
theorem parts_again {r : Nat} {n : Int} (h : key r = some (n * V)) (h0 : -4398046511104 ≤ n) (h1 : n ≤ 4398046511104) : parts r = n := by
  have hV := V_pos
  have hU := U_pos
  unfold parts partsOf
  rw [h]
  dsimp only
  have a1 : -4398046511104 * V ≤ n * V := Int.mul_le_mul_of_nonneg_right h0 (by omega)
  have a2 : n * V ≤ 4398046511104 * V := Int.mul_le_mul_of_nonneg_right h1 (by omega)
  rw [if_neg (by rw [edge_n]; omega), if_neg (by rw [edge_v]; omega), Int.mul_assoc, ← U_V, Int.mul_ediv_cancel _ (by omega)]
/-- what is floored lies no higher, but where it is far below. -/
theorem parts_le {a : Int} (h : -(8589934592 * U) ≤ a) : partsOf a * V ≤ a := by
  have hV := V_pos
  have hU := U_pos
  unfold partsOf
  rw [if_neg (by omega)]
  by_cases h2 : 8589934592 * U < a
  · rw [if_pos h2, ← edge_v]; omega
  · rw [if_neg h2]
    have h3 : a * 512 / U * U ≤ a * 512 := Int.ediv_mul_le _ (by omega)
    have h4 : a * 512 / U * V * 512 ≤ a * 512 := by rw [Int.mul_assoc, ← U_V]; exact h3
    omega

/-! ### seconds -/
theorem clamp_again (m : Int) (h0 : 0 ≤ m) (h1 : m ≤ 4294967295) : clampTo 0 4294967295 4294967295 (m * U) = m := by
  have hU := U_pos
  unfold clampTo
  have a1 : 0 ≤ m * U := Int.mul_nonneg h0 (by omega)
  rw [if_neg (by omega)]
  by_cases h : m = 4294967295
  · subst h
    rw [if_pos (by omega)]
  · have a2 : m * U < 4294967295 * U := Int.mul_lt_mul_of_pos_right (by omega) hU
    rw [if_neg (by omega), Int.mul_ediv_cancel _ (by omega)]
theorem unix_range (x : Nat) : 0 ≤ unixOf x ∧ unixOf x ≤ 4294967295 := by
  unfold unixOf
  split
  · omega
  · exact clamp_bound (by decide) (by decide)
theorem dos_clamp_again (s : Int) (h0 : 315532800 ≤ s) (h1 : s ≤ 4354819199) : clampTo 315532800 4354819200 4354819199 (s * U) = s := by
  have hU := U_pos
  unfold clampTo
  have a1 : 315532800 * U ≤ s * U := Int.mul_le_mul_of_nonneg_right h0 (by omega)
  have a2 : s * U < 4354819200 * U := Int.mul_lt_mul_of_pos_right (by omega) hU
  rw [if_neg (by omega), if_neg (by omega), Int.mul_ediv_cancel _ (by omega)]
theorem dosOf_key {r : Nat} {s : Int} (h : key r = some (s * U)) (h0 : 315532800 ≤ s) (h1 : s ≤ 4354819199) : dosOf r = dosS s := by
  unfold dosOf
  rw [h]
  dsimp only
  rw [dos_clamp_again s h0 h1]
theorem dosOf_nan {r : Nat} (h : key r = none) : dosOf r = 0 := by unfold dosOf; rw [h]
theorem fdos_zero : fdos 0 = none := by decide +kernel
theorem eq_nan {x : Nat} (h : key x = none) : (FloatKind.f64.format.order x x == some .eq) = false := by rw [ord_none h]; rfl
theorem eq_self {x : Nat} {a : Int} (h : key x = some a) : (FloatKind.f64.format.order x x == some .eq) = true := by rw [ord_eq h h]; simp

theorem j2_true (x : Nat) (v : Int) (d : Nat) (hd : key x ≠ none → ∃ s, key d = some (s * U) ∧ 315532800 ≤ s ∧ s ≤ 4354819199) : stevedorelaw4_ClockKeeps.j2 58 x v d false = some true := by
  have hU := U_pos
  obtain ⟨w, hw, hwk⟩ := FromDos_eq 57 v (by omega)
  have last : (if (FloatKind.f64.format.order x x != some .eq) = true then (some true) else (if (FloatKind.f64.format.order d 4734073370679705600 == some .gt || FloatKind.f64.format.order d 4734073370679705600 == some .eq) = true then (some (FloatKind.f64.format.order d 4751360366145961984 == some .lt)) else (some false))) = some true := by
    cases hk : key x with
    | none => rw [if_pos (nan_ne hk)]
    | some a =>
      obtain ⟨s, h1, h2, h3⟩ := hd (by rw [hk]; simp)
      have a1 : 315532800 * U ≤ s * U := Int.mul_le_mul_of_nonneg_right h2 (by omega)
      have a2 : s * U < 4354819200 * U := Int.mul_lt_mul_of_pos_right (by omega) hU
      rw [if_neg (by rw [not_nan hk]; decide), ord_ge h1 key_first, if_pos (decide_eq_true a1), ord_lt h1 key_last, decide_eq_true a2]
  rw [stevedorelaw4_ClockKeeps.j2, if_neg (by decide), hw]
  simp only [stevedorelaw4_told.f, Option.bind_some, if_true]
  cases hf : fdos v with
  | none =>
    rw [hf] at hwk
    rw [if_pos (nan_ne hwk)]
    exact last
  | some S =>
    rw [hf] at hwk
    obtain ⟨g1, g2, g3, _⟩ := dosS_fdos hf
    rw [if_neg (by rw [not_nan hwk]; decide), Dos_eq 57 w (by omega), dosOf_key hwk g2 g3, g1]
    simp only [Option.bind_some, if_true]
    exact last
theorem j1_true (x : Nat) (v : Int) : stevedorelaw4_ClockKeeps.j1 59 x v false = some true := by
  have hU := U_pos
  obtain ⟨d, hd, hdk⟩ := FromDos_eq 58 (dosOf x) (by omega)
  rw [stevedorelaw4_ClockKeeps.j1, if_neg (by decide), Dos_eq 58 x (by omega), Option.bind_some, hd, Option.bind_some, Dos_eq 58 d (by omega), Option.bind_some]
  cases hk : key x with
  | none =>
    rw [dosOf_nan hk, fdos_zero] at hdk
    obtain ⟨e, he, hek⟩ := FromDos_eq 58 (dosOf d) (by omega)
    rw [dosOf_nan hdk, fdos_zero] at hek
    rw [he, Option.bind_some, same_nan hek hdk, Option.bind_some, if_pos rfl, eq_nan hdk, eq_nan hk]
    exact j2_true x v d (fun h => absurd hk h)
  | some a =>
    obtain ⟨s, hs, h0, h1⟩ : ∃ s, dosOf x = dosS s ∧ 315532800 ≤ s ∧ s ≤ 4354819199 := by
      refine ⟨clampTo 315532800 4354819200 4354819199 a, ?_, clamp_bound (by decide) (by decide)⟩
      unfold dosOf
      rw [hk]
    rw [hs, fdos_dosS h0 h1] at hdk
    have hd2 : dosOf d = dosS s := by rw [dosOf_key hdk (by omega) (by omega), dosS_even]
    obtain ⟨e, he, hek⟩ := FromDos_eq 58 (dosOf d) (by omega)
    rw [hd2, fdos_dosS h0 h1] at hek
    have hne : (s - s % 2) * U ≠ 0 := Int.mul_ne_zero (by omega) (by omega)
    rw [he, Option.bind_some, same_key hek hdk (fun h => absurd h hne), Option.bind_some, if_pos rfl, eq_self hdk, eq_self hk]
    exact j2_true x v d (fun _ => ⟨s - s % 2, hdk, by omega, by omega⟩)
theorem j0_true (x : Nat) (v : Int) : stevedorelaw4_ClockKeeps.j0 60 x v false = some true := by
  have hU := U_pos
  obtain ⟨hm0, hm1⟩ := unix_range x
  obtain ⟨t, ht, htk⟩ := FromUnix_eq (unixOf x)
  rw [stevedorelaw4_ClockKeeps.j0, if_neg (by decide), Unix_eq 59 x (by omega), Option.bind_some, ht, Option.bind_some, Unix_eq 59 t (by omega), Option.bind_some]
  obtain ⟨y, hy, hyk⟩ := FromUnix_eq (unixOf t)
  rw [hy, Option.bind_some]
  by_cases hm : unixOf x = 0
  · rw [hm, if_neg (by decide)] at htk
    have h2 : unixOf t = 0 := by unfold unixOf; rw [show key t = none from htk]
    rw [h2, if_neg (by decide)] at hyk
    rw [same_nan hyk htk, Option.bind_some, if_pos rfl, eq_nan htk, if_neg (by decide)]
    exact j1_true x v
  · rw [if_pos (by omega)] at htk
    have h2 : unixOf t = unixOf x := by
      conv => lhs; unfold unixOf
      rw [show key t = some (unixOf x * U) from htk]
      exact clamp_again _ hm0 hm1
    rw [h2, if_pos (by omega)] at hyk
    have hne : unixOf x * U ≠ 0 := Int.mul_ne_zero hm (by omega)
    rw [same_key hyk htk (fun h => absurd h hne), Option.bind_some, if_pos rfl, eq_self htk, if_pos rfl]
    -- the time itself
    cases hk : key x with
    | none =>
      have : unixOf x = 0 := by unfold unixOf; rw [hk]
      exact absurd this hm
    | some a =>
      have hc : unixOf x = clampTo 0 4294967295 4294967295 a := by unfold unixOf; rw [hk]
      have hle : unixOf x * U ≤ a ∧ ((unixOf x + 1) * U ≤ a → 4294967295 * U ≤ a) := by
        rw [hc]
        rw [hc] at hm
        unfold clampTo at *
        by_cases g1 : a < 0 * U
        · rw [if_pos g1] at hm; exact absurd rfl hm
        · rw [if_neg g1]
          by_cases g2 : 4294967295 * U ≤ a
          · rw [if_pos g2]; exact ⟨g2, fun _ => g2⟩
          · rw [if_neg g2]
            refine ⟨Int.ediv_mul_le _ (by omega), fun h => ?_⟩
            have := Int.lt_ediv_add_one_mul_self a hU
            omega
      rw [ord_gt htk hk, if_neg (by rw [decide_eq_false (by omega)]; decide)]
      have k1 : key t = some ((unixOf x * 512) * V) := by
        have : key t = some (unixOf x * U) := htk
        rw [this, U_V]
        congr 1
        rw [Int.mul_comm V, ← Int.mul_assoc]
      have hUV : U = 512 * V := by rw [U_V, Int.mul_comm]
      have k2 : key 4607182418800017408 = some (512 * V) := hUV ▸ key_one
      obtain ⟨z, hz, hzk⟩ := add_parts k1 k2 (by omega) (by omega)
      have hz' := fop_of (op := .add) hz
      have e : (unixOf x * 512 + 512) * V = (unixOf x + 1) * U := by
        rw [U_V, Int.mul_comm V, ← Int.mul_assoc]
        congr 1
        omega
      rw [e] at hzk
      rw [if_pos hz'.1, hz'.2, ord_le hzk hk]
      by_cases g : (unixOf x + 1) * U ≤ a
      · have := hle.2 g
        rw [if_pos (decide_eq_true g), ord_lt hk key_32, decide_eq_false (by omega)]
        exact j1_true x v
      · rw [if_neg (by rw [decide_eq_false g]; decide)]
        exact j1_true x v
theorem order_front {r x : Nat} {n : Int} (h : key r = some (n * V)) (hn : n = parts x) : (if (FloatKind.f64.format.order r x == some .gt) = true then (if (FloatKind.f64.format.order x 13979173243358019584 == some .gt || FloatKind.f64.format.order x 13979173243358019584 == some .eq) = true then false else true) else true) = true := by
  have hU := U_pos
  cases hk : key x with
  | none => rw [ord_none' hk]; rfl
  | some a =>
    rw [ord_gt h hk, ord_ge hk key_n33]
    by_cases h1 : -(8589934592 * U) ≤ a
    · have h2 := parts_le h1
      have h3 : n = partsOf a := by rw [hn]; unfold parts; rw [hk]
      rw [decide_eq_false (by rw [h3]; omega), if_neg (by decide)]
    · rw [decide_eq_false h1]
      split <;> rfl
theorem ClockKeeps (a0 : Nat) (a1 : Int) : ∃ k, stevedorelaw4_ClockKeeps.f k a0 a1 = some true := by
  refine ⟨60, ?_⟩
  obtain ⟨b0, b1⟩ := parts_bound a0
  obtain ⟨r, hr, hr1⟩ := Fine_eq a0
  have hp := parts_again hr1.1 b0 b1
  obtain ⟨s, hs, hs1⟩ := Fine_eq r
  rw [hp] at hs1
  obtain ⟨x, hx, hx1⟩ := Parse_eq 60 (textL (parts a0)) (by have := text_len _ b0 b1; omega) (by have := text_len _ b0 b1; omega)
  rw [parse_text _ b0 b1] at hx hx1
  unfold stevedorelaw4_ClockKeeps.f
  rw [hr, Option.bind_some, Text_eq 60 a0 (by omega), Option.bind_some, hx, Option.bind_some, hs, Option.bind_some, same_eq hs1 hr1, Option.bind_some, if_pos rfl]
  dsimp only
  rw [if_pos rfl, same_eq hx1 hr1, Option.bind_some, if_pos rfl, not_nan hr1.1]
  have fr := order_front hr1.1 rfl
  have hj := j0_true a0 a1
  by_cases c1 : (FloatKind.f64.format.order r a0 == some .gt) = true
  · rw [if_pos c1] at fr ⊢
    by_cases c2 : (FloatKind.f64.format.order a0 13979173243358019584 == some .gt || FloatKind.f64.format.order a0 13979173243358019584 == some .eq) = true
    · rw [if_pos c2] at fr; cases fr
    · rw [if_neg c2]; exact hj
  · rw [if_neg c1]; exact hj
end Go.Proofs.YtfmfikodnpnblaaDoor.PureClockKeeps

/- What the document's Parts and Fine come to. -/
import Derived.Test.YtfmfikodnpnblaaDoorPClkRx
import Derived.Test.YtfmfikodnpnblaaDoorClkPlain
set_option linter.unusedVariables false
set_option linter.unusedSimpArgs false
namespace Go.Proofs.YtfmfikodnpnblaaDoor.ClkRefFloat
open Go.RowKit Go.Proofs Go.Proofs.YtfmfikodnpnblaaDoorW.PrintWords Go.Proofs.YtfmfikodnpnblaaDoor.PClkR Go.Proofs.YtfmfikodnpnblaaDoor.ClkDays Go.Proofs.YtfmfikodnpnblaaDoor.Flt Go.Proofs.YtfmfikodnpnblaaDoor.FltClk Go.Proofs.YtfmfikodnpnblaaDoor.ClkFloat

theorem whole_eq {x : Nat} {a : Int} (hx : key x = some a) (hb : a.natAbs < Flt.p2 1250) (h0 : -9007199254740991 ≤ a / U) (h1 : a / U ≤ 9007199254740990) : stevedoreref4_whole.f x = some (a / U) := by
  obtain ⟨n, hn, hnk, hna, hc⟩ := whole_key hx hb h0 h1
  have hn' := fint_of hn
  unfold stevedoreref4_whole.f
  rw [if_pos hn'.1, hn'.2, ord_gt hnk hx]
  rcases hc with ⟨h2, h3⟩ | ⟨h2, h3⟩
  · rw [if_pos (decide_eq_true (by omega)), w64 (by omega), h3]
  · rw [if_neg (by rw [decide_eq_false (by omega)]; decide), h3]
theorem Parts_eq (x : Nat) : stevedoreref4_Parts.f x = some (parts x) := by
  unfold stevedoreref4_Parts.f parts
  cases hk : key x with
  | none => rw [if_pos (nan_ne hk)]
  | some a =>
    have hV := V_pos
    have hU := U_pos
    rw [if_neg (by rw [not_nan hk]; decide), ord_le hk key_n33, ord_ge hk key_33]
    dsimp only
    have em : (-(8589934592 * U)) * 512 / U = -4398046511104 := by
      rw [show (-(8589934592 * U)) * 512 = -4398046511104 * U by omega]
      exact Int.mul_ediv_cancel _ (by omega)
    have ep : 8589934592 * U * 512 / U = 4398046511104 := by
      rw [show 8589934592 * U * 512 = 4398046511104 * U by omega]
      exact Int.mul_ediv_cancel _ (by omega)
    unfold partsOf
    by_cases h1 : a ≤ -(8589934592 * U)
    · rw [if_pos (decide_eq_true h1)]
      by_cases h1' : a < -(8589934592 * U)
      · rw [if_pos h1']
      · rw [if_neg h1', if_neg (by omega), show a = -(8589934592 * U) by omega, em]
    · rw [if_neg (by rw [decide_eq_false h1]; decide), if_neg (show ¬ a < -(8589934592 * U) by omega)]
      by_cases h2 : 8589934592 * U ≤ a
      · rw [if_pos (decide_eq_true h2)]
        by_cases h2' : 8589934592 * U < a
        · rw [if_pos h2']
        · rw [if_neg h2', show a = 8589934592 * U by omega, ep]
      · rw [if_neg (by rw [decide_eq_false h2]; decide), if_neg (show ¬ 8589934592 * U < a by omega)]
        have hs := abs_small (a := a) (by omega) (by omega)
        obtain ⟨m, hm, hmk⟩ := key_mul512 hk hs
        have hm' := fop_of (op := .mul) hm
        obtain ⟨g0, g1⟩ := ediv_bound (a := a) (by omega) (by omega)
        have hb : (a * 512).natAbs < Flt.p2 1250 := by
          have h3 : a.natAbs * 512 < Flt.p2 1200 * Flt.p2 9 := by rw [show Flt.p2 9 = 512 by rw [← p2_is]]; omega
          rw [← p2_add] at h3
          rw [Int.natAbs_mul]
          exact Nat.lt_trans h3 (p2_lt (by omega))
        rw [lit_512, if_pos hm'.1, hm'.2, whole_eq hmk hb (by omega) (by omega), Option.bind_some]
theorem refFine_eq (x : Nat) : ∃ r, stevedoreref4_Fine.f x = some r ∧ Is512 r (parts x) := by
  have hb := parts_bound x
  obtain ⟨r, h1, h2, h3⟩ := int512 (parts x) (by omega)
  unfold stevedoreref4_Fine.f
  rw [Parts_eq, Option.bind_some, lit_512, if_pos h1, h2]
  exact ⟨r, rfl, h3⟩
end Go.Proofs.YtfmfikodnpnblaaDoor.ClkRefFloat
/- What the document's Text comes to. -/
namespace Go.Proofs.YtfmfikodnpnblaaDoor.ClkRefText
open Go.RowKit Go.Proofs Go.Proofs.YtfmfikodnpnblaaDoorW.PrintWords Go.Proofs.YtfmfikodnpnblaaDoor.PClkR Go.Proofs.YtfmfikodnpnblaaDoor.ClkLib Go.Proofs.YtfmfikodnpnblaaDoor.ClkDays Go.Proofs.YtfmfikodnpnblaaDoor.Flt Go.Proofs.YtfmfikodnpnblaaDoor.FltClk Go.Proofs.YtfmfikodnpnblaaDoor.ClkFloat Go.Proofs.YtfmfikodnpnblaaDoor.ClkText Go.Proofs.YtfmfikodnpnblaaDoor.ClkRefFloat Go.Proofs.YtfmfikodnpnblaaDoor.Txt Go.Lib

/-- the document's loop. -/
theorem ref_l : ∀ (j k r : Nat) (l : List UInt8), j + 1 ≤ k → r < 512 → r * 10 ^ j % 512 = 0 → l.length + j ≤ 1000 → stevedoreref4_Text.l0 k (strOf l) (r : Int) = some (strOf (l ++ Txt.tail j r))
  | 0, k + 1, r, l, _, hr, h, _ => by
    have : r = 0 := by omega
    subst this
    rw [stevedoreref4_Text.l0, if_neg (by decide)]
    simp [Txt.tail]
  | j + 1, k + 1, r, l, hk, hr, h, hl => by
    rw [stevedoreref4_Text.l0]
    unfold Txt.tail
    by_cases h0 : r = 0
    · subst h0
      rw [if_neg (by decide)]
      simp
    · rw [if_pos (by omega), if_neg h0, w64 (n := (r : Int) * 10) (by omega), tdiv_pos (by omega), tmod_pos (by omega), w64 (by omega)]
      have e1 : (r : Int) * 10 / 512 = ((r * 10 / 512 : Nat) : Int) := by omega
      have e2 : (r : Int) * 10 % 512 = ((r * 10 % 512 : Nat) : Int) := by omega
      have hd : r * 10 / 512 < 10 := by omega
      rw [e1, e2, Itoa_eq (by omega) (by omega), Option.bind_some, Int.toNat_natCast]
      have e3 : decDigits (r * 10 / 512) = [UInt8.ofNat (48 + r * 10 / 512)] := decDigits_one hd
      rw [e3, strOf_size, strOf_size, if_pos (by simp only [List.length_cons, List.length_nil]; omega), strOf_append]
      have ih := ref_l j k (r * 10 % 512) (l ++ [UInt8.ofNat (48 + r * 10 / 512)]) (by omega) (Nat.mod_lt _ (by decide)) (by
        rw [Nat.mul_mod, Nat.mod_mod, ← Nat.mul_mod, Nat.mul_assoc, ← Nat.pow_succ']; exact h) (by simp only [List.length_append, List.length_cons, List.length_nil]; omega)
      rw [ih]
      simp
theorem refText_j (k : Nat) (u : Nat) (f : List UInt8) (hk : 13 ≤ k) (hu : u ≤ 4398046511104) (hf : f.length ≤ 1) : stevedoreref4_Text.j0 k (u : Int) (strOf f) = some (strOf (f ++ absL u)) := by
  obtain ⟨k, rfl⟩ : ∃ j, k = j + 2 := ⟨k - 2, by omega⟩
  have e1 : Int.tdiv (u : Int) 512 = ((u / 512 : Nat) : Int) := by rw [tdiv_pos (by omega)]; omega
  have e2 : Int.tmod (u : Int) 512 = ((u % 512 : Nat) : Int) := by rw [tmod_pos (by omega)]; omega
  have hl := dec_len (u := u / 512) (by omega)
  rw [stevedoreref4_Text.j0, e1, e2, w64 (n := ((u / 512 : Nat) : Int)) (by omega), Itoa_eq (by omega) (by omega), Option.bind_some, Int.toNat_natCast, strOf_size, strOf_size, if_pos (by omega), strOf_append]
  unfold absL
  have hr : u % 512 < 512 := Nat.mod_lt _ (by decide)
  have hs : ((strOf (f ++ decDigits (u / 512))).size) ≤ 21 := by rw [strOf_size, List.length_append]; omega
  by_cases h : u % 512 = 0
  · rw [if_neg (by omega), if_pos h, List.append_nil, stevedoreref4_Text.j1, ref_l 0 k _ _ (by omega) hr (by omega) (by rw [strOf_size] at hs; omega)]
    simp [Txt.tail]
  · have e4 : (⟨#[46]⟩ : ByteArray) = strOf [46] := rfl
    rw [if_pos (by omega), if_neg h, if_pos (by omega), stevedoreref4_Text.j1, e4, strOf_append, ref_l 9 k _ _ (by omega) hr (by rw [show (10 : Nat) ^ 9 = 512 * 1953125 by rfl, Nat.mul_left_comm, Nat.mul_mod_right]) (by rw [strOf_size] at hs; simp only [List.length_append, List.length_cons, List.length_nil] at hs ⊢; omega)]
    simp
theorem refText_eq (k x : Nat) (hk : 13 ≤ k) : stevedoreref4_Text.f k x = some (strOf (textL (parts x))) := by
  have hb := parts_bound x
  unfold stevedoreref4_Text.f textL
  rw [Parts_eq, Option.bind_some]
  by_cases h : parts x < 0
  · rw [if_pos h, if_pos h, w64 (by omega), show -parts x = ((parts x).natAbs : Int) by omega]
    exact refText_j k _ [45] hk (by omega) (by decide)
  · rw [if_neg h, if_neg h]
    conv => lhs; rw [show parts x = ((parts x).natAbs : Int) by omega]
    exact refText_j k _ [] hk (by omega) (by decide)
end Go.Proofs.YtfmfikodnpnblaaDoor.ClkRefText
/- What the document's Parse comes to: the same. -/
namespace Go.Proofs.YtfmfikodnpnblaaDoor.ClkRefParse
open Go.RowKit Go.Proofs Go.Proofs.YtfmfikodnpnblaaDoorW.PrintWords Go.Proofs.YtfmfikodnpnblaaDoor.PClkR Go.Proofs.YtfmfikodnpnblaaDoor.ClkDate Go.Proofs.YtfmfikodnpnblaaDoor.ClkLib Go.Proofs.YtfmfikodnpnblaaDoor.ClkDays Go.Proofs.YtfmfikodnpnblaaDoor.Flt Go.Proofs.YtfmfikodnpnblaaDoor.FltClk Go.Proofs.YtfmfikodnpnblaaDoor.ClkFloat Go.Proofs.YtfmfikodnpnblaaDoor.ClkText Go.Proofs.YtfmfikodnpnblaaDoor.ClkPartsP Go.Proofs.YtfmfikodnpnblaaDoor.ClkParse
open Go.Proofs.YtfmfikodnpnblaaDoor.PaxSem (isD dval isD_iff dval_snoc)
open Go.Proofs.YtfmfikodnpnblaaDoor.Base (toList_eq)

/-! ### nine digits, and whether more follow -/
theorem nine_div (A B Q : Nat) (hQ : 0 < Q) (hB : B < Q) : 512 * (A * Q + B) / (1000000000 * Q) = A * 512 / 1000000000 := by
  rw [Nat.mul_comm 1000000000, ← Nat.div_div_eq_div_mul, Nat.mul_add, ← Nat.mul_assoc, Nat.add_comm, Nat.add_mul_div_right _ _ hQ]
  have h : 512 * B / Q < 512 := Nat.div_lt_of_lt_mul (by rw [Nat.mul_comm Q]; exact (Nat.mul_lt_mul_left (by omega)).2 hB)
  generalize 512 * B / Q = e at *
  omega
theorem nine_mod (A B Q : Nat) (hQ : 0 < Q) (hB : B < Q) : 512 * (A * Q + B) % (1000000000 * Q) = 0 ↔ A * 512 % 1000000000 = 0 ∧ B = 0 := by
  constructor
  · intro h
    obtain ⟨q, hq⟩ := Nat.dvd_of_mod_eq_zero h
    have e : 512 * (A * Q + B) = 512 * (1953125 * q * Q) := by
      rw [hq, show (1000000000 : Nat) = 512 * 1953125 by rfl]
      simp only [Nat.mul_assoc, Nat.mul_comm, Nat.mul_left_comm]
    have e2 : A * Q + B = 1953125 * q * Q := Nat.eq_of_mul_eq_mul_left (by omega) e
    have e3 : (A * Q + B) / Q = A := by rw [Nat.add_comm, Nat.add_mul_div_right _ _ hQ, Nat.div_eq_of_lt hB, Nat.zero_add]
    rw [e2, Nat.mul_div_cancel _ hQ] at e3
    subst e3
    omega
  · rintro ⟨h, rfl⟩
    obtain ⟨q, hq⟩ : ∃ q, A = 1953125 * q := ⟨A / 1953125, by omega⟩
    subst hq
    rw [Nat.add_zero, show 512 * (1953125 * q * Q) = 1000000000 * Q * q by rw [show (1000000000 : Nat) = 512 * 1953125 by rfl]; simp only [Nat.mul_assoc, Nat.mul_comm, Nat.mul_left_comm]]
    exact Nat.mul_mod_right _ _
theorem dval_append (a b : List UInt8) : dval (a ++ b) = dval a * 10 ^ b.length + dval b := by
  rw [dval_val b]
  unfold dval
  rw [List.foldl_append, foldl_val]
theorem dval_zero {l : List UInt8} (h : l.all isD = true) : dval l = 0 ↔ l.any (· != 48) = false := by
  rw [dval_val, val_zero, List.any_eq_false]
  constructor
  · intro h0 x hx
    have h1 := h0 _ (List.mem_map.2 ⟨x, hx, rfl⟩)
    have h2 := (isD_iff x).1 (List.all_eq_true.1 h x hx)
    have : x = 48 := UInt8.toNat_inj.1 (show x.toNat = (48 : UInt8).toNat by show _ = 48; omega)
    subst this
    simp
  · intro h0 d hd
    obtain ⟨x, hx, rfl⟩ := List.mem_map.1 hd
    have h1 := h0 x hx
    have : x = 48 := by simpa using h1
    subst this
    rfl
def frac9 (p : List UInt8) : Nat := dval (p.take 9) * 10 ^ (9 - min 9 p.length)
def more9 (p : List UInt8) : Bool := (p.drop 9).any (· != 48)
theorem frac_facts (p : List UInt8) (hp : p.all isD = true) : (dval p > 0 ↔ frac9 p > 0 ∨ more9 p = true) ∧ 512 * dval p / 10 ^ p.length = frac9 p * 512 / 1000000000 ∧ (512 * dval p % 10 ^ p.length = 0 ↔ frac9 p * 512 % 1000000000 = 0 ∧ more9 p = false) ∧ frac9 p < 1000000000 := by
  unfold frac9 more9
  rcases Nat.lt_or_ge 9 p.length with hl | hl
  · have ht : (p.take 9).length = 9 := by rw [List.length_take]; omega
    have hd : (p.drop 9).length = p.length - 9 := List.length_drop
    have e := List.take_append_drop 9 p
    have ha : (p.take 9).all isD = true := List.all_eq_true.2 fun x hx => List.all_eq_true.1 hp x ((List.take_sublist 9 p).subset hx)
    have hb : (p.drop 9).all isD = true := List.all_eq_true.2 fun x hx => List.all_eq_true.1 hp x ((List.drop_sublist 9 p).subset hx)
    have hA := dval_lt ha
    have hB := dval_lt hb
    have hz := dval_zero hb
    have hpe : dval p = dval (p.take 9) * 10 ^ (p.drop 9).length + dval (p.drop 9) := by conv => lhs; rw [← e, dval_append]
    have hle : 10 ^ p.length = 1000000000 * 10 ^ (p.drop 9).length := by
      rw [show (1000000000 : Nat) = 10 ^ 9 by rfl, ← Nat.pow_add, hd, show 9 + (p.length - 9) = p.length by omega]
    rw [hpe, hle, show min 9 p.length = 9 by omega, Nat.sub_self, Nat.pow_zero, Nat.mul_one]
    have hQ : 0 < 10 ^ (p.drop 9).length := Nat.pow_pos (by decide)
    rw [ht] at hA
    generalize dval (p.take 9) = A at *
    generalize dval (p.drop 9) = B at *
    generalize 10 ^ (p.drop 9).length = Q at *
    refine ⟨?_, nine_div A B Q hQ hB, ?_, hA⟩
    · have hm : A > 0 → A * Q > 0 := fun h => Nat.mul_pos h hQ
      cases hmo : (p.drop 9).any (· != 48) with
      | true =>
        have hBne : B ≠ 0 := fun h => by rw [hz.1 h] at hmo; cases hmo
        exact ⟨fun _ => .inr rfl, fun _ => by omega⟩
      | false =>
        have hB0 : B = 0 := hz.2 hmo
        subst hB0
        constructor
        · intro h
          rcases Nat.eq_zero_or_pos A with h1 | h1
          · subst h1; simp at h
          · exact .inl h1
        · rintro (h | h)
          · have := hm h; omega
          · cases h
    · rw [nine_mod A B Q hQ hB, hz]
  · have ht : p.take 9 = p := List.take_of_length_le hl
    have hd : p.drop 9 = [] := List.drop_of_length_le hl
    rw [ht, hd, show min 9 p.length = p.length by omega]
    have hA := dval_lt hp
    have hle : 1000000000 = 10 ^ p.length * 10 ^ (9 - p.length) := by
      rw [← Nat.pow_add, show p.length + (9 - p.length) = 9 by omega]
    have hR : 0 < 10 ^ (9 - p.length) := Nat.pow_pos (by decide)
    have hQ : 0 < 10 ^ p.length := Nat.pow_pos (by decide)
    rw [hle]
    generalize dval p = A at *
    generalize 10 ^ (9 - p.length) = R at *
    generalize 10 ^ p.length = Q at *
    have e1 : A * R * 512 = 512 * A * R := by simp only [Nat.mul_assoc, Nat.mul_comm, Nat.mul_left_comm]
    rw [e1, Nat.mul_div_mul_right _ _ hR, Nat.mul_mod_mul_right]
    refine ⟨?_, rfl, ?_, (Nat.mul_lt_mul_right hR).2 hA⟩
    · constructor
      · intro h; exact .inl (Nat.mul_pos h hR)
      · rintro (h | h)
        · exact Nat.pos_of_mul_pos_right h
        · cases h
    · constructor
      · intro h; rw [h, Nat.zero_mul]; exact ⟨rfl, rfl⟩
      · rintro ⟨h, _⟩
        rcases Nat.mul_eq_zero.1 h with h | h
        · exact h
        · omega

/-! ### the loops, from the last on -/
theorem j10_eq (k : Nat) (neg : Bool) (m : Nat) (exact_ : Bool) (hk : 1 ≤ k) (hm : m ≤ 4398046511104) :
    ∃ r, stevedoreref4_Parse.j10 k neg (m : Int) exact_ = some (r, 0) ∧ Is512 r (if neg then -((m + if exact_ then 0 else 1 : Nat) : Int) else (m : Int)) := by
  obtain ⟨k, rfl⟩ : ∃ j, k = j + 1 := ⟨k - 1, by omega⟩
  rw [stevedoreref4_Parse.j10, lit_512]
  cases neg with
  | true =>
    rw [if_pos rfl]
    cases exact_ with
    | true =>
      obtain ⟨r, h1, h2, h3⟩ := int512 (-(m : Int)) (by omega)
      rw [if_pos rfl, w64 (n := -(m : Int)) (by omega), if_pos h1, h2]
      exact ⟨r, rfl, h3⟩
    | false =>
      obtain ⟨r, h1, h2, h3⟩ := int512 (-((m + 1 : Nat) : Int)) (by omega)
      rw [if_neg (by decide), w64 (n := -(m : Int)) (by omega), w64 (by omega), show -(m : Int) - 1 = -((m + 1 : Nat) : Int) by omega, if_pos h1, h2]
      exact ⟨r, rfl, h3⟩
  | false =>
    obtain ⟨r, h1, h2, h3⟩ := int512 (m : Int) (by omega)
    rw [if_neg (by decide), if_pos h1, h2]
    exact ⟨r, rfl, h3⟩
/-- what a number's whole part has come to. -/
def WInv (w : List UInt8) (n : Int) (over : Bool) : Prop := (over = false → n = (dval w : Int) ∧ dval w ≤ 8589934592) ∧ (over = true → 8589934592 < dval w)
theorem l2_go : ∀ (j k : Nat) (neg : Bool) (n : Int) (over : Bool) (frac : Nat) (d : Nat) (more : Bool), d + j = 9 → j + 2 ≤ k → frac * 10 ^ j < 1000000000 →
    ∃ k', k = k' + j ∧ stevedoreref4_Parse.l2 k neg n over (frac : Int) (d : Int) more = stevedoreref4_Parse.l2 k' neg n over ((frac * 10 ^ j : Nat) : Int) 9 more
  | 0, k, neg, n, over, frac, d, more, hd, _, hf => ⟨k, rfl, by rw [Nat.pow_zero, Nat.mul_one, show (d : Int) = 9 by omega]⟩
  | j + 1, k + 1, neg, n, over, frac, d, more, hd, hk, hf => by
    have hp : 0 < 10 ^ j := Nat.pow_pos (by decide)
    have hfb : frac * 10 < 1000000000 := by
      rw [Nat.pow_succ, Nat.mul_comm (10 ^ j), ← Nat.mul_assoc] at hf
      have : frac * 10 * 1 ≤ frac * 10 * 10 ^ j := Nat.mul_le_mul_left _ hp
      omega
    obtain ⟨k', hk', h⟩ := l2_go j k neg n over (frac * 10) (d + 1) more (by omega) (by omega) (by rw [Nat.mul_assoc, ← Nat.pow_succ']; exact hf)
    refine ⟨k', by omega, ?_⟩
    rw [stevedoreref4_Parse.l2, if_pos (by omega), w64 (n := (frac : Int) * 10) (by omega), w64 (n := (d : Int) + 1) (by omega)]
    rw [show (frac : Int) * 10 = ((frac * 10 : Nat) : Int) by omega, show (d : Int) + 1 = ((d + 1 : Nat) : Int) by omega, h, Nat.mul_assoc, ← Nat.pow_succ']
theorem j7_eq (k : Nat) (neg : Bool) (w p : List UInt8) (n : Int) (over : Bool) (hw : WInv w n over) (hp : p.all isD = true) (hk : 20 ≤ k) :
    ∃ r, stevedoreref4_Parse.j7 k neg n over ((dval (p.take 9) : Nat) : Int) ((min 9 p.length : Nat) : Int) (more9 p) = some (r, (fin neg w p).2) ∧ Is512 r (fin neg w p).1 := by
  obtain ⟨k, rfl⟩ : ∃ j, k = j + 1 := ⟨k - 1, by omega⟩
  obtain ⟨f1, f2, f3, f4⟩ := frac_facts p hp
  obtain ⟨k', hk', h⟩ := l2_go (9 - min 9 p.length) k neg n over (dval (p.take 9)) (min 9 p.length) (more9 p) (by omega) (by omega) f4
  rw [stevedoreref4_Parse.j7, h]
  obtain ⟨k'', rfl⟩ : ∃ j, k' = j + 3 := ⟨k' - 3, by omega⟩
  rw [show dval (p.take 9) * 10 ^ (9 - min 9 p.length) = frac9 p from rfl, stevedoreref4_Parse.l2, if_neg (by decide)]
  have bad : ∀ x y, ∃ r, stevedoreref4_Parse.j9 (k'' + 2) neg n x y true = some (r, 7) ∧ Is512 r 0 := fun x y => ⟨0, by rw [stevedoreref4_Parse.j9, if_pos rfl], zero512⟩
  cases over with
  | true =>
    have := hw.2 rfl
    have e : fin neg w p = (0, 7) := by unfold fin; rw [if_pos (.inl (by omega))]
    rw [if_pos rfl, e]
    exact bad _ _
  | false =>
    obtain ⟨hn, hn2⟩ := hw.1 rfl
    have good : ¬ (dval w > 8589934592 ∨ (dval w = 8589934592 ∧ dval p > 0)) → ∃ r, stevedoreref4_Parse.j9 (k'' + 2) neg n (frac9 p : Int) (more9 p) false = some (r, (fin neg w p).2) ∧ Is512 r (fin neg w p).1 := by
      intro hb
      unfold fin
      rw [if_neg hb, stevedoreref4_Parse.j9, if_neg (by decide), w64 (n := (frac9 p : Int) * 512) (by omega), tmod_pos (by omega), tdiv_pos (by omega), w64 (n := n * 512) (by omega), w64 (n := (frac9 p : Int) * 512 / 1000000000) (by omega), w64 (by omega)]
      rw [f2]
      have hz : dval w = 8589934592 → frac9 p = 0 := fun h => by
        rcases Nat.eq_zero_or_pos (frac9 p) with h1 | h1
        · exact h1
        · exact absurd (.inr ⟨h, f1.2 (.inl h1)⟩) hb
      have e1 : n * 512 + (frac9 p : Int) * 512 / 1000000000 = ((dval w * 512 + frac9 p * 512 / 1000000000 : Nat) : Int) := by omega
      have hm : dval w * 512 + frac9 p * 512 / 1000000000 ≤ 4398046511104 := by
        by_cases h : dval w = 8589934592
        · have := hz h; omega
        · omega
      rw [e1]
      have key : ∀ ex : Bool, (ex = true ↔ 512 * dval p % 10 ^ p.length = 0) → ∃ r, stevedoreref4_Parse.j10 (k'' + 1) neg ((dval w * 512 + frac9 p * 512 / 1000000000 : Nat) : Int) ex = some (r, 0) ∧ Is512 r (if neg then -((dval w * 512 + frac9 p * 512 / 1000000000 + if 512 * dval p % 10 ^ p.length ≠ 0 then 1 else 0 : Nat) : Int) else ((dval w * 512 + frac9 p * 512 / 1000000000 : Nat) : Int)) := by
        intro ex hex
        obtain ⟨r, h1, h2⟩ := j10_eq (k'' + 1) neg (dval w * 512 + frac9 p * 512 / 1000000000) ex (by omega) hm
        refine ⟨r, h1, ?_⟩
        cases ex with
        | true =>
          have h3 : ¬ (512 * dval p % 10 ^ p.length ≠ 0) := fun h => h (hex.1 rfl)
          rw [if_neg h3]
          exact h2
        | false =>
          have h3 : 512 * dval p % 10 ^ p.length ≠ 0 := fun h => by have := hex.2 h; cases this
          rw [if_pos h3]
          exact h2
      by_cases hz2 : (frac9 p : Int) * 512 % 1000000000 = 0
      · rw [if_pos hz2]
        exact key (!more9 p) (by
          rw [f3]
          constructor
          · intro h; exact ⟨by omega, by simpa using h⟩
          · rintro ⟨_, h⟩; rw [h]; rfl)
      · rw [if_neg hz2]
        exact key false (by
          rw [f3]
          constructor
          · intro h; cases h
          · rintro ⟨h, _⟩; exact absurd (by omega) hz2)
    rw [if_neg (by decide)]
    by_cases h1 : n = 8589934592
    · rw [if_pos h1]
      by_cases h2 : (frac9 p : Int) > 0
      · have e : fin neg w p = (0, 7) := by unfold fin; rw [if_pos (.inr ⟨by omega, f1.2 (.inl (by omega))⟩)]
        rw [if_pos h2, e]
        exact bad _ _
      · rw [if_neg h2]
        cases hm : more9 p with
        | true =>
          have e : fin neg w p = (0, 7) := by unfold fin; rw [if_pos (.inr ⟨by omega, f1.2 (.inr hm)⟩)]
          rw [e]
          exact bad _ _
        | false =>
          rw [hm] at good f1
          exact good (by
            rintro (h | ⟨_, h⟩)
            · omega
            · rcases f1.1 h with h | h
              · omega
              · cases h)
    · rw [if_neg h1]
      exact good (by rintro (h | ⟨h, _⟩) <;> omega)
theorem byte_sub {c : UInt8} (h : isD c = true) : ((c.toNat : Int) - 48) % 256 = ((c.toNat - 48 : Nat) : Int) := by
  have := (isD_iff c).1 h
  omega
theorem take_snoc (p : List UInt8) (c : UInt8) (h : p.length < 9) : (p ++ [c]).take 9 = p.take 9 ++ [c] := by
  rw [List.take_of_length_le (by simp; omega), List.take_of_length_le (by omega)]
theorem drop_small (p : List UInt8) (h : p.length ≤ 9) : more9 p = false := by unfold more9; rw [List.drop_of_length_le h]; rfl
theorem take_same (p : List UInt8) (c : UInt8) (h : 9 ≤ p.length) : (p ++ [c]).take 9 = p.take 9 := List.take_append_of_le_length h
theorem more_snoc (p : List UInt8) (c : UInt8) (h : 9 ≤ p.length) : more9 (p ++ [c]) = (more9 p || (c != 48)) := by
  unfold more9
  rw [List.drop_append_of_le_length h, List.any_append]
  simp
theorem dtake_lt (p : List UInt8) (hp : p.all isD = true) : dval (p.take 9) < 1000000000 := by
  have h1 : (p.take 9).all isD = true := List.all_eq_true.2 fun x hx => List.all_eq_true.1 hp x ((List.take_sublist 9 p).subset hx)
  have h2 := dval_lt h1
  have h3 : 10 ^ (p.take 9).length ≤ 10 ^ 9 := Nat.pow_le_pow_right (by decide) (by rw [List.length_take]; omega)
  omega
theorem l1_go (s : ByteArray) (hs : s.size ≤ 1000) (neg : Bool) (w : List UInt8) (n : Int) (over : Bool) (hw : WInv w n over) (A : List UInt8) :
    ∀ (r p : List UInt8) (k : Nat), s.data.toList = A ++ (p ++ r) → p.all isD = true → 2 * r.length + 25 ≤ k →
      ∃ x, stevedoreref4_Parse.l1 k s ((A ++ p).length : Int) neg n over ((dval (p.take 9) : Nat) : Int) ((min 9 p.length : Nat) : Int) (more9 p) = some (x, (if r.all isD then fin neg w (p ++ r) else (0, 2)).2) ∧ Is512 x (if r.all isD then fin neg w (p ++ r) else (0, 2)).1
  | [], p, k, hp, hd, hk => by
    obtain ⟨k, rfl⟩ : ∃ j, k = j + 1 := ⟨k - 1, by omega⟩
    have hz : s.size = (A ++ p).length := by rw [size_len, hp]; simp
    rw [stevedoreref4_Parse.l1, if_neg (by omega), List.all_nil, if_pos rfl, List.append_nil]
    exact j7_eq k neg w p n over hw hd (by simp at hk; omega)
  | c :: r, p, k, hp, hd, hk => by
    obtain ⟨k, rfl⟩ : ∃ j, k = j + 2 := ⟨k - 2, by simp at hk; omega⟩
    have hp2 : s.data.toList = (A ++ p) ++ c :: r := by rw [hp]; simp
    have hz : s.size = (A ++ p).length + (r.length + 1) := by rw [size_len, hp2, List.length_append, List.length_cons]
    have hb := bt_mid hp2
    have hlen : (A ++ p).length = A.length + p.length := List.length_append
    have hpe : s.data.toList = A ++ ((p ++ [c]) ++ r) := by rw [hp]; simp
    have hi1 : wrap64 (((A ++ p).length : Int) + 1) = ((A ++ (p ++ [c])).length : Int) := by rw [w64 (by omega)]; simp; omega
    rw [stevedoreref4_Parse.l1, if_pos (by omega), if_pos (by omega), hb, List.all_cons]
    by_cases hD : isD c = true
    · have hc := (isD_iff c).1 hD
      have hdt := dtake_lt p hd
      have hdn : (p ++ [c]).all isD = true := by rw [List.all_append, hd]; simp [hD]
      have ih := l1_go s hs neg w n over hw A r (p ++ [c]) k hpe hdn (by simp only [List.length_cons] at hk; omega)
      rw [if_neg (by omega), decide_eq_false (by omega), stevedoreref4_Parse.j6, if_neg (by decide), hD, Bool.true_and, hb, byte_sub hD, hi1]
      rw [show p ++ c :: r = (p ++ [c]) ++ r by simp]
      by_cases h9 : p.length < 9
      · rw [if_pos (by omega), if_pos (by omega), if_pos (by omega), w64 (n := ((dval (p.take 9) : Nat) : Int) * 10) (by omega), w64 (by omega), w64 (by omega)]
        rw [take_snoc p c h9, dval_snoc, drop_small (p ++ [c]) (by simp; omega)] at ih
        rw [drop_small p (by omega)]
        have e1 : ((dval (p.take 9) : Nat) : Int) * 10 + ((c.toNat - 48 : Nat) : Int) = ((dval (p.take 9) * 10 + (c.toNat - 48) : Nat) : Int) := by omega
        have e2 : ((min 9 p.length : Nat) : Int) + 1 = ((min 9 (p ++ [c]).length : Nat) : Int) := by simp only [List.length_append, List.length_cons, List.length_nil]; omega
        rw [e1, e2]
        exact ih
      · have e2 : ((min 9 p.length : Nat) : Int) = ((min 9 (p ++ [c]).length : Nat) : Int) := by simp only [List.length_append, List.length_cons, List.length_nil]; omega
        rw [take_same p c (by omega), more_snoc p c (by omega)] at ih
        rw [if_neg (by omega), e2]
        cases hm : more9 p with
        | true =>
          rw [hm, Bool.true_or] at ih
          rw [if_pos rfl]
          exact ih
        | false =>
          rw [hm, Bool.false_or] at ih
          rw [if_neg (by decide), if_pos (by omega), if_pos (by omega)]
          have e3 : ((c.toNat : Int) != 48) = (c != 48) := by
            by_cases h : c = 48
            · subst h; rfl
            · rw [bne_iff_ne.2 h, bne_iff_ne]
              intro e
              exact h (UInt8.toNat_inj.1 (show c.toNat = (48 : UInt8).toNat by show _ = 48; omega))
          rw [e3]
          exact ih
    · have hf : isD c = false := by simpa using hD
      have hd' : ¬ (48 ≤ c.toNat ∧ c.toNat ≤ 57) := fun h => hD ((isD_iff c).2 h)
      have bad : ∃ x, stevedoreref4_Parse.j6 (k + 1) s ((A ++ p).length : Int) neg n over ((dval (p.take 9) : Nat) : Int) ((min 9 p.length : Nat) : Int) (more9 p) true = some (x, 2) ∧ Is512 x 0 := ⟨0, by rw [stevedoreref4_Parse.j6, if_pos rfl], zero512⟩
      simp only [hf, Bool.false_and, Bool.false_eq_true, if_false]
      by_cases h48 : (c.toNat : Int) < 48
      · rw [if_pos h48]; exact bad
      · rw [if_neg h48, decide_eq_true (by omega)]; exact bad

/-- what follows the first digits. -/
def endS (neg : Bool) (w : List UInt8) : List UInt8 → Int × Int
  | [] => if w = [] then (0, 2) else fin neg w []
  | c :: p => if w ≠ [] ∧ c = 46 ∧ p ≠ [] ∧ p.all isD = true then fin neg w p else (0, 2)
theorem endS_cons (neg : Bool) (w : List UInt8) (c : UInt8) (p : List UInt8) : endS neg w (c :: p) = if w ≠ [] ∧ c = 46 ∧ p ≠ [] ∧ p.all isD = true then fin neg w p else (0, 2) := rfl
theorem endS_nil (neg : Bool) (w : List UInt8) : endS neg w [] = if w = [] then (0, 2) else fin neg w [] := rfl
theorem j3_end (s : ByteArray) (hs : s.size ≤ 1000) (neg : Bool) (A w q : List UInt8) (n : Int) (over : Bool) (hw : WInv w n over) (k : Nat) (hp : s.data.toList = A ++ (w ++ q)) (hk : 2 * q.length + 30 ≤ k) :
    ∃ x, stevedoreref4_Parse.j3 k s ((A ++ w).length : Int) neg n (A.length : Int) over false = some (x, (endS neg w q).2) ∧ Is512 x (endS neg w q).1 := by
  obtain ⟨k, rfl⟩ : ∃ j, k = j + 1 := ⟨k - 1, by omega⟩
  have hlen : (A ++ w).length = A.length + w.length := List.length_append
  have hz : s.size = (A ++ w).length + q.length := by rw [size_len, hp]; simp; omega
  rw [stevedoreref4_Parse.j3, if_neg (by decide)]
  by_cases hwe : w = []
  · subst hwe
    have e : endS neg [] q = (0, 2) := by cases q <;> simp [endS]
    rw [if_pos (by simp), e]
    exact ⟨0, rfl, zero512⟩
  · have hwl : 0 < w.length := List.length_pos_iff.2 hwe
    rw [if_neg (by omega)]
    cases q with
    | nil =>
      simp only [List.length_nil] at hz
      rw [if_neg (by omega), show endS neg w [] = fin neg w [] from if_neg hwe]
      have := j7_eq k neg w [] n over hw rfl (by omega)
      exact this
    | cons c p =>
      have hp2 : s.data.toList = (A ++ w) ++ c :: p := by rw [hp]; simp
      have hb := bt_mid hp2
      simp only [List.length_cons] at hz hk
      have bad : ∃ x, stevedoreref4_Parse.j4 k s ((A ++ w).length : Int) neg n over 0 0 false true = some (x, 2) ∧ Is512 x 0 := by
        obtain ⟨k, rfl⟩ : ∃ j, k = j + 1 := ⟨k - 1, by omega⟩
        exact ⟨0, by rw [stevedoreref4_Parse.j4, if_pos rfl], zero512⟩
      rw [if_pos (by omega), if_pos (by omega), hb, w64 (n := ((A ++ w).length : Int) + 1) (by omega)]
      rw [endS_cons]
      by_cases hc : c = 46
      · subst hc
        rw [if_pos (by decide)]
        by_cases hpe : p = []
        · subst hpe
          rw [decide_eq_true (by simp only [List.length_nil] at hz; omega), if_neg (by simp)]
          exact bad
        · have hpl : 0 < p.length := List.length_pos_iff.2 hpe
          obtain ⟨k, rfl⟩ : ∃ j, k = j + 1 := ⟨k - 1, by omega⟩
          rw [decide_eq_false (by omega), stevedoreref4_Parse.j4, if_neg (by decide), w64 (n := ((A ++ w).length : Int) + 1) (by omega)]
          have h := l1_go s hs neg w n over hw (A ++ w ++ [46]) p [] k (by rw [hp]; simp) rfl (by omega)
          have e : ((A ++ w ++ [46] ++ []).length : Int) = ((A ++ w).length : Int) + 1 := by simp only [List.length_append, List.length_cons, List.length_nil]; omega
          rw [e] at h
          by_cases ha : p.all isD = true
          · rw [if_pos ⟨hwe, rfl, hpe, ha⟩]
            rw [if_pos ha] at h
            exact h
          · rw [if_neg (fun x => ha x.2.2.2)]
            rw [if_neg ha] at h
            exact h
      · have hc' : ¬ ((c.toNat : Int) = 46) := fun e => hc (UInt8.toNat_inj.1 (show c.toNat = (46 : UInt8).toNat by show _ = 46; omega))
        rw [if_neg hc', if_neg (fun x => hc x.2.1)]
        exact bad
theorem l0_go (s : ByteArray) (hs : s.size ≤ 1000) (neg : Bool) (A : List UInt8) :
    ∀ (r w : List UInt8) (n : Int) (over : Bool) (k : Nat), WInv w n over → s.data.toList = A ++ (w ++ r) → w.all isD = true → 2 * r.length + 35 ≤ k →
      ∃ x, stevedoreref4_Parse.l0 k s ((A ++ w).length : Int) neg n (A.length : Int) over = some (x, (endS neg (w ++ r.takeWhile isD) (r.dropWhile isD)).2) ∧ Is512 x (endS neg (w ++ r.takeWhile isD) (r.dropWhile isD)).1
  | [], w, n, over, k, hw, hp, hd, hk => by
    obtain ⟨k, rfl⟩ : ∃ j, k = j + 1 := ⟨k - 1, by omega⟩
    have hz : s.size = (A ++ w).length := by rw [size_len, hp]; simp
    rw [stevedoreref4_Parse.l0, if_neg (by omega), List.takeWhile_nil, List.dropWhile_nil, List.append_nil]
    exact j3_end s hs neg A w [] n over hw k hp (by simp at hk ⊢; omega)
  | c :: r, w, n, over, k, hw, hp, hd, hk => by
    simp only [List.length_cons] at hk
    obtain ⟨k, rfl⟩ : ∃ j, k = j + 2 := ⟨k - 2, by omega⟩
    have hp2 : s.data.toList = (A ++ w) ++ c :: r := by rw [hp]; simp
    have hz : s.size = (A ++ w).length + (r.length + 1) := by rw [size_len, hp2, List.length_append, List.length_cons]
    have hb := bt_mid hp2
    have hlen : (A ++ w).length = A.length + w.length := List.length_append
    rw [stevedoreref4_Parse.l0, if_pos (by omega), if_pos (by omega), hb]
    by_cases hD : isD c = true
    · have hc := (isD_iff c).1 hD
      have hpe : s.data.toList = A ++ ((w ++ [c]) ++ r) := by rw [hp]; simp
      have hi1 : wrap64 (((A ++ w).length : Int) + 1) = ((A ++ (w ++ [c])).length : Int) := by rw [w64 (by omega)]; simp; omega
      have hdn : (w ++ [c]).all isD = true := by rw [List.all_append, hd]; simp [hD]
      have hsn := dval_snoc w c
      rw [if_pos (by omega), decide_eq_true (by omega), stevedoreref4_Parse.j3, if_pos rfl, List.takeWhile_cons, List.dropWhile_cons, if_pos hD, if_pos hD, hi1, show w ++ c :: r.takeWhile isD = (w ++ [c]) ++ r.takeWhile isD by simp]
      cases over with
      | true =>
        have := hw.2 rfl
        rw [if_pos rfl]
        exact l0_go s hs neg A r (w ++ [c]) n true k ⟨fun h => (by cases h), fun _ => (by omega)⟩ hpe hdn (by omega)
      | false =>
        obtain ⟨hn, hn2⟩ := hw.1 rfl
        rw [if_neg (by decide), if_pos (by omega), if_pos (by omega), hb, byte_sub hD, w64 (n := n * 10) (by omega), w64 (by omega)]
        have e1 : n * 10 + ((c.toNat - 48 : Nat) : Int) = (dval (w ++ [c]) : Int) := by omega
        rw [e1]
        refine l0_go s hs neg A r (w ++ [c]) _ _ k ⟨fun h => ⟨rfl, ?_⟩, fun h => ?_⟩ hpe hdn (by omega)
        · have := of_decide_eq_false h; omega
        · have := of_decide_eq_true h; omega
    · have hf : isD c = false := by simpa using hD
      have hd' : ¬ (48 ≤ c.toNat ∧ c.toNat ≤ 57) := fun h => hD ((isD_iff c).2 h)
      rw [List.takeWhile_cons, List.dropWhile_cons, if_neg hD, if_neg hD, List.append_nil]
      have h := j3_end s hs neg A w (c :: r) n over hw (k + 1) hp (by simp only [List.length_cons]; omega)
      by_cases h48 : (c.toNat : Int) ≥ 48
      · rw [if_pos h48, decide_eq_false (by omega)]; exact h
      · rw [if_neg h48]; exact h

/-! ### the two ways to say it -/
theorem isD_46 {c : UInt8} (h : isD c = true) : (c != 46) = true := by
  rw [bne_iff_ne]
  rintro rfl
  exact absurd h (by decide)
theorem take_until (w q : List UInt8) (hw : w.all isD = true) : head (w ++ q) = w ++ head q ∧ rest (w ++ q) = rest q := by
  induction w with
  | nil => exact ⟨rfl, rfl⟩
  | cons c w ih =>
    rw [List.all_cons, Bool.and_eq_true] at hw
    obtain ⟨h1, h2⟩ := ih hw.2
    unfold head rest at *
    rw [List.cons_append, List.takeWhile_cons, List.dropWhile_cons, if_pos (isD_46 hw.1), if_pos (isD_46 hw.1), h1, h2]
    exact ⟨rfl, rfl⟩
theorem endS_eq (neg : Bool) (b : List UInt8) : endS neg (b.takeWhile isD) (b.dropWhile isD) = parseB neg b := by
  have hb : b.takeWhile isD ++ b.dropWhile isD = b := List.takeWhile_append_dropWhile
  have hw : (b.takeWhile isD).all isD = true := List.all_takeWhile
  obtain ⟨h1, h2⟩ := take_until (b.takeWhile isD) (b.dropWhile isD) hw
  rw [hb] at h1 h2
  unfold parseB okForm
  rw [h1, h2]
  have hq : ∀ c p, b.dropWhile isD = c :: p → isD c = false := fun c p h => by
    have := List.head_dropWhile_not (p := isD) (l := b) (by rw [h]; simp)
    simp only [h, List.head_cons] at this
    exact this
  generalize b.takeWhile isD = w at *
  generalize b.dropWhile isD = q at *
  cases q with
  | nil =>
    have e1 : head [] = [] := rfl
    have e2 : rest [] = [] := rfl
    rw [e1, e2, List.append_nil, hw, endS_nil]
    by_cases h : w = []
    · subst h; rfl
    · have : (w != []) = true := by simpa using h
      rw [if_neg h, this]
      rfl
  | cons c p =>
    have hc := hq c p rfl
    rw [endS_cons]
    by_cases h46 : c = 46
    · subst h46
      have e1 : head (46 :: p) = [] := rfl
      have e2 : rest (46 :: p) = 46 :: p := rfl
      rw [e1, e2, List.append_nil, hw, List.drop_one, List.tail_cons]
      by_cases h : w = []
      · subst h
        rw [if_neg (by simp)]
        rfl
      · have hne : (w != []) = true := by simpa using h
        rw [hne]
        by_cases hp : p = []
        · subst hp
          rw [if_neg (by simp)]
          rfl
        · have hpe : (p != []) = true := by simpa using hp
          rw [hpe]
          by_cases ha : p.all isD = true
          · rw [if_pos ⟨h, rfl, hp, ha⟩, ha]
            rfl
          · have hf : p.all isD = false := by simpa using ha
            rw [if_neg (fun x => ha x.2.2.2), hf]
            rfl
    · have e1 : head (c :: p) = c :: head p := by
        unfold head
        rw [List.takeWhile_cons, if_pos (bne_iff_ne.2 h46)]
      rw [if_neg (fun x => h46 x.2.1), e1]
      have : (w ++ c :: head p).all isD = false := by
        rw [List.all_append, List.all_cons, hc]
        simp
      rw [this, Bool.false_and, Bool.false_and, if_neg (by decide)]
theorem refParse_eq (k : Nat) (l : List UInt8) (hl : l.length ≤ 1000) (hk : 2 * l.length + 40 ≤ k) : ∃ r, stevedoreref4_Parse.f k (strOf l) = some (r, (parseL l).2) ∧ Is512 r (parseL l).1 := by
  obtain ⟨k, rfl⟩ : ∃ j, k = j + 2 := ⟨k - 2, by omega⟩
  have w0 : WInv [] 0 false := ⟨fun _ => ⟨rfl, by decide⟩, fun h => by cases h⟩
  have hsz := strOf_size l
  unfold stevedoreref4_Parse.f
  rw [hsz]
  cases l with
  | nil =>
    rw [if_neg (by simp), stevedoreref4_Parse.j0, if_neg (by decide), stevedoreref4_Parse.j1]
    have h := l0_go (strOf []) (by rw [hsz]; simp) false [] [] [] 0 false k w0 (strOf_list _) rfl (by simp; omega)
    simp only [List.nil_append, endS_eq] at h
    exact h
  | cons c t =>
    simp only [List.length_cons] at hl hk hsz ⊢
    have hb : bt (strOf (c :: t)) 0 = (c.toNat : Int) := bt_mid (p := []) (strOf_list (c :: t))
    rw [if_pos (by omega), hb]
    unfold parseL
    dsimp only
    by_cases h45 : c = 45
    · subst h45
      have e : (((45 : UInt8).toNat : Int) == 45) = true := rfl
      rw [e, stevedoreref4_Parse.j0, if_pos rfl, if_pos rfl, stevedoreref4_Parse.j1, w64 (by omega)]
      have h := l0_go (strOf (45 :: t)) (by rw [hsz]; omega) true [45] t [] 0 false k w0 (strOf_list _) rfl (by omega)
      simp only [List.nil_append, endS_eq] at h
      exact h
    · have e : ((c.toNat : Int) == 45) = false := by
        rw [beq_eq_false_iff_ne]
        intro e
        exact h45 (UInt8.toNat_inj.1 (show c.toNat = (45 : UInt8).toNat by show _ = 45; omega))
      rw [e, stevedoreref4_Parse.j0, if_neg (by decide), if_neg h45, stevedoreref4_Parse.j1]
      have h := l0_go (strOf (c :: t)) (by rw [hsz]; omega) false [] (c :: t) [] 0 false k w0 (strOf_list _) rfl (by simp only [List.length_cons]; omega)
      simp only [List.nil_append, endS_eq] at h
      exact h
end Go.Proofs.YtfmfikodnpnblaaDoor.ClkRefParse

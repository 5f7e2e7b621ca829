/- ClockParses, plainly: what more digits, noughts and a sign do to a time. -/
import Derived.Test.YtfmfikodnpnblaaDoorPClockParsesx
import Derived.Test.YtfmfikodnpnblaaDoorClkPlain
set_option linter.unusedVariables false
set_option linter.unusedSimpArgs false
namespace Go.Proofs.YtfmfikodnpnblaaDoor.PureClockParses
open Go.RowKit Go.Proofs Go.Proofs.YtfmfikodnpnblaaDoorW.PrintWords Go.Proofs.YtfmfikodnpnblaaDoor.PClockParses Go.Proofs.YtfmfikodnpnblaaDoor.PClk1 Go.Proofs.YtfmfikodnpnblaaDoor.PClkM Go.Proofs.YtfmfikodnpnblaaDoor.ClkTold Go.Proofs.YtfmfikodnpnblaaDoor.ClkLib Go.Proofs.YtfmfikodnpnblaaDoor.ClkDays Go.Proofs.YtfmfikodnpnblaaDoor.ClkFloat Go.Proofs.YtfmfikodnpnblaaDoor.ClkText Go.Proofs.YtfmfikodnpnblaaDoor.ClkParse Go.Proofs.YtfmfikodnpnblaaDoor.Flt Go.Proofs.YtfmfikodnpnblaaDoor.FltClk Go.Proofs.YtfmfikodnpnblaaDoor.FltAdd Go.Proofs.YtfmfikodnpnblaaDoor.FltNeg
open Go.Proofs.YtfmfikodnpnblaaDoor.PaxSem (isD dval isD_iff dval_snoc decDigits_dval decDigits_all decDigits_ne dg_toNat)
open Go.Lib (decDigits)

/-! ### the law's digits -/
theorem piece {d : Nat} (h : d < 10) : (⟨#[48, 49, 50, 51, 52, 53, 54, 55, 56, 57]⟩ : ByteArray).extract d (d + 1) = strOf [UInt8.ofNat (48 + d)] := by
  have : (List.range 10).all (fun d => ((⟨#[48, 49, 50, 51, 52, 53, 54, 55, 56, 57]⟩ : ByteArray).extract d (d + 1)).data == (strOf [UInt8.ofNat (48 + d)]).data) = true := by decide +kernel
  exact ByteArray.ext (eq_of_beq (List.all_eq_true.1 this d (List.mem_range.2 h)))
theorem digits_go : ∀ (k u : Nat) (acc : List UInt8), u < 10 ^ k → u < 9000000000000000000 → acc.length + k ≤ 1000 → stevedorelaw4_digits.l0 (k + 1) (u : Int) (strOf acc) = some (strOf (decDigits u ++ acc))
  | 0, u, acc, hu, _, hl => by
    have : u = 0 := by simpa using hu
    subst this
    have hp := piece (d := 0) (by omega)
    rw [stevedorelaw4_digits.l0, if_neg (by decide), if_pos (by decide), w64 (by omega), if_pos (by decide), if_pos (by decide)]
    have e : (((0 : Nat) : Int)).toNat = 0 := rfl
    have e2 : (((0 : Nat) : Int) + 1).toNat = 0 + 1 := rfl
    rw [e, e2, hp, strOf_size, strOf_size, if_pos (by simp only [List.length_cons, List.length_nil]; omega), strOf_append, Lib.decDigits, dif_pos (by omega)]
  | k + 1, u, acc, hu, hb, hl => by
    rw [stevedorelaw4_digits.l0]
    by_cases h : u < 10
    · have hp := piece h
      have e : ((u : Nat) : Int).toNat = u := by omega
      have e2 : ((u : Nat) : Int) + 1 = ((u + 1 : Nat) : Int) := by omega
      rw [if_neg (by omega), if_pos (by omega), w64 (by omega), if_pos (by omega), if_pos (by omega), e, e2, Int.toNat_natCast, hp, strOf_size, strOf_size, if_pos (by simp only [List.length_cons, List.length_nil]; omega), strOf_append, Lib.decDigits, dif_pos h]
    · have hd : u % 10 < 10 := Nat.mod_lt _ (by decide)
      have hp := piece hd
      have e1 : Int.tmod (u : Int) 10 = ((u % 10 : Nat) : Int) := by rw [tmod_pos (by omega)]; omega
      have e2 : wrap64 (((u % 10 : Nat) : Int) + 1) = ((u % 10 + 1 : Nat) : Int) := by rw [w64 (by omega)]; omega
      have e3 : wrap64 (Int.tdiv (u : Int) 10) = ((u / 10 : Nat) : Int) := by rw [tdiv_pos (by omega), w64 (by omega)]; omega
      rw [if_pos (by omega), e1, e2, e3, if_pos (by omega), if_pos (by omega), if_pos (by omega), Int.toNat_natCast, Int.toNat_natCast, hp, strOf_size, strOf_size, if_pos (by simp only [List.length_cons, List.length_nil]; omega), strOf_append]
      rw [digits_go k (u / 10) _ (by rw [Nat.pow_succ] at hu; omega) (by omega) (by simp only [List.length_append, List.length_cons, List.length_nil]; omega)]
      conv => rhs; rw [Lib.decDigits, dif_neg h]
      simp
theorem digits_is (k u : Nat) (hk : 21 ≤ k) (hk2 : k ≤ 900) (hu : u < 9000000000000000000) : stevedorelaw4_digits.f k (u : Int) = some (strOf (decDigits u)) := by
  obtain ⟨k, rfl⟩ : ∃ j, k = j + 1 := ⟨k - 1, by omega⟩
  unfold stevedorelaw4_digits.f
  have h10 : 10 ^ 20 ≤ 10 ^ k := Nat.pow_le_pow_right (by decide) (by omega)
  have := digits_go k u [] (by omega) hu (by simp; omega)
  rw [List.append_nil] at this
  exact this

/-! ### forms -/
theorem isD_46 {c : UInt8} (h : isD c = true) : (c != 46) = true := by
  rw [bne_iff_ne]
  rintro rfl
  exact absurd h (by decide)
theorem take_until (w q : List UInt8) (hw : w.all isD = true) : head (w ++ q) = w ++ head q ∧ rest (w ++ q) = rest q := by
  induction w with
  | nil => exact ⟨rfl, rfl⟩
  | cons c w ih =>
    rw [List.all_cons, Bool.and_eq_true] at hw
    obtain ⟨h1, h2⟩ := ih hw.2
    unfold head rest at *
    rw [List.cons_append, List.takeWhile_cons, List.dropWhile_cons, if_pos (isD_46 hw.1), if_pos (isD_46 hw.1), h1, h2]
    exact ⟨rfl, rfl⟩
theorem form_bare (neg : Bool) (w : List UInt8) (hw : w.all isD = true) (hn : w ≠ []) : parseB neg w = fin neg w [] := by
  obtain ⟨h1, h2⟩ := take_until w [] hw
  have e1 : head [] = [] := rfl
  have e2 : rest [] = [] := rfl
  rw [e1, List.append_nil] at h1
  rw [e2, List.append_nil] at h2
  have hne : (w != []) = true := by simpa using hn
  unfold parseB okForm
  rw [h1, h2, hw, hne, if_pos (by rfl)]
  rfl
theorem form_point (neg : Bool) (w p : List UInt8) (hw : w.all isD = true) (hn : w ≠ []) (hp : p.all isD = true) (hpn : p ≠ []) : parseB neg (w ++ 46 :: p) = fin neg w p := by
  obtain ⟨h1, h2⟩ := take_until w (46 :: p) hw
  have e1 : head (46 :: p) = [] := rfl
  have e2 : rest (46 :: p) = 46 :: p := rfl
  rw [e1, List.append_nil] at h1
  rw [e2] at h2
  have hne : (w != []) = true := by simpa using hn
  have hpe : (p != []) = true := by simpa using hpn
  unfold parseB okForm
  rw [h1, h2, hw, hne, List.drop_one, List.tail_cons, hp, hpe, if_pos (by rfl)]
theorem parse_digit (w q : List UInt8) (hw : w.all isD = true) (hn : w ≠ []) : parseL (w ++ q) = parseB false (w ++ q) := by
  cases w with
  | nil => exact absurd rfl hn
  | cons c t =>
    rw [List.all_cons, Bool.and_eq_true] at hw
    have hc := (isD_iff c).1 hw.1
    show (if c = 45 then parseB true (t ++ q) else parseB false (c :: (t ++ q))) = _
    rw [if_neg]
    · rfl
    · rintro rfl
      exact absurd hc.1 (by decide)
theorem parse_minus (b : List UInt8) : parseL (45 :: b) = parseB true b := by
  show (if (45 : UInt8) = 45 then parseB true b else parseB false (45 :: b)) = _
  rw [if_pos rfl]

/-! ### digits behind the point -/
def Y (K : Nat) (p : List UInt8) : Nat := K * 512 + 512 * dval p / 10 ^ p.length
theorem fin_false (w p : List UInt8) (hw : dval w ≤ 1000000000) : fin false w p = ((Y (dval w) p : Int), 0) := by
  unfold fin
  rw [if_neg (by omega)]
  rfl
theorem fin_true (w p : List UInt8) (hw : dval w ≤ 1000000000) : ∃ e : Nat, e ≤ 1 ∧ fin true w p = (-((Y (dval w) p + e : Nat) : Int), 0) := by
  unfold fin
  rw [if_neg (by omega)]
  by_cases h : 512 * dval p % 10 ^ p.length ≠ 0
  · refine ⟨1, by omega, ?_⟩
    rw [if_pos rfl, if_pos h]
    rfl
  · refine ⟨0, by omega, ?_⟩
    rw [if_pos rfl, if_neg h]
    rfl
theorem Y_snoc (K : Nat) (p : List UInt8) (c : UInt8) : Y K p ≤ Y K (p ++ [c]) := by
  unfold Y
  rw [dval_snoc, List.length_append, List.length_cons, List.length_nil, Nat.pow_succ]
  have h1 : 512 * dval p / 10 ^ p.length = 512 * dval p * 10 / (10 ^ p.length * 10) := (Nat.mul_div_mul_right _ _ (by decide)).symm
  have h2 : 512 * dval p * 10 / (10 ^ p.length * 10) ≤ 512 * (dval p * 10 + (c.toNat - 48)) / (10 ^ p.length * 10) := Nat.div_le_div_right (by omega)
  omega
theorem Y_nil (K : Nat) : Y K [] = K * 512 := by unfold Y; simp [dval]
theorem Y_lt (K : Nat) (p : List UInt8) (hp : p.all isD = true) : Y K p < K * 512 + 512 := by
  have := frac_lt hp
  unfold Y
  omega
theorem dval_zeros (p : List UInt8) : dval (p ++ [48, 48, 48]) = dval p * 1000 := by
  rw [show p ++ [48, 48, 48] = p ++ [48] ++ [48] ++ [48] by simp, dval_snoc, dval_snoc, dval_snoc]
  have : (48 : UInt8).toNat - 48 = 0 := rfl
  omega
theorem Y_zeros (K : Nat) (p : List UInt8) : Y K (p ++ [48, 48, 48]) = Y K p := by
  unfold Y
  rw [dval_zeros, List.length_append, show [(48 : UInt8), 48, 48].length = 3 from rfl, Nat.pow_add, ← Nat.mul_assoc, Nat.mul_div_mul_right _ _ (by decide)]
theorem key_part : key 4566650022153682944 = some (1 * V) := by
  obtain ⟨r, h1, h2, h3⟩ := int512 1 (by decide)
  have : r = 4566650022153682944 := by rw [← h2]; decide +kernel
  rw [← this]
  exact h3.1
theorem key_one' : key 4607182418800017408 = some (512 * V) := by
  have hUV : U = 512 * V := by rw [U_V, Int.mul_comm]
  exact hUV ▸ key_one
theorem loop (x1 : List Int) (K : Nat) (hK : K ≤ 1000000000) (x : Nat) (hx : Is512 x ((K * 512 : Nat) : Int)) :
    ∀ (j : Nat) (p : List UInt8) (last k : Nat), 12 - p.length = j → p.length ≤ 12 → p.all isD = true → Is512 last ((Y K p : Nat) : Int) → 2 * j + 200 ≤ k → k ≤ 800 →
      stevedorelaw4_ClockParses.l0 k x1 (strOf (decDigits K ++ 46 :: p)) x last (p.length : Int) = some true := by
  have hw := decDigits_all K
  have hn := decDigits_ne K
  have hv := decDigits_dval K
  have hlen := dec_len (u := K) (by omega)
  have hV := V_pos
  intro j
  induction j with
  | zero =>
    intro p last k hj hp hpd hl hk hk2
    obtain ⟨k, rfl⟩ : ∃ i, k = i + 2 := ⟨k - 2, by omega⟩
    rw [stevedorelaw4_ClockParses.l0]
    split
    · rw [decide_eq_false (by omega), stevedorelaw4_ClockParses.j2, if_neg (by decide)]; rfl
    · rw [stevedorelaw4_ClockParses.j2, if_neg (by decide)]; rfl
  | succ j ih =>
    intro p last k hj hp hpd hl hk hk2
    obtain ⟨k, rfl⟩ : ∃ i, k = i + 2 := ⟨k - 2, by omega⟩
    rw [stevedorelaw4_ClockParses.l0]
    by_cases hi : (p.length : Int) < (x1.length : Int)
    · rw [if_pos hi, decide_eq_true (by omega), stevedorelaw4_ClockParses.j2, if_pos rfl, if_pos (by omega), if_pos hi]
      obtain ⟨d, hd, hd10⟩ : ∃ d : Nat, wrap64 (Int.tmod (IntKind.u64.wrap (rd x1 (p.length : Int))) 10) = (d : Int) ∧ d < 10 := by
        have hu : ∀ a : Int, 0 ≤ IntKind.u64.wrap a := fun a => by
          have : IntKind.u64.wrap a = a % 18446744073709551616 := rfl
          omega
        have h := hu (rd x1 (p.length : Int))
        refine ⟨(IntKind.u64.wrap (rd x1 (p.length : Int)) % 10).toNat, ?_, by omega⟩
        rw [tmod_pos h, w64 (by omega)]
        omega
      rw [hd, digits_is k d (by omega) (by omega) (by omega), Option.bind_some, Lib.decDigits_one hd10]
      obtain ⟨c, hc⟩ : ∃ c, UInt8.ofNat (48 + d) = c := ⟨_, rfl⟩
      have hcD : isD c = true := by rw [isD_iff, ← hc, dg_toNat d hd10]; omega
      rw [hc, strOf_size, strOf_size, strOf_append]
      have e1 : decDigits K ++ 46 :: p ++ [c] = decDigits K ++ 46 :: (p ++ [c]) := by simp
      have hpd' : (p ++ [c]).all isD = true := by rw [List.all_append, hpd]; simp [hcD]
      have hpn' : p ++ [c] ≠ [] := by simp
      have hpz : (p ++ [c] ++ [48, 48, 48]).all isD = true := by rw [List.all_append, hpd']; rfl
      have hpl : (p ++ [c]).length = p.length + 1 := by simp
      have g1 : 12 - (p ++ [c]).length = j := by rw [hpl]; omega
      have g2 : (p ++ [c]).length ≤ 12 := by rw [hpl]; omega
      have g3 : 2 * j + 200 ≤ k := by omega
      have g4 : k ≤ 800 := by omega
      rw [e1]
      have hsl : (decDigits K ++ 46 :: (p ++ [c])).length ≤ 40 := by simp only [List.length_append, List.length_cons, List.length_nil]; omega
      have e2 : strOf (decDigits K ++ 46 :: (p ++ [c])) ++ (⟨#[48, 48, 48]⟩ : ByteArray) = strOf (decDigits K ++ 46 :: (p ++ [c] ++ [48, 48, 48])) := by
        rw [show (⟨#[48, 48, 48]⟩ : ByteArray) = strOf [48, 48, 48] from rfl, strOf_append]; simp
      have e3 : (⟨#[45]⟩ : ByteArray) ++ strOf (decDigits K ++ 46 :: (p ++ [c])) = strOf (45 :: (decDigits K ++ 46 :: (p ++ [c]))) := by
        rw [show (⟨#[45]⟩ : ByteArray) = strOf [45] from rfl, strOf_append]; simp
      have hzl : (decDigits K ++ 46 :: (p ++ [c] ++ [48, 48, 48])).length ≤ 50 := by simp only [List.length_append, List.length_cons, List.length_nil]; omega
      obtain ⟨y, hy, hy1⟩ := Parse_eq k (decDigits K ++ 46 :: (p ++ [c])) (by omega) (by omega)
      obtain ⟨z, hz, hz1⟩ := Parse_eq k (decDigits K ++ 46 :: (p ++ [c] ++ [48, 48, 48])) (by omega) (by omega)
      obtain ⟨u, hu, hu1⟩ := Parse_eq k (45 :: (decDigits K ++ 46 :: (p ++ [c]))) (by simp only [List.length_cons]; omega) (by simp only [List.length_cons]; omega)
      rw [parse_digit _ _ hw hn, form_point false _ _ hw hn hpd' hpn', fin_false _ _ (by omega), hv] at hy hy1
      rw [parse_digit _ _ hw hn, form_point false _ _ hw hn hpz (by simp), fin_false _ _ (by omega), hv, Y_zeros] at hz hz1
      obtain ⟨e, he, hfe⟩ := fin_true (decDigits K) (p ++ [c]) (by omega)
      rw [parse_minus, form_point true _ _ hw hn hpd' hpn', hfe, hv] at hu hu1
      have hYb := Y_lt K (p ++ [c]) hpd'
      have hYm := Y_snoc K p c
      dsimp only at hy hy1 hz hz1 hu hu1
      have mono : ∀ {a b : Int}, a ≤ b → a * V ≤ b * V := fun h => Int.mul_le_mul_of_nonneg_right h (by omega)
      have strict : ∀ {a b : Int}, a < b → a * V < b * V := fun h => Int.mul_lt_mul_of_pos_right h hV
      rw [if_pos (by simp only [List.length_append, List.length_cons, List.length_nil]; omega), hy, Option.bind_some]
      rw [strOf_size, if_pos (by omega), e2, hz, Option.bind_some, if_pos (by omega), e3, hu, Option.bind_some]
      dsimp only
      rw [if_pos rfl, if_pos rfl, if_pos rfl]
      generalize hYY : Y K (p ++ [c]) = YY at *
      have c1 := mono (a := ((Y K p : Nat) : Int)) (b := (YY : Int)) (by omega)
      rw [ord_lt hy1.1 hl.1, if_neg (by rw [decide_eq_false (by omega)]; decide)]
      obtain ⟨a, ha, hak⟩ := add_parts hx.1 key_one' (by omega) (by omega)
      have ha' := fop_of (op := .add) ha
      have c2 := strict (a := (YY : Int)) (b := ((K * 512 : Nat) : Int) + 512) (by omega)
      rw [if_pos ha'.1, ha'.2, ord_ge hy1.1 hak, if_neg (by rw [decide_eq_false (by omega)]; decide)]
      rw [ord_ne hz1.1 hy1.1, if_neg (by simp)]
      have hny := key_neg hy1.1
      have hny' : key (fneg y) = some ((-(YY : Int)) * V) := by rw [hny, Int.neg_mul]
      have c3 := mono (a := -((YY + e : Nat) : Int)) (b := -(YY : Int)) (by omega)
      rw [ord_gt hu1.1 hny', if_neg (by rw [decide_eq_false (by omega)]; decide)]
      obtain ⟨b, hb, hbk⟩ := sub_parts hny' key_part (by omega) (by omega)
      have hb' := fop_of (op := .sub) hb
      have c4 := mono (a := -(YY : Int) - 1) (b := -((YY + e : Nat) : Int)) (by omega)
      rw [if_pos hb'.1, hb'.2, ord_lt hu1.1 hbk, if_neg (by rw [decide_eq_false (by omega)]; decide)]
      have ei : wrap64 ((p.length : Int) + 1) = ((p ++ [c]).length : Int) := by rw [w64 (by omega), hpl]; omega
      rw [ei]
      exact ih (p ++ [c]) y k g1 g2 hpd' (by rw [hYY]; exact hy1) g3 g4
    · rw [if_neg hi, stevedorelaw4_ClockParses.j2, if_neg (by decide)]; rfl
theorem ClockParses (a0 : Int) (l1 : List Int) : ∃ k, stevedorelaw4_ClockParses.f k a0 l1 = some true := by
  refine ⟨500, ?_⟩
  have hu : ∀ a : Int, 0 ≤ IntKind.u64.wrap a := fun a => by
    have : IntKind.u64.wrap a = a % 18446744073709551616 := rfl
    omega
  obtain ⟨K, hK, hKb⟩ : ∃ K : Nat, wrap64 (Int.tmod (IntKind.u64.wrap a0) 1000000001) = (K : Int) ∧ K ≤ 1000000000 := by
    have h := hu a0
    refine ⟨(IntKind.u64.wrap a0 % 1000000001).toNat, ?_, by omega⟩
    rw [tmod_pos h, w64 (by omega)]
    omega
  have hw := decDigits_all K
  have hn := decDigits_ne K
  have hv := decDigits_dval K
  have hlen := dec_len (u := K) (by omega)
  unfold stevedorelaw4_ClockParses.f
  rw [hK, digits_is 500 K (by omega) (by omega) (by omega), Option.bind_some]
  obtain ⟨x, hx, hx1⟩ := Parse_eq 500 (decDigits K) (by omega) (by omega)
  have hpd := parse_digit (decDigits K) [] hw hn
  rw [List.append_nil] at hpd
  rw [hpd, form_bare false _ hw hn, fin_false _ _ (by omega), hv, Y_nil] at hx hx1
  dsimp only at hx hx1
  rw [hx, Option.bind_some, if_pos rfl]
  have hk : key (floatOfInt .f64 (K : Int)) = some (((K * 512 : Nat) : Int) * V) := by
    rw [key_ofInt _ (by omega), U_V, show ((K * 512 : Nat) : Int) = (K : Int) * 512 by omega, Int.mul_comm V, Int.mul_assoc]
  rw [ord_ne hx1.1 hk]
  have hf : decide (((K * 512 : Nat) : Int) * V ≠ ((K * 512 : Nat) : Int) * V) = false := by simp
  dsimp only
  rw [hf, stevedorelaw4_ClockParses.j0, if_neg (by decide), strOf_size, if_pos (by omega)]
  have e : strOf (decDigits K) ++ (⟨#[46]⟩ : ByteArray) = strOf (decDigits K ++ 46 :: []) := by
    rw [show (⟨#[46]⟩ : ByteArray) = strOf [46] from rfl, strOf_append]
  rw [e]
  exact loop l1 K hKb x hx1 12 [] x 499 rfl (by simp) rfl (by rw [Y_nil]; exact hx1) (by omega) (by omega)
end Go.Proofs.YtfmfikodnpnblaaDoor.PureClockParses

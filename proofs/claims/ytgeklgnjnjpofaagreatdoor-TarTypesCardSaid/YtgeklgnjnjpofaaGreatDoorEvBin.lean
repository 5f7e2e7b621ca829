/- operators upon two values. -/
import Derived.Test.YtgeklgnjnjpofaaGreatDoorEvPure2
set_option linter.unusedVariables false
set_option linter.unusedSimpArgs false
namespace Go.Ev
open Go Go.RowKit
section
variable {P : Program} {μ : Mu}
theorem nan_read {x : Nat} (h : isNan .f64 x = true) : ∃ s f, FloatKind.f64.format.read x = .nan s f := by
  unfold isNan at h
  cases hd : FloatKind.f64.format.read x with
  | nan s f => exact ⟨s, f, rfl⟩
  | number s m p => rw [hd] at h; cases h
  | infinity s => rw [hd] at h; cases h
theorem nan_arith {x y : Nat} (h : isNan .f64 x = true ∨ isNan .f64 y = true) :
    FloatKind.f64.format.add x y = none ∧ FloatKind.f64.format.sub x y = none ∧ FloatKind.f64.format.mul x y = none ∧ FloatKind.f64.format.div x y = none ∧ FloatKind.f64.format.order x y = none := by
  rcases h with h | h
  · obtain ⟨s, f, hx⟩ := nan_read h
    refine ⟨?_, ?_, ?_, ?_, ?_⟩ <;> simp only [Ieee.Format.add, Ieee.Format.sub, Ieee.Format.mul, Ieee.Format.div, Ieee.Format.order, hx] <;> cases FloatKind.f64.format.read y <;> rfl
  · obtain ⟨s, f, hx⟩ := nan_read h
    refine ⟨?_, ?_, ?_, ?_, ?_⟩ <;> simp only [Ieee.Format.add, Ieee.Format.sub, Ieee.Format.mul, Ieee.Format.div, Ieee.Format.order, hx] <;> cases FloatKind.f64.format.read x <;> rfl
theorem nan_cut (x y t : Nat) : isNan .f64 ((Question.nanBits .f64 x y).cut t) = true := by
  have hr : (Question.nanBits .f64 x y).cut t % 9223372036854775808 = 9218868437227405312 + 1 + t / 2 % 4503599627370495 := by
    show ((t % 2) * 2 ^ 63 + 0x7ff0000000000000 + 1 + (t / 2) % (2 ^ 52 - 1)) % 9223372036854775808 = _
    omega
  have hi : FloatKind.f64.format.infRung = 9218868437227405312 := by decide
  have hs : FloatKind.f64.format.signWeight = 9223372036854775808 := by decide
  have hb : FloatKind.f64.format.binade = 4503599627370496 := by decide
  unfold isNan Ieee.Format.read
  simp only [hi, hs, hb, hr]
  rw [if_neg (by omega), if_neg (by omega), if_neg (by omega)]
  rfl
theorem vnan_ok : isNan .f64 (FloatKind.f64.format.infRung + 1) = true := by decide
def flV : Option Nat → Value
  | some r => .float .f64 r
  | none => vnan .f64
/-- an arithmetic answer of floats, at like operands up to a NaN's bits. -/
theorem arith_ok (op : BinOp) (f : Nat → Nat → Option Nat) (hop : ∀ x y w, (Op.floatArith op .f64 x y).run P w = (match f x y with | some r => pure (.float .f64 r) | none => do pure (.float .f64 (← choose (.nanBits .f64 x y))) : Sem Value).run P w)
    (hn : ∀ x y, isNan .f64 x = true ∨ isNan .f64 y = true → f x y = none) {x y x' y' : Nat} (hx : x = x' ∨ (isNan .f64 x = true ∧ isNan .f64 x' = true)) (hy : y = y' ∨ (isNan .f64 y = true ∧ isNan .f64 y' = true)) (w : World) :
    ∃ v' d, (Op.floatArith op .f64 x' y').run P w = .ok v' { w with drawn := d } ∧ VR μ (flV (f x y)) v' := by
  have key : f x' y' = f x y := by
    rcases hx with rfl | ⟨a, b⟩
    · rcases hy with rfl | ⟨c, d⟩
      · rfl
      · rw [hn _ _ (.inr c), hn _ _ (.inr d)]
    · rw [hn _ _ (.inl a), hn _ _ (.inl b)]
  rw [hop, key]
  cases f x y with
  | some r => exact ⟨_, w.drawn, rfl, .float _ _ _ (.inl rfl)⟩
  | none => exact ⟨_, w.drawn + 1, rfl, .float _ _ _ (.inr ⟨vnan_ok, nan_cut _ _ _⟩)⟩
theorem cmp_key {x y x' y' : Nat} (hx : x = x' ∨ (isNan .f64 x = true ∧ isNan .f64 x' = true)) (hy : y = y' ∨ (isNan .f64 y = true ∧ isNan .f64 y' = true)) : FloatKind.f64.format.order x' y' = FloatKind.f64.format.order x y := by
  rcases hx with rfl | ⟨a, b⟩
  · rcases hy with rfl | ⟨c, d⟩
    · rfl
    · rw [(nan_arith (.inr c)).2.2.2.2, (nan_arith (.inr d)).2.2.2.2]
  · rw [(nan_arith (.inl a)).2.2.2.2, (nan_arith (.inl b)).2.2.2.2]
theorem opt_int_bool {α : Type} {x : Option Value} {v : Value} (h : (match x with | some (.int k z) => some (Value.int k z) | some (.bool z) => some (Value.bool z) | _ => none) = some v) : x = some v ∧ ((∃ k z, v = .int k z) ∨ ∃ z, v = .bool z) := by
  split at h
  · injection h with h; subst h; exact ⟨rfl, .inl ⟨_, _, rfl⟩⟩
  · injection h with h; subst h; exact ⟨rfl, .inr ⟨_, rfl⟩⟩
  · cases h
theorem opt_str_bool {x : Option Value} {v : Value} (h : (match x with | some (.string z) => some (Value.string z) | some (.bool z) => some (Value.bool z) | _ => none) = some v) : x = some v ∧ ((∃ z, v = .string z) ∨ ∃ z, v = .bool z) := by
  split at h
  · injection h with h; subst h; exact ⟨rfl, .inl ⟨_, rfl⟩⟩
  · injection h with h; subst h; exact ⟨rfl, .inr ⟨_, rfl⟩⟩
  · cases h
theorem eqGuard_off {op : BinOp} {t : TypeId} {x y : Operand} {a b : Value} (h1 : ¬ (a = .nilIface ∧ b = .nilIface)) (h2 : ∀ c d, ¬ (a = .agg c ∧ b = .agg d)) (w : World) : (eqGuard op t x y a b).run P w = .ok () w := by
  unfold eqGuard
  cases op <;> first
    | rfl
    | (cases a <;> first
        | rfl
        | (cases b <;> first
            | rfl
            | exact absurd ⟨rfl, rfl⟩ h1
            | exact absurd ⟨rfl, rfl⟩ (h2 _ _)))
theorem equal_ptr {t e : TypeId} (hu : P.underlying t = some (.pointer e)) {p q : Option Addr} (h : p = none ∨ q = none) (w : World) : (Op.equal t (.pointer p) (.pointer q)).run P w = .ok (p.isNone && q.isNone) w := by
  unfold Op.equal Op.maxDepth
  rw [show (10000 : Nat) = 9999 + 1 from rfl, Op.equalIn, bind_ok (underlying_run hu w)]
  rcases h with rfl | rfl
  · cases q <;> rfl
  · cases p <;> rfl
theorem equal_slice {t e : TypeId} (hu : P.underlying t = some (.slice e)) {p q : Option Addr} {a b c d : Nat} (h : p = none ∨ q = none) (w : World) : (Op.equal t (.slice p a b) (.slice q c d)).run P w = .ok (p.isNone && q.isNone) w := by
  unfold Op.equal Op.maxDepth
  rw [show (10000 : Nat) = 9999 + 1 from rfl, Op.equalIn, bind_ok (underlying_run hu w)]
  rcases h with rfl | rfl
  · cases q <;> rfl
  · cases p <;> rfl
theorem equal_if1 {t : TypeId} {m : Array (String × TypeId)} (hu : P.underlying t = some (.interface m)) {u : TypeId} {x : Value} (w : World) : (Op.equal t .nilIface (.iface u x)).run P w = .ok false w := by
  unfold Op.equal Op.maxDepth
  rw [show (10000 : Nat) = 9999 + 1 from rfl, Op.equalIn, bind_ok (underlying_run hu w)]; rfl
theorem equal_if2 {t : TypeId} {m : Array (String × TypeId)} (hu : P.underlying t = some (.interface m)) {u : TypeId} {x : Value} (w : World) : (Op.equal t (.iface u x) .nilIface).run P w = .ok false w := by
  unfold Op.equal Op.maxDepth
  rw [show (10000 : Nat) = 9999 + 1 from rfl, Op.equalIn, bind_ok (underlying_run hu w)]; rfl
def Bin (P : Program) (μ : Mu) (op : BinOp) (t : TypeId) (x y : Operand) (a' b' v : Value) (w : World) : Prop :=
  ∃ v' d, (do eqGuard op t x y a' b'; Go.binOp op t a' b' : Sem Value).run P w = .ok v' { w with drawn := d } ∧ VR μ v v'
theorem Bin.bool {op : BinOp} {t : TypeId} {x y : Operand} {a' b' : Value} {w : World} {z : Bool} (h1 : ¬ (a' = .nilIface ∧ b' = .nilIface)) (h2 : ∀ c d, ¬ (a' = .agg c ∧ b' = .agg d)) (h : (Go.binOp op t a' b').run P w = .ok (.bool z) w) : Bin P μ op t x y a' b' (.bool z) w :=
  ⟨.bool z, w.drawn, by rw [bind_ok (eqGuard_off h1 h2 w)]; exact h, .bool z⟩
theorem bin_int {op : BinOp} {t : TypeId} {k k' : IntKind} {i j : Int} {v : Value} (h : binV P op t (.int k i) (.int k' j) = some v) (x y : Operand) (w : World) : Bin P μ op t x y (.int k i) (.int k' j) v w := by
  obtain ⟨e, hv⟩ := opt_int_bool (α := Unit) h
  refine ⟨v, w.drawn, by rw [bind_ok (eqGuard_off (by simp) (by simp) w), pureRun_ok _ _ e w], ?_⟩
  rcases hv with ⟨_, _, rfl⟩ | ⟨_, rfl⟩
  · exact .int _ _
  · exact .bool _
theorem bin_str {op : BinOp} {t : TypeId} {i j : ByteArray} {v : Value} (h : binV P op t (.string i) (.string j) = some v) (x y : Operand) (w : World) : Bin P μ op t x y (.string i) (.string j) v w := by
  obtain ⟨e, hv⟩ := opt_str_bool h
  refine ⟨v, w.drawn, by rw [bind_ok (eqGuard_off (by simp) (by simp) w), pureRun_ok _ _ e w], ?_⟩
  rcases hv with ⟨_, rfl⟩ | ⟨_, rfl⟩
  · exact .str _
  · exact .bool _
theorem arith_add (x y : Nat) (w : World) : (Op.floatArith .add .f64 x y).run P w = (match FloatKind.f64.format.add x y with | some r => pure (.float .f64 r) | none => do pure (.float .f64 (← choose (.nanBits .f64 x y))) : Sem Value).run P w := by
  unfold Op.floatArith; rw [bind_ok (pure_run _ w)]; rfl
theorem arith_sub (x y : Nat) (w : World) : (Op.floatArith .sub .f64 x y).run P w = (match FloatKind.f64.format.sub x y with | some r => pure (.float .f64 r) | none => do pure (.float .f64 (← choose (.nanBits .f64 x y))) : Sem Value).run P w := by
  unfold Op.floatArith; rw [bind_ok (pure_run _ w)]; rfl
theorem arith_mul (x y : Nat) (w : World) : (Op.floatArith .mul .f64 x y).run P w = (match FloatKind.f64.format.mul x y with | some r => pure (.float .f64 r) | none => do pure (.float .f64 (← choose (.nanBits .f64 x y))) : Sem Value).run P w := by
  unfold Op.floatArith; rw [bind_ok (pure_run _ w)]; rfl
theorem arith_div (x y : Nat) (w : World) : (Op.floatArith .quo .f64 x y).run P w = (match FloatKind.f64.format.div x y with | some r => pure (.float .f64 r) | none => do pure (.float .f64 (← choose (.nanBits .f64 x y))) : Sem Value).run P w := by
  unfold Op.floatArith; rw [bind_ok (pure_run _ w)]; rfl
theorem opt_fl {x : Option Nat} {v : Value} (h : (match x with | some r => some (Value.float .f64 r) | none => some (vnan .f64)) = some v) : v = flV x := by
  cases x <;> (injection h with h; exact h.symm)
theorem opt_bool {x : Option Value} {v : Value} (h : (match x with | some (.bool z) => some (Value.bool z) | _ => none) = some v) : ∃ z, x = some (.bool z) ∧ v = .bool z := by
  split at h
  · injection h with h; exact ⟨_, rfl, h.symm⟩
  · cases h
theorem bin_float {op : BinOp} {t : TypeId} {k k' : FloatKind} {i j i' j' : Nat} {v : Value} (h : binV P op t (.float k i) (.float k' j) = some v) (hi : i = i' ∨ (isNan k i = true ∧ isNan k i' = true)) (hj : j = j' ∨ (isNan k' j = true ∧ isNan k' j' = true)) (x y : Operand) (w : World) :
    Bin P μ op t x y (.float k i') (.float k' j') v w := by
  cases k with
  | f32 => cases h
  | f64 =>
  cases k' with
  | f32 => cases h
  | f64 =>
  have fin : ∀ {s : Sem Value}, Go.binOp op t (.float .f64 i') (.float .f64 j') = s → (∃ v' d, s.run P w = .ok v' { w with drawn := d } ∧ VR μ v v') → Bin P μ op t x y (.float .f64 i') (.float .f64 j') v w := by
    intro s e ⟨v', d, h1, h2⟩
    exact ⟨v', d, by rw [bind_ok (eqGuard_off (by simp) (by simp) w), e]; exact h1, h2⟩
  have cmp : Go.binOp op t (.float .f64 i') (.float .f64 j') = Op.floatCmp op .f64 i' j' → (match pureRun P (Op.floatCmp op .f64 i j) with | some (.bool z) => some (Value.bool z) | _ => none) = some v → Bin P μ op t x y (.float .f64 i') (.float .f64 j') v w := by
    intro e hh
    obtain ⟨z, hz, rfl⟩ := opt_bool hh
    refine fin e ⟨_, w.drawn, ?_, .bool z⟩
    have hsame : Op.floatCmp op .f64 i' j' = Op.floatCmp op .f64 i j := by unfold Op.floatCmp; rw [cmp_key hi hj]
    rw [hsame, pureRun_ok _ _ hz w]
  cases op with
  | add => have e := opt_fl h; clear h; subst e; exact fin (s := Op.floatArith .add .f64 i' j') rfl (arith_ok (P := P) (μ := μ) .add _ arith_add (fun x y hn => (nan_arith hn).1) hi hj w)
  | sub => have e := opt_fl h; clear h; subst e; exact fin (s := Op.floatArith .sub .f64 i' j') rfl (arith_ok (P := P) (μ := μ) .sub _ arith_sub (fun x y hn => (nan_arith hn).2.1) hi hj w)
  | mul => have e := opt_fl h; clear h; subst e; exact fin (s := Op.floatArith .mul .f64 i' j') rfl (arith_ok (P := P) (μ := μ) .mul _ arith_mul (fun x y hn => (nan_arith hn).2.2.1) hi hj w)
  | quo => have e := opt_fl h; clear h; subst e; exact fin (s := Op.floatArith .quo .f64 i' j') rfl (arith_ok (P := P) (μ := μ) .quo _ arith_div (fun x y hn => (nan_arith hn).2.2.2.1) hi hj w)
  | eql => exact cmp rfl h
  | neq => exact cmp rfl h
  | lss => exact cmp rfl h
  | leq => exact cmp rfl h
  | gtr => exact cmp rfl h
  | geq => exact cmp rfl h
  | _ => cases h
theorem ptr_none {p : Option Addr} {v' : Value} (h : VR μ (.pointer p) v') : ∃ p', v' = .pointer p' ∧ p'.isNone = p.isNone := by
  cases h with
  | nilp => exact ⟨none, rfl, rfl⟩
  | ptr n o t ht => exact ⟨_, rfl, rfl⟩
theorem slc_none {p : Option Addr} {l c : Nat} {v' : Value} (h : VR μ (.slice p l c) v') : ∃ p' c', v' = .slice p' l c' ∧ p'.isNone = p.isNone := by
  cases h with
  | nils l c => exact ⟨none, _, rfl, rfl⟩
  | slc n o l c c' t ht => exact ⟨_, _, rfl, rfl⟩
  | slz n o q t ht => exact ⟨_, _, rfl, rfl⟩
theorem none_of {α : Type} {p : Option α} (h : p.isNone = true) : p = none := by cases p <;> simp_all
theorem equal_same {t e : TypeId} (hu : P.underlying t = some (.pointer e)) (hi : (P.info? e).isSome = true) (a : Addr) (w : World) : (Op.equal t (.pointer (some a)) (.pointer (some a))).run P w = .ok true w := by
  obtain ⟨i, hi⟩ := Option.isSome_iff_exists.1 hi
  unfold Op.equal Op.maxDepth
  rw [show (10000 : Nat) = 9999 + 1 from rfl, Op.equalIn, bind_ok (underlying_run hu w)]
  have hsz : (sizeOf e).run P w = .ok i.size w := by simp [sizeOf, typeInfo, hi]
  show (do if (← sizeOf e) ≠ 0 then sameAddr a a else if a == a then pure true else pure ((← choose .zeroSizeEq) = 1) : Sem Bool).run P w = _
  rw [bind_ok hsz]
  by_cases h0 : i.size ≠ 0
  · rw [if_pos h0]; simp [sameAddr]
  · rw [if_neg h0]; simp
theorem ptr_same {a b : Addr} {v u : Value} (ha : VR μ (.pointer (some a)) v) (hb : VR μ (.pointer (some b)) u) (h : sameA a b = true) : ∃ c, v = .pointer (some c) ∧ u = .pointer (some c) := by
  unfold sameA at h
  rw [Bool.and_eq_true, beq_eq, beq_eq, decide_eq_true_eq, decide_eq_true_eq] at h
  cases ha with
  | ptr n o t ht =>
    cases hb with
    | ptr m o' t' ht' =>
      obtain ⟨h1, h2⟩ := h
      simp only at h1 h2
      subst h1; subst h2
      rw [ht] at ht'; injection ht' with ht'; subst ht'
      exact ⟨_, rfl, rfl⟩
theorem bin_ptr {op : BinOp} {t : TypeId} {p q : Option Addr} {a' b' v : Value} (h : binV P op t (.pointer p) (.pointer q) = some v) (ha : VR μ (.pointer p) a') (hb : VR μ (.pointer q) b') (x y : Operand) (w : World) : Bin P μ op t x y a' b' v w := by
  obtain ⟨p', hp0, hp⟩ := ptr_none ha
  obtain ⟨q', hq0, hq⟩ := ptr_none hb
  have key : ∀ (e : TypeId) (z : Value) (neg : Bool), P.underlying t = some (.pointer e) → (match p, q with | none, q => some (Value.bool (neg ^^ q.isNone)) | some _, none => some (.bool neg) | some a, some b => bif sameA a b && (P.info? e).isSome then some (.bool !neg) else none) = some z → ∃ r, (Op.equal t a' b').run P w = .ok r w ∧ z = .bool (neg ^^ r) := by
    intro e z neg hu hz
    cases p with
    | none =>
      injection hz with hz
      subst hp0; subst hq0
      exact ⟨_, equal_ptr hu (.inl (none_of hp)) w, by rw [← hz, hp, hq]; simp⟩
    | some p => cases q with
      | none =>
        injection hz with hz
        subst hp0; subst hq0
        exact ⟨_, equal_ptr hu (.inr (none_of hq)) w, by rw [← hz, hp, hq]; simp⟩
      | some q =>
        simp only at hz
        obtain ⟨h1, h2⟩ := bif_some hz
        rw [Bool.and_eq_true] at h1
        obtain ⟨c, rfl, rfl⟩ := ptr_same ha hb h1.1
        injection h2 with h2
        exact ⟨true, equal_same hu h1.2 c w, by rw [← h2]; simp⟩
  subst hp0; subst hq0
  simp only [binV] at h
  split at h
  · rename_i e hu hx
    obtain ⟨r, h1, rfl⟩ := key _ v false hu (by cases p <;> cases q <;> simpa using h)
    rw [Bool.false_xor]
    exact .bool (by simp) (by simp) (by show (do pure (Value.bool (← Op.equal t (.pointer p') (.pointer q'))) : Sem Value).run P w = _; rw [bind_ok h1]; rfl)
  · rename_i e hu hx
    obtain ⟨r, h1, rfl⟩ := key _ v true hu (by cases p <;> cases q <;> simpa using h)
    rw [Bool.true_xor]
    exact .bool (by simp) (by simp) (by show (do pure (Value.bool !(← Op.equal t (.pointer p') (.pointer q'))) : Sem Value).run P w = _; rw [bind_ok h1]; rfl)
  · cases h
theorem bin_slc {op : BinOp} {t : TypeId} {p q : Option Addr} {l1 c1 l2 c2 : Nat} {a' b' v : Value} (h : binV P op t (.slice p l1 c1) (.slice q l2 c2) = some v) (ha : VR μ (.slice p l1 c1) a') (hb : VR μ (.slice q l2 c2) b') (x y : Operand) (w : World) : Bin P μ op t x y a' b' v w := by
  obtain ⟨p', d1, rfl, hp⟩ := slc_none ha
  obtain ⟨q', d2, rfl, hq⟩ := slc_none hb
  simp only [binV] at h
  split at h
  · rename_i e hu
    obtain ⟨hn, rfl⟩ : (p' = none ∨ q' = none) ∧ v = .bool (p'.isNone && q'.isNone) := by
      cases p with
      | none => injection h with h; exact ⟨.inl (none_of hp), by rw [← h, hp, hq]; simp⟩
      | some p => cases q with
        | none => injection h with h; exact ⟨.inr (none_of hq), by rw [← h, hp, hq]; simp⟩
        | some q => cases h
    exact .bool (by simp) (by simp) (by show (do pure (Value.bool (← Op.equal t (.slice p' l1 d1) (.slice q' l2 d2))) : Sem Value).run P w = _; rw [bind_ok (equal_slice hu hn w)]; rfl)
  · rename_i e hu
    obtain ⟨hn, rfl⟩ : (p' = none ∨ q' = none) ∧ v = .bool !(p'.isNone && q'.isNone) := by
      cases p with
      | none => injection h with h; exact ⟨.inl (none_of hp), by rw [← h, hp, hq]; simp⟩
      | some p => cases q with
        | none => injection h with h; exact ⟨.inr (none_of hq), by rw [← h, hp, hq]; simp⟩
        | some q => cases h
    exact .bool (by simp) (by simp) (by show (do pure (Value.bool !(← Op.equal t (.slice p' l1 d1) (.slice q' l2 d2))) : Sem Value).run P w = _; rw [bind_ok (equal_slice hu hn w)]; rfl)
  · cases h
theorem bin_if1 {op : BinOp} {t u : TypeId} {z b' v : Value} (h : binV P op t .nilIface (.iface u z) = some v) (hb : VR μ (.iface u z) b') (x y : Operand) (w : World) : Bin P μ op t x y .nilIface b' v w := by
  cases hb with
  | iface _ _ z' hz =>
  simp only [binV] at h
  split at h
  · rename_i m hu
    injection h with h; subst h
    exact .bool (by simp) (by simp) (by show (do pure (Value.bool (← Op.equal t .nilIface (.iface u z'))) : Sem Value).run P w = _; rw [bind_ok (equal_if1 hu w)]; rfl)
  · rename_i m hu
    injection h with h; subst h
    exact .bool (by simp) (by simp) (by show (do pure (Value.bool !(← Op.equal t .nilIface (.iface u z'))) : Sem Value).run P w = _; rw [bind_ok (equal_if1 hu w)]; rfl)
  · cases h
theorem bin_if2 {op : BinOp} {t u : TypeId} {z a' v : Value} (h : binV P op t (.iface u z) .nilIface = some v) (ha : VR μ (.iface u z) a') (x y : Operand) (w : World) : Bin P μ op t x y a' .nilIface v w := by
  cases ha with
  | iface _ _ z' hz =>
  simp only [binV] at h
  split at h
  · rename_i m hu
    injection h with h; subst h
    exact .bool (by simp) (by simp) (by show (do pure (Value.bool (← Op.equal t (.iface u z') .nilIface)) : Sem Value).run P w = _; rw [bind_ok (equal_if2 hu w)]; rfl)
  · rename_i m hu
    injection h with h; subst h
    exact .bool (by simp) (by simp) (by show (do pure (Value.bool !(← Op.equal t (.iface u z') .nilIface)) : Sem Value).run P w = _; rw [bind_ok (equal_if2 hu w)]; rfl)
  · cases h
theorem binV_ok {op : BinOp} {t : TypeId} {a b a' b' v : Value} (h : binV P op t a b = some v) (ha : VR μ a a') (hb : VR μ b b') (x y : Operand) (w : World) : Bin P μ op t x y a' b' v w := by
  cases a <;> cases b <;> first
    | (cases h; done)
    | (cases ha; cases hb; exact bin_int h x y w)
    | (cases ha; cases hb; exact bin_str h x y w)
    | (cases ha with | float _ _ i' hi => cases hb with | float _ _ j' hj => exact bin_float h hi hj x y w)
    | exact bin_ptr h ha hb x y w
    | exact bin_slc h ha hb x y w
    | (cases ha; exact bin_if1 h hb x y w)
    | (cases hb; exact bin_if2 h ha x y w)
end
end Go.Ev

/- a map by numbers: a binary tree that the kernel goes through quickly. -/
set_option linter.unusedSimpArgs false
set_option linter.unusedVariables false
namespace Go.Ev
inductive T (α : Type) where
  | e : T α
  | nd (v : Option α) (l r : T α) : T α
/-- by the recursors themselves, and the kernel's own numbers: so the kernel goes through it in few steps. -/
 noncomputable def bi {β : Type} (b : Bool) (x y : β) : β := Bool.rec (motive := fun _ => β) y x b
theorem bi_cond {β : Type} (b : Bool) (x y : β) : bi b x y = bif b then x else y := by cases b <;> rfl
 noncomputable def T.get {α : Type} (t : T α) : Nat → Option α :=
  T.rec (motive := fun _ => Nat → Option α) (fun _ => none) (fun v _ _ gl gr k => Bool.rec (motive := fun _ => Option α) (Bool.rec (motive := fun _ => Option α) (gr (Nat.pred (Nat.div k (nat_lit 2)))) (gl (Nat.div k (nat_lit 2))) (Nat.beq (Nat.mod k (nat_lit 2)) (nat_lit 1))) v (Nat.beq k (nat_lit 0))) t
 noncomputable def T.setE {α : Type} (x : Option α) (f : Nat) : Nat → T α :=
  Nat.rec (motive := fun _ => Nat → T α) (fun _ => .e) (fun _ ih k => Bool.rec (motive := fun _ => T α) (Bool.rec (motive := fun _ => T α) (.nd none .e (ih (Nat.pred (Nat.div k (nat_lit 2))))) (.nd none (ih (Nat.div k (nat_lit 2))) .e) (Nat.beq (Nat.mod k (nat_lit 2)) (nat_lit 1))) (.nd x .e .e) (Nat.beq k (nat_lit 0))) f
/-- the value at a place; 'none' takes it away. -/
 noncomputable def T.set {α : Type} (x : Option α) (t : T α) : Nat → T α :=
  T.rec (motive := fun _ => Nat → T α) (fun k => T.setE x (Nat.succ k) k) (fun v l r sl sr k => Bool.rec (motive := fun _ => T α) (Bool.rec (motive := fun _ => T α) (.nd v l (sr (Nat.pred (Nat.div k (nat_lit 2))))) (.nd v (sl (Nat.div k (nat_lit 2))) r) (Nat.beq (Nat.mod k (nat_lit 2)) (nat_lit 1))) (.nd x l r) (Nat.beq k (nat_lit 0))) t
 noncomputable def T.put {α : Type} (t : T α) (k : Nat) (x : α) : T α := T.set (some x) t k
 noncomputable def T.del {α : Type} (t : T α) (k : Nat) : T α := T.set none t k
 noncomputable def T.puts {α : Type} : List α → Nat → T α → T α
  | [], _, t => t
  | x :: l, k, t => T.puts l (k + 1) (t.put k x)
/-- so many values from a place on. -/
 noncomputable def T.gets {α : Type} (t : T α) : Nat → Nat → Option (List α)
  | 0, _ => some []
  | n + 1, k => match t.get k with
    | some x => match T.gets t n (k + 1) with
      | some l => some (x :: l)
      | none => none
    | none => none
theorem beq_eq (a b : Nat) : Nat.beq a b = decide (a = b) := by
  by_cases h : a = b
  · subst h; simp
  · rw [decide_eq_false h]
    cases hb : Nat.beq a b with
    | true => exact absurd (Nat.eq_of_beq_eq_true hb) h
    | false => rfl
theorem cond_dec {α : Type} (p : Prop) [Decidable p] (a b : α) : (bif decide p then a else b) = if p then a else b := by by_cases h : p <;> simp [h]
theorem brec {β : Type} (k : Nat) (x y z : β) : Bool.rec (motive := fun _ => β) (Bool.rec (motive := fun _ => β) z y (Nat.beq (Nat.mod k (nat_lit 2)) (nat_lit 1))) x (Nat.beq k (nat_lit 0)) = if k = 0 then x else if k % 2 = 1 then y else z := by
  by_cases h : k = 0
  · subst h; rfl
  · rw [if_neg h]
    have h0 : Nat.beq k 0 = false := by rw [beq_eq]; simp [h]
    show Bool.rec (motive := fun _ => β) _ x (Nat.beq k 0) = _
    rw [h0]
    show Bool.rec (motive := fun _ => β) z y (Nat.beq (k % 2) 1) = _
    rw [beq_eq]
    by_cases h1 : k % 2 = 1
    · rw [if_pos h1]; simp [h1]
    · rw [if_neg h1]; simp [h1]
theorem get_nd {α : Type} (v : Option α) (l r : T α) (k : Nat) : (T.nd v l r).get k = if k = 0 then v else if k % 2 = 1 then l.get (k / 2) else r.get (k / 2 - 1) := brec k v _ _
theorem get_e {α : Type} (k : Nat) : (T.e : T α).get k = none := rfl
theorem setE_s {α : Type} (x : Option α) (f k : Nat) : T.setE x (f + 1) k = if k = 0 then .nd x .e .e else if k % 2 = 1 then .nd none (T.setE x f (k / 2)) .e else .nd none .e (T.setE x f (k / 2 - 1)) := brec k _ _ _
theorem set_nd {α : Type} (x v : Option α) (l r : T α) (k : Nat) : T.set x (T.nd v l r) k = if k = 0 then .nd x l r else if k % 2 = 1 then .nd v (T.set x l (k / 2)) r else .nd v l (T.set x r (k / 2 - 1)) := brec k _ _ _
theorem setE_get {α : Type} (x : Option α) : ∀ (f : Nat) (k j : Nat), k < f → (T.setE x f k).get j = if j = k then x else none
  | 0, k, j, h => by omega
  | f + 1, k, j, h => by
    rw [setE_s]
    by_cases k0 : k = 0
    · rw [if_pos k0, get_nd]; by_cases j0 : j = 0
      · simp [j0, k0]
      · simp [j0, k0, get_e]
    · rw [if_neg k0]
      by_cases k1 : k % 2 = 1
      · rw [if_pos k1, get_nd]
        by_cases j0 : j = 0
        · simp [j0]; omega
        · rw [if_neg j0]
          by_cases j1 : j % 2 = 1
          · rw [if_pos j1, setE_get x f _ _ (by omega)]
            by_cases e : j = k
            · simp [e]
            · rw [if_neg e, if_neg (by omega)]
          · rw [if_neg j1, if_neg (by omega : ¬ j = k)]; rfl
      · rw [if_neg k1, get_nd]
        by_cases j0 : j = 0
        · simp [j0]; omega
        · rw [if_neg j0]
          by_cases j1 : j % 2 = 1
          · rw [if_pos j1, if_neg (by omega : ¬ j = k)]; rfl
          · rw [if_neg j1, setE_get x f _ _ (by omega)]
            by_cases e : j = k
            · simp [e]
            · rw [if_neg e, if_neg (by omega)]
theorem set_get {α : Type} (x : Option α) (t : T α) : ∀ (k j : Nat), (T.set x t k).get j = if j = k then x else t.get j := by
  induction t with
  | e => exact fun k j => setE_get x _ k j (Nat.lt_succ_self k)
  | nd v l r ihl ihr =>
    intro k j
    rw [set_nd]
    by_cases k0 : k = 0
    · rw [if_pos k0, get_nd, get_nd]; by_cases j0 : j = 0
      · simp [j0, k0]
      · simp [j0, k0]
    · rw [if_neg k0]
      by_cases k1 : k % 2 = 1
      · rw [if_pos k1, get_nd, get_nd]
        by_cases j0 : j = 0
        · simp [j0]; intro e; omega
        · rw [if_neg j0, if_neg j0]
          by_cases j1 : j % 2 = 1
          · rw [if_pos j1, if_pos j1, ihl]
            by_cases e : j = k
            · simp [e]
            · rw [if_neg e, if_neg (by omega)]
          · rw [if_neg j1, if_neg j1, if_neg (by omega : ¬ j = k)]
      · rw [if_neg k1, get_nd, get_nd]
        by_cases j0 : j = 0
        · simp [j0]; intro e; omega
        · rw [if_neg j0, if_neg j0]
          by_cases j1 : j % 2 = 1
          · rw [if_pos j1, if_pos j1, if_neg (by omega : ¬ j = k)]
          · rw [if_neg j1, if_neg j1, ihr]
            by_cases e : j = k
            · simp [e]
            · rw [if_neg e, if_neg (by omega)]
theorem put_get {α : Type} (t : T α) (k j : Nat) (x : α) : (t.put k x).get j = if j = k then some x else t.get j := set_get _ _ _ _
theorem del_get {α : Type} (t : T α) (k j : Nat) : (t.del k).get j = if j = k then none else t.get j := set_get _ _ _ _
theorem puts_get {α : Type} : ∀ (l : List α) (k : Nat) (t : T α) (j : Nat), (T.puts l k t).get j = if k ≤ j ∧ j < k + l.length then l[j - k]? else t.get j
  | [], k, t, j => by rw [T.puts, if_neg (by simp only [List.length_nil]; omega)]
  | x :: l, k, t, j => by
    rw [T.puts, puts_get l (k + 1), put_get, List.length_cons]
    by_cases e : j = k
    · rw [if_neg (by omega), if_pos e, if_pos (by omega), e]; simp
    · by_cases h : k + 1 ≤ j ∧ j < k + 1 + l.length
      · rw [if_pos h, if_pos (by omega)]
        obtain ⟨d, rfl⟩ : ∃ d, j = k + 1 + d := ⟨j - (k + 1), by omega⟩
        rw [show k + 1 + d - (k + 1) = d by omega, show k + 1 + d - k = d + 1 by omega, List.getElem?_cons_succ]
      · rw [if_neg h, if_neg e, if_neg (by omega)]
theorem gets_spec {α : Type} (t : T α) : ∀ (n k : Nat) (l : List α), t.gets n k = some l → l.length = n ∧ ∀ i, i < n → t.get (k + i) = l[i]?
  | 0, k, l, h => by simp only [T.gets] at h; injection h with h; subst h; exact ⟨rfl, fun i hi => by omega⟩
  | n + 1, k, l, h => by
    simp only [T.gets] at h
    cases h1 : t.get k with
    | none => simp [h1] at h
    | some x =>
      simp only [h1] at h
      cases h2 : t.gets n (k + 1) with
      | none => simp [h2] at h
      | some l' =>
        simp only [h2] at h
        injection h with h; subst h
        obtain ⟨a, b⟩ := gets_spec t n (k + 1) l' h2
        refine ⟨by simp [a], fun i hi => ?_⟩
        match i with
        | 0 => simpa using h1
        | i + 1 => rw [List.getElem?_cons_succ, ← b i (by omega)]; congr 1; omega
end Go.Ev

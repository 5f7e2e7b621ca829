/- parts of the quick evaluator: what is read off a value by its recursor alone; temporaries by a path that is made once. -/
import Derived.Test.YtgeklgnjnjpofaaGreatDoorEvTop
set_option linter.unusedVariables false
set_option linter.unusedSimpArgs false
namespace Go.Ev
open Go Go.RowKit
 noncomputable section
def kno : IntKind → Nat
  | .i8 => 0 | .i16 => 1 | .i32 => 2 | .i64 => 3 | .u8 => 4 | .u16 => 5 | .u32 => 6 | .u64 => 7
theorem kno_inj {k k' : IntKind} (h : kno k = kno k') : k = k' := by cases k <;> cases k' <;> first | rfl | cases h
/-- a kind's own mark. -/
def kmk (k : IntKind) : Nat := IntKind.rec (motive := fun _ => Nat) 1 2 3 4 5 6 7 8 k
theorem kmk_inj {k k' : IntKind} (h : kmk k = kmk k') : k = k' := by cases k <;> cases k' <;> first | rfl | cases h
theorem kmk_lt (k : IntKind) : kmk k < 16 ∧ 0 < kmk k := by cases k <;> exact ⟨by decide, by decide⟩
/-- a whole number that is not below 0, with its kind, as one number; 0: none such. -/
def vi (v : Value) : Nat :=
  @Value.rec (fun _ => Nat) (fun _ => PUnit) (fun _ => PUnit) (fun _ => 0) (fun k n => Int.rec (motive := fun _ => Nat) (fun m => Nat.add (Nat.mul m 16) (kmk k)) (fun _ => 0) n) (fun _ _ => 0) (fun _ _ _ => 0) (fun _ => 0) (fun _ => 0) (fun _ _ _ => 0) (fun _ => 0) (fun _ => 0) (fun _ _ _ _ _ => 0) 0 (fun _ _ _ => 0) 0 (fun _ _ => 0) (fun _ _ => 0) (fun _ _ => .unit) .unit (fun _ _ _ _ => .unit) v
/-- a truth value: 1 false, 2 true. -/
def vb (v : Value) : Nat :=
  @Value.rec (fun _ => Nat) (fun _ => PUnit) (fun _ => PUnit) (fun b => Bool.rec (motive := fun _ => Nat) 1 2 b) (fun _ _ => 0) (fun _ _ => 0) (fun _ _ _ => 0) (fun _ => 0) (fun _ => 0) (fun _ _ _ => 0) (fun _ => 0) (fun _ => 0) (fun _ _ _ _ _ => 0) 0 (fun _ _ _ => 0) 0 (fun _ _ => 0) (fun _ _ => 0) (fun _ _ => .unit) .unit (fun _ _ _ _ => .unit) v
structure BO where
  b : Nat
  o : Nat
structure SL where
  b : Nat
  o : Nat
  l : Nat
def abo (a : Option Addr) : Option BO := Option.rec (motive := fun _ => Option BO) none (fun a => Addr.rec (motive := fun _ => Option BO) (fun b o s => Option.rec (motive := fun _ => Option BO) (some ⟨b, o⟩) (fun _ => none) s) a) a
def asl (a : Option Addr) (l : Nat) : Option SL := Option.rec (motive := fun _ => Option SL) none (fun a => Addr.rec (motive := fun _ => Option SL) (fun b o s => Option.rec (motive := fun _ => Option SL) (some ⟨b, o, l⟩) (fun _ => none) s) a) a
def vp (v : Value) : Option BO :=
  @Value.rec (fun _ => Option BO) (fun _ => PUnit) (fun _ => PUnit) (fun _ => none) (fun _ _ => none) (fun _ _ => none) (fun _ _ _ => none) (fun _ => none) (fun a => abo a) (fun _ _ _ => none) (fun _ => none) (fun _ => none) (fun _ _ _ _ _ => none) none (fun _ _ _ => none) none (fun _ _ => none) (fun _ _ => none) (fun _ _ => .unit) .unit (fun _ _ _ _ => .unit) v
def vs (v : Value) : Option SL :=
  @Value.rec (fun _ => Option SL) (fun _ => PUnit) (fun _ => PUnit) (fun _ => none) (fun _ _ => none) (fun _ _ => none) (fun _ _ _ => none) (fun _ => none) (fun _ => none) (fun a l _ => asl a l) (fun _ => none) (fun _ => none) (fun _ _ _ _ _ => none) none (fun _ _ _ => none) none (fun _ _ => none) (fun _ _ => none) (fun _ _ => .unit) .unit (fun _ _ _ _ => .unit) v
theorem vi_spec {v : Value} {k : IntKind} {c : Nat} (h : vi v = c) (hk : c % 16 = kmk k) : v = .int k (.ofNat (c / 16)) := by
  have hpos := kmk_lt k
  cases v with
  | int k' n =>
    cases n with
    | ofNat m =>
      have h : m * 16 + kmk k' = c := h
      have h' := kmk_lt k'
      have e : kmk k' = kmk k := by omega
      rw [kmk_inj e, show c / 16 = m by omega]
    | negSucc m => have h : 0 = c := h; omega
  | _ => have h : 0 = c := h; omega
theorem vb_spec {v : Value} : (vb v = 1 → v = .bool false) ∧ (vb v = 2 → v = .bool true) := by
  cases v with
  | bool b =>
    cases b with
    | false => exact ⟨fun _ => rfl, fun h => (by have h : 1 = 2 := h; omega)⟩
    | true => exact ⟨fun h => (by have h : 2 = 1 := h; omega), fun _ => rfl⟩
  | _ => exact ⟨fun h => (by have h : 0 = 1 := h; omega), fun h => (by have h : 0 = 2 := h; omega)⟩
theorem vp_spec {v : Value} {x : BO} (h : vp v = some x) : v = .pointer (some ⟨x.b, x.o, none⟩) := by
  cases v with
  | pointer a =>
    cases a with
    | none => cases h
    | some a =>
      obtain ⟨b, o, s⟩ := a
      cases s with
      | none => have h : some (⟨b, o⟩ : BO) = some x := h; injection h with h; subst h; rfl
      | some s => cases h
  | _ => cases h
theorem vs_spec {v : Value} {x : SL} (h : vs v = some x) : ∃ c, v = .slice (some ⟨x.b, x.o, none⟩) x.l c := by
  cases v with
  | slice a l c =>
    cases a with
    | none => cases h
    | some a =>
      obtain ⟨b, o, s⟩ := a
      cases s with
      | none => have h : some (⟨b, o, l⟩ : SL) = some x := h; injection h with h; subst h; exact ⟨c, rfl⟩
      | some s => cases h
  | _ => cases h
/-- a temporary by its path. -/
structure GC where
  run : T Value → Option Value
def gC : Nat → Nat → GC :=
  Nat.rec (motive := fun _ => Nat → GC) (fun k => ⟨fun t => t.get k⟩) (fun _ ih k =>
    Bool.rec (motive := fun _ => GC) (Bool.rec (motive := fun _ => GC) ⟨fun t => T.rec (motive := fun _ => Option Value) none (fun _ _ r _ _ => (ih (Nat.pred (Nat.div k (nat_lit 2)))).run r) t⟩ ⟨fun t => T.rec (motive := fun _ => Option Value) none (fun _ l _ _ _ => (ih (Nat.div k (nat_lit 2))).run l) t⟩ (Nat.beq (Nat.mod k (nat_lit 2)) (nat_lit 1))) ⟨fun t => T.rec (motive := fun _ => Option Value) none (fun v _ _ _ _ => v) t⟩ (Nat.beq k (nat_lit 0)))
theorem gC_eq : ∀ (f k : Nat) (t : T Value), (gC f k).run t = t.get k
  | 0, k, t => rfl
  | f + 1, k, t => by
    have e : gC (f + 1) k = if k = 0 then ⟨fun t => T.rec (motive := fun _ => Option Value) none (fun v _ _ _ _ => v) t⟩ else if k % 2 = 1 then ⟨fun t => T.rec (motive := fun _ => Option Value) none (fun _ l _ _ _ => (gC f (k / 2)).run l) t⟩ else ⟨fun t => T.rec (motive := fun _ => Option Value) none (fun _ _ r _ _ => (gC f (k / 2 - 1)).run r) t⟩ := brec k _ _ _
    rw [e]
    cases t with
    | e => by_cases h0 : k = 0
           · rw [if_pos h0]; rfl
           · rw [if_neg h0]; by_cases h1 : k % 2 = 1
             · rw [if_pos h1]; rfl
             · rw [if_neg h1]; rfl
    | nd v l r =>
      rw [get_nd]
      by_cases h0 : k = 0
      · rw [if_pos h0, if_pos h0]
      · rw [if_neg h0, if_neg h0]
        by_cases h1 : k % 2 = 1
        · rw [if_pos h1, if_pos h1]; exact gC_eq f _ l
        · rw [if_neg h1, if_neg h1]; exact gC_eq f _ r
/-- a temporary put by its path. -/
structure SC where
  run : Value → T Value → T Value
def sC : Nat → Nat → SC :=
  Nat.rec (motive := fun _ => Nat → SC) (fun k => ⟨fun x t => t.put k x⟩) (fun _ ih k =>
    Bool.rec (motive := fun _ => SC) (Bool.rec (motive := fun _ => SC) ⟨fun x t => T.rec (motive := fun _ => T Value) (T.put .e k x) (fun v l r _ _ => .nd v l ((ih (Nat.pred (Nat.div k (nat_lit 2)))).run x r)) t⟩ ⟨fun x t => T.rec (motive := fun _ => T Value) (T.put .e k x) (fun v l r _ _ => .nd v ((ih (Nat.div k (nat_lit 2))).run x l) r) t⟩ (Nat.beq (Nat.mod k (nat_lit 2)) (nat_lit 1))) ⟨fun x t => T.rec (motive := fun _ => T Value) (T.put .e k x) (fun _ l r _ _ => .nd (some x) l r) t⟩ (Nat.beq k (nat_lit 0)))
theorem sC_eq : ∀ (f k : Nat) (x : Value) (t : T Value), (sC f k).run x t = t.put k x
  | 0, k, x, t => rfl
  | f + 1, k, x, t => by
    have e : sC (f + 1) k = if k = 0 then ⟨fun x t => T.rec (motive := fun _ => T Value) (T.put .e k x) (fun _ l r _ _ => .nd (some x) l r) t⟩ else if k % 2 = 1 then ⟨fun x t => T.rec (motive := fun _ => T Value) (T.put .e k x) (fun v l r _ _ => .nd v ((sC f (k / 2)).run x l) r) t⟩ else ⟨fun x t => T.rec (motive := fun _ => T Value) (T.put .e k x) (fun v l r _ _ => .nd v l ((sC f (k / 2 - 1)).run x r)) t⟩ := brec k _ _ _
    rw [e]
    cases t with
    | e => by_cases h0 : k = 0
           · rw [if_pos h0]
           · rw [if_neg h0]; by_cases h1 : k % 2 = 1
             · rw [if_pos h1]
             · rw [if_neg h1]
    | nd v l r =>
      unfold T.put
      rw [set_nd]
      by_cases h0 : k = 0
      · rw [if_pos h0, if_pos h0]
      · rw [if_neg h0, if_neg h0]
        by_cases h1 : k % 2 = 1
        · rw [if_pos h1, if_pos h1]; show T.nd v ((sC f (k / 2)).run x l) r = _; rw [sC_eq f]; rfl
        · rw [if_neg h1, if_neg h1]; show T.nd v l ((sC f (k / 2 - 1)).run x r) = _; rw [sC_eq f]; rfl
/-- an operand, made once. -/
structure OC where
  run : T Value → Value
def oC (x : Operand) : OC :=
  match x with
  | .tmp k => ⟨fun t => Option.rec (motive := fun _ => Value) undef (fun v => v) ((gC 10 k).run t)⟩
  | .const v => ⟨fun _ => v⟩
  | x => ⟨fun t => Env.eval ⟨t, 0, ⟨.e, 0⟩, []⟩ x⟩
theorem oC_eq (x : Operand) (t : T Value) : (oC x).run t = Env.eval ⟨t, 0, ⟨.e, 0⟩, []⟩ x := by
  cases x with
  | tmp k =>
    show Option.rec (motive := fun _ => Value) undef (fun v => v) ((gC 10 k).run t) = (t.get k).getD undef
    rw [gC_eq]
    cases t.get k <;> rfl
  | _ => rfl
end
end Go.Ev

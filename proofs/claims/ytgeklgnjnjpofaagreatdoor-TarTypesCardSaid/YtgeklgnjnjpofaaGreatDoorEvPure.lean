/- operations that only compute: what the evaluator answers is what the model does. -/
import Derived.Test.YtgeklgnjnjpofaaGreatDoorEvDef
set_option linter.unusedVariables false
set_option linter.unusedSimpArgs false
namespace Go.Ev
open Go Go.RowKit
section
variable {P : Program} {μ : Mu}
theorem pureRun_ok {α : Type} (s : Sem α) : ∀ a, pureRun P s = some a → ∀ w, s.run P w = .ok a w := by
  induction s with
  | pure a => intro b h w; simp only [pureRun] at h; injection h with h; subst h; rfl
  | program k ih => intro b h w; simp only [pureRun] at h; exact ih P b h w
  | mark m k ih => intro b h w; simp only [pureRun] at h; exact ih b h w
  | _ => intro b h; simp [pureRun] at h
theorem plain_eq : ∀ (n : Nat) (v v' : Value), plainN n v = true → VR μ v v' → v' = v := by
  intro n
  induction n with
  | zero =>
    intro v v' h hv
    cases hv with
    | bool b => rfl
    | int k n => rfl
    | float k x y hxy =>
      rcases hxy with rfl | ⟨a, _⟩
      · rfl
      · simp [plainN, a] at h
    | str s => rfl
    | nilp => rfl
    | nils l c => rfl
    | mapn => rfl
    | nilf => rfl
    | nili => rfl
    | _ => simp [plainN] at h
  | succ n ih =>
    intro v v' h hv
    have hl : ∀ (l m : List Value), l.all (plainN n) = true → VRs μ l m → m = l := by
      intro l
      induction l with
      | nil => intro m _ hm; exact hm.nil_inv
      | cons x l ihl =>
        intro m ha hm
        obtain ⟨y, r, rfl, a, b⟩ := hm.head
        rw [List.all_cons, Bool.and_eq_true] at ha
        rw [ih x y ha.1 a, ihl r ha.2 b]
    cases hv with
    | bool b => rfl
    | int k n => rfl
    | float k x y hxy =>
      rcases hxy with rfl | ⟨a, _⟩
      · rfl
      · simp [plainN, a] at h
    | str s => rfl
    | nilp => rfl
    | nils l c => rfl
    | mapn => rfl
    | nilf => rfl
    | nili => rfl
    | iface t x y hx => rw [ih x y (by simpa [plainN] using h) hx]
    | agg x y hx ex =>
      have := hl x.toList y.toList (by simpa only [plainN] using h) (VR.agg_iff.1 (.agg x y hx ex))
      rw [Array.toList_inj.1 this]
    | tup x y hx ex =>
      have := hl x.toList y.toList (by simpa only [plainN] using h) (VR.tup_iff.1 (.tup x y hx ex))
      rw [Array.toList_inj.1 this]
    | _ => simp [plainN] at h
theorem plain_refl : ∀ (n : Nat) (v : Value), plainN n v = true → VR μ v v := by
  intro n
  induction n with
  | zero =>
    intro v h
    cases v with
    | bool b => exact .bool b
    | int k n => exact .int k n
    | float k x => exact .float k x x (.inl rfl)
    | string s => exact .str s
    | pointer a => cases a with
      | none => exact .nilp
      | some a => simp [plainN] at h
    | slice a l c => cases a with
      | none => exact .nils l c
      | some a => simp [plainN] at h
    | map r => cases r with
      | none => exact .mapn
      | some r => simp [plainN] at h
    | nilFunc => exact .nilf
    | nilIface => exact .nili
    | _ => simp [plainN] at h
  | succ n ih =>
    intro v h
    have hl : ∀ (l : List Value), l.all (plainN n) = true → VRs μ l l := by
      intro l
      induction l with
      | nil => intro _; exact .nil μ
      | cons x l ihl =>
        intro ha
        rw [List.all_cons, Bool.and_eq_true] at ha
        exact .cons (ih x ha.1) (ihl ha.2)
    cases v with
    | bool b => exact .bool b
    | int k n => exact .int k n
    | float k x => exact .float k x x (.inl rfl)
    | string s => exact .str s
    | pointer a => cases a with
      | none => exact .nilp
      | some a => simp [plainN] at h
    | slice a l c => cases a with
      | none => exact .nils l c
      | some a => simp [plainN] at h
    | map r => cases r with
      | none => exact .mapn
      | some r => simp [plainN] at h
    | nilFunc => exact .nilf
    | nilIface => exact .nili
    | iface t x => exact .iface t x x (ih x (by simpa [plainN] using h))
    | agg cs => exact VR.agg_iff.2 (hl _ (by simpa only [plainN] using h))
    | tuple cs => exact VR.tup_iff.2 (hl _ (by simpa only [plainN] using h))
    | _ => simp [plainN] at h
theorem VR.eq_plain {v v' : Value} (h : VR μ v v') (hp : plain v = true) : v' = v := plain_eq 5 v v' hp h
theorem VR.of_plain {v : Value} (hp : plain v = true) : VR μ v v := plain_refl 5 v hp
theorem val_some {x : Option Next} {v : Value} (h : val? x = some v) : x = some (.value v) ∧ plain v = true := by
  unfold val? at h
  split at h
  · rename_i u
    obtain ⟨a, b⟩ := bif_some h
    injection b with b
    subst b
    exact ⟨rfl, a⟩
  · cases h
theorem gen_ok {ρ ρ' : Operand → Value} {o : Oper} {v : Value} (hs : ∀ cs b, o.op ≠ .select cs b) (h : gen P ρ o = some v) (hr : ∀ x ∈ o.op.operands, VR μ (ρ x) (ρ' x)) (w : World) :
    ∃ v' d, (execOp ρ' o).run P w = .ok (.value v') { w with drawn := d } ∧ VR μ v v' := by
  unfold gen at h
  obtain ⟨a, b⟩ := bif_some h
  rw [List.all_eq_true] at a
  have he : ∀ x ∈ o.op.operands, ρ' x = ρ x := fun x hx => (hr x hx).eq_plain (a x (Array.mem_toList_iff.2 hx))
  obtain ⟨c, d⟩ := val_some b
  rw [execOp_congr o hs he, pureRun_ok _ _ c w]
  exact ⟨v, w.drawn, rfl, .of_plain d⟩
theorem underlying_run {t : TypeId} {d : TypeDesc} (h : P.underlying t = some d) (w : World) : (underlying t).run P w = .ok d w := by
  show (match P.underlying t with | some d => pure d | none => stuck "no such type" : Sem TypeDesc).run P w = _
  rw [h]; rfl
theorem typeInfo_run {t : TypeId} {i : TypeInfo} (h : P.info? t = some i) (w : World) : (typeInfo t).run P w = .ok i w := by
  show (match P.info? t with | some i => pure i | none => stuck "no such type" : Sem TypeInfo).run P w = _
  rw [h]; rfl
theorem sizeOf_run {t : TypeId} {i : TypeInfo} (h : P.info? t = some i) (w : World) : (sizeOf t).run P w = .ok i.size w := by
  unfold sizeOf
  rw [bind_ok (typeInfo_run h w)]; rfl
theorem szOf_eq {t : TypeId} {i : TypeInfo} (h : P.info? t = some i) : szOf P t = i.size := by simp [szOf, Program.cellsOf, h]
theorem szOf_pos {t : TypeId} (h : szOf P t ≠ 0) : ∃ i, P.info? t = some i ∧ i.size = szOf P t := by
  cases hi : P.info? t with
  | none => simp [szOf, Program.cellsOf, hi] at h
  | some i => exact ⟨i, rfl, (szOf_eq hi).symm⟩
theorem isAgg_run {t : TypeId} {d : TypeDesc} (h : P.underlying t = some d) (w : World) : (isAgg t).run P w = .ok (isAggB P t) w := by
  unfold isAgg
  rw [bind_ok (underlying_run h w), isAggB, h]
  cases d <;> rfl
theorem info_of_underlying {t : TypeId} {d : TypeDesc} (h : P.underlying t = some d) : ∃ i, P.info? t = some i := by
  cases hi : P.info? t with
  | none => simp [Program.underlying, hi] at h
  | some i => exact ⟨i, rfl⟩
/-- a value comes out, nothing turns. -/
def Comp (P : Program) (μ : Mu) (s : Sem Next) (v : Value) (w : World) : Prop := ∃ v' d, s.run P w = .ok (.value v') { w with drawn := d } ∧ VR μ v v'
theorem Comp.pure {v v' : Value} (h : VR μ v v') (w : World) : Comp P μ (Pure.pure (Next.value v')) v w := ⟨v', w.drawn, rfl, h⟩
theorem value_of {s : Sem Value} {v' : Value} {w w' : World} (h : s.run P w = .ok v' w') : (do Pure.pure (Next.value (← s)) : Sem Next).run P w = .ok (.value v') w' := by
  rw [bind_ok h]; rfl
theorem addr_inv {n o : Nat} {v' : Value} {sp : Option Nat} (h : VR μ (.pointer (some ⟨n, o, sp⟩)) v') : sp = none ∧ ∃ t, μ n = some t ∧ v' = .pointer (some ⟨t.b, t.sh + o, none⟩) := by
  cases h with
  | ptr _ _ t ht => exact ⟨rfl, t, ht, rfl⟩
theorem list2 {x y : Operand} {r : List Operand} {p q : Value} {ρ : Operand → Value} (h : r.map ρ = [p, q]) : ∃ a b, r = [a, b] ∧ ρ a = p ∧ ρ b = q := by
  match r, h with
  | [a, b], h => simp at h; exact ⟨a, b, rfl, h.1, h.2⟩
theorem elemAt_ok {e : TypeId} {a : Addr} {n len : Nat} {v : Value} (h : elemAt P e a n len = some v) : n < len ∧ a.spot = none ∧ v = .pointer (some ⟨a.block, a.off + n * szOf P e, none⟩) ∧ ∃ i, P.info? e = some i := by
  unfold elemAt at h
  obtain ⟨c, d⟩ := bif_some h
  rw [Bool.and_eq_true, blt_iff, blt_iff] at c
  split at d
  · rename_i hs
    injection d with d
    obtain ⟨i, hi, _⟩ := szOf_pos (P := P) (t := e) (by omega)
    exact ⟨c.1, hs, d.symm, i, hi⟩
  · cases d
end
end Go.Ev

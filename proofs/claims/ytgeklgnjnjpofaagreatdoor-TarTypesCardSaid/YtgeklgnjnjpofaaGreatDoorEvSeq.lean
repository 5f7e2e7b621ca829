/- regions in their order, code: what the evaluator answers is what the model does. -/
import Derived.Test.YtgeklgnjnjpofaaGreatDoorEvRun
set_option linter.unusedVariables false
set_option linter.unusedSimpArgs false
namespace Go.Ev
open Go Go.RowKit
section
variable {p : Par} {call : CallF} {μ : Mu}
/-- the program's variables lie under their own names. -/
def GR (μ : Mu) (G : Nat) : Prop := ∀ g, g < G → ∃ t, μ g = some t ∧ t.b = g ∧ t.sh = 0
theorem GR.mono {μ μ' : Mu} {G : Nat} (hm : ∀ n t, μ n = some t → μ' n = some t) (h : GR μ G) : GR μ' G := fun g hg => by
  obtain ⟨t, a, b⟩ := h g hg
  exact ⟨t, hm _ _ a, b⟩
/-- temporaries, place by place. -/
def TR (μ : Mu) (t : T Value) (nt : Nat) (tm : Array Value) : Prop := tm.size = nt ∧ ∀ k, VR μ ((t.get k).getD undef) (tm.getD k undef)
/-- what is deferred. -/
def DR (μ : Mu) : List ADefer → List Deferred → Prop
  | [], [] => True
  | d :: l, e :: m => (∃ caps, e.target = .fn (.func d.f) caps ∧ VRs μ d.args e.args.toList ∧ VRs μ d.caps caps.toList) ∧ DR μ l m
  | _, _ => False
theorem DR.mono {μ μ' : Mu} (hm : ∀ n t, μ n = some t → μ' n = some t) : ∀ {l : List ADefer} {m : List Deferred}, DR μ l m → DR μ' l m
  | [], [], _ => trivial
  | d :: l, e :: m, ⟨⟨caps, a, b, c⟩, h⟩ => ⟨⟨caps, a, b.mono hm, c.mono hm⟩, h.mono hm⟩
  | [], _ :: _, h => h.elim
  | _ :: _, [], h => h.elim
theorem TR.mono {μ μ' : Mu} (hm : ∀ n t, μ n = some t → μ' n = some t) {t : T Value} {nt : Nat} {tm : Array Value} (h : TR μ t nt tm) : TR μ' t nt tm := ⟨h.1, fun k => (h.2 k).mono hm⟩
structure Rel (G : Nat) (μ : Mu) (e : Env) (a : Act) (w : World) : Prop where
  t : TR μ e.t e.nt a.tmps
  d : DR μ e.d a.defers
  w : WR μ e.s w
  g : GR μ G
theorem TR.put {t : T Value} {nt : Nat} {tm : Array Value} (h : TR μ t nt tm) {k : Nat} {v v' : Value} (hv : VR μ v v') (hk : k < nt) : TR μ (t.put k v) nt (tm.setIfInBounds k v') := by
  refine ⟨by simp [h.1], fun j => ?_⟩
  rw [put_get]
  by_cases e : j = k
  · subst e
    rw [if_pos rfl]
    simp [Array.getD_eq_getD_getElem?, Array.getElem?_setIfInBounds, h.1, hk]
    exact hv
  · rw [if_neg e]
    have := h.2 j
    simp only [Array.getD_eq_getD_getElem?, Array.getElem?_setIfInBounds, Ne.symm e, if_false] at this ⊢
    exact this
theorem set_out {tm : Array Value} {k : Nat} {v : Value} (h : ¬ k < tm.size) : tm.setIfInBounds k v = tm := by
  simp [Array.setIfInBounds, h]
theorem Rel.put {G : Nat} {e : Env} {a : Act} {w : World} (h : Rel G μ e a w) (dst : Option Tmp) {v v' : Value} (hv : VR μ v v') : Rel G μ (e.put dst v) (a.put dst v') w := by
  cases dst with
  | none => exact h
  | some k =>
    unfold Env.put Act.put
    simp only
    cases hb : Nat.blt k e.nt with
    | true =>
      rw [blt_iff] at hb
      exact ⟨h.t.put hv hb, h.d, h.w, h.g⟩
    | false =>
      have hb' : ¬ k < a.tmps.size := by rw [h.t.1, ← blt_iff, hb]; simp
      simp only [cond_false, set_out hb']
      exact h
theorem Rel.eval {G : Nat} {e : Env} {a : Act} {w : World} (h : Rel G μ e a w) {x : Operand} (hx : opOk G x = true) : VR μ (e.eval x) (a.eval x) := by
  cases x with
  | tmp k => exact h.t.2 k
  | const v => exact .of_plain hx
  | global g =>
    simp only [opOk, blt_iff] at hx
    obtain ⟨t, a1, a2, a3⟩ := h.g g hx
    have := VR.ptr (μ := μ) g 0 t a1
    rw [a2, a3] at this
    exact this
  | func f => exact VR.func_iff.2 ⟨.nil μ, .nil μ⟩
theorem Rel.next {G : Nat} {e : Env} {a : Act} {w w' : World} {μ' : Mu} {s' : S} (h : Rel G μ e a w) (hw : WR μ' s' w') (hf : Fr μ e.s w μ' s' w') : Rel G μ' { e with s := s' } a w' :=
  ⟨h.t.mono hf.mono, h.d.mono hf.mono, hw, h.g.mono hf.mono⟩
/-- is a guard's answer the same? -/
theorem wanted_ok {G : Nat} {e : Env} {a : Act} {w : World} (h : Rel G μ e a w) (ops : Array Oper) (o : Oper) : Region.wanted o (yielded ops a.tmps) = wantd ops.toList e o.guard := by
  unfold Region.wanted wantd
  cases hg : o.guard with
  | none => rfl
  | some jb =>
    obtain ⟨j, b⟩ := jb
    simp only [yielded, Array.getElem?_toList]
    cases hj : ops[j]? with
    | none => simp
    | some x =>
      simp only [Option.bind_some]
      cases hd : x.dst with
      | none => simp
      | some d =>
        simp only [Option.bind_some]
        have hv := h.t.2 d
        rw [Array.getD_eq_getD_getElem?] at hv
        cases hc : a.tmps[d]? with
        | none =>
          rw [hc] at hv
          simp only [Option.getD_none] at hv
          have : (e.t.get d).getD undef = .tuple #[] ∨ ∃ z, (e.t.get d).getD undef = .tuple z := by
            generalize (e.t.get d).getD undef = q at hv
            cases hv with
            | tup x y hx ex => exact .inr ⟨_, rfl⟩
          rcases this with e' | ⟨z, e'⟩ <;> rw [e'] <;> rfl
        | some u =>
          rw [hc] at hv
          simp only [Option.getD_some] at hv
          generalize (e.t.get d).getD undef = q at hv
          cases hv <;> first | rfl | simp
/-- a call, by its own contract. -/
def CallOK (p : Par) (call : CallF) : Prop :=
  ∀ (f : FuncId) (args : List Value) (s : S) (μ : Mu) (w : World) (args' : Array Value), callable p.P f = true → WR μ s w → GR μ p.G → VRs μ args args'.toList →
    match call f args s with
    | .ret v s' => ∀ R : Ending → World → Prop, (∀ μ' w' v', VR μ' v v' → WR μ' s' w' → Fr μ s w μ' s' w' → R (.returned v') w') → Calls p.P f args' w R
    | .panic v s' => ∀ R : Ending → World → Prop, (∀ μ' w' v', VR μ' v v' → WR μ' s' w' → Fr μ s w μ' s' w' → R (.panicked [{ v := v', recovered := false }]) w') → Calls p.P f args' w R
    | .bad => True
/-- functions without a body, and functions that are known: they turn nothing that was there. -/
def ExtOK (p : Par) : Prop :=
  ∀ (f : FuncId) (args : List Value) (v : Value) (μ : Mu) (s : S) (w : World) (args' : Array Value), p.ext f args s = some v → WR μ s w → GR μ p.G → VRs μ args args'.toList →
    (∃ v' d, (callFunc f args').run p.P w = .ok (.value v') { w with drawn := d } ∧ VR μ v v') ∨
    (callable p.P f = true ∧ Calls p.P f args' w fun e w' => ∃ v', e = .returned v' ∧ VR μ v v' ∧ Below w.heap.size w w')
/-- what lay there lies there still. -/
theorem below_ok {μ : Mu} {s : S} {w w' : World} (hw : WR μ s w) (h : Below w.heap.size w w') : WR μ s w' ∧ Fr μ s w μ s w' := by
  refine ⟨⟨hw.fresh, fun n o hn => ?_, hw.inj⟩, ⟨h.os, h.tape, h.output, h.size, fun _ _ e => e, fun b hb _ => h.block b hb, fun _ _ e => e, Nat.le_refl _, fun _ _ e => e, fun n o t hn _ ht => ⟨hn, h.block t.b (hw.lt hn ht)⟩⟩⟩
  obtain ⟨t, ht, ho⟩ := hw.obj n o hn
  exact ⟨t, ht, by rw [h.block t.b (hw.lt hn ht)]; exact ho⟩
theorem callFunc_run {P : Program} {f : FuncId} (h : callable P f = true) (args : Array Value) (w : World) : (callFunc f args).run P w = .ok (.enter f args) w := by
  unfold callable at h
  rw [Array.getElem?_toList] at h
  unfold callFunc
  rw [bind_ok (program_run w)]
  cases hf : P.funcs[f]? with
  | none => rw [hf] at h; cases h
  | some fn =>
    rw [hf] at h
    simp only [Bool.and_eq_true, Bool.not_eq_true'] at h
    simp only [h.2, Bool.false_eq_true, if_false]
    rw [if_neg (by cases hb : fn.body <;> simp_all)]
    rfl
/-- one operation: what comes next. -/
def StepQ (P : Program) (o : Oper) (G : Nat) (e : Env) (w : World) (μ : Mu) (r : EO) (K : Act → World → Prop) (Q : Exit → Act → World → Prop) : Prop :=
  match r with
  | .val v s' => ∀ μ' a' w', Rel G μ' ({ e with s := s' }.put o.dst v) a' w' → Fr μ e.s w μ' s' w' → K a' w'
  | .panic v s' => ∀ μ' a' w' v', VR μ' v v' → Rel G μ' { e with s := s' } a' w' → Fr μ e.s w μ' s' w' → Q (.panic [{ v := v', recovered := false }]) a' w'
  | .defer d => ∀ a', Rel G μ ({ e with d := d :: e.d }.put o.dst undef) a' w → K a' w
  | _ => False
theorem drawn_next {G : Nat} {e : Env} {a : Act} {w : World} (h : Rel G μ e a w) (d : Nat) : Rel G μ e a { w with drawn := d } := ⟨h.t, h.d, h.w.heap rfl, h.g⟩
theorem kind_lt (P : Program) (o : Oper) : kind P o = 0 ∨ kind P o = 1 ∨ kind P o = 2 := by
  unfold kind
  split <;> first
    | (left; rfl) | (right; left; rfl) | (right; right; rfl)
    | (split <;> first | (left; rfl) | (right; left; rfl) | (right; right; rfl))
theorem op_step (hc : CallOK p call) (he : ExtOK p) {o : Oper} {e : Env} {a : Act} {w : World} (h : Rel p.G μ e a w) (ho : opsOk p.G o = true) {K : Act → World → Prop} {Q : Exit → Act → World → Prop}
    (hq : StepQ p.P o p.G e w μ (evOp p call e.eval o e.s) K Q) : o.wp p.P a w K Q := by
  have hr : ∀ x ∈ o.op.operands, VR μ (e.eval x) (a.eval x) := fun x hx => h.eval (List.all_eq_true.1 ho x (Array.mem_toList_iff.2 hx))
  have fin : ∀ {v : Value}, Comp p.P μ (execOp a.eval o) v w → StepQ p.P o p.G e w μ (.val v e.s) K Q → o.wp p.P a w K Q := by
    intro v ⟨v', d, h1, h2⟩ hq
    unfold Oper.wp
    rw [h1, Oper.upon_value]
    exact hq μ _ _ ((drawn_next h d).put o.dst h2) (.drawn μ e.s w d)
  unfold evOp at hq
  rcases kind_lt p.P o with hk | hk | hk
  · simp only [hk] at hq
    cases hv : evPure p.P e.eval o with
    | none => simp only [hv] at hq; exact hq.elim
    | some v => simp only [hv] at hq; exact fin (evPure_ok hv hr w) hq
  · simp only [hk] at hq
    cases hv : evRead p.P e.eval o e.s with
    | none => simp only [hv] at hq; exact hq.elim
    | some v => simp only [hv] at hq; exact fin (evRead_ok h.w hv hr) hq
  · simp only [hk] at hq
    have hact := evAct_ok (P := p.P) h.w hr
    cases hv : evAct p.P e.eval o e.s with
    | bad => simp only [hv] at hq; exact hq.elim
    | recover => simp only [hv] at hq; exact hq.elim
    | val v s' =>
      simp only [hv] at hq hact
      obtain ⟨μ', w', nx, v', hrun, hnx, hvr, hw', hf'⟩ := hact
      unfold Oper.wp
      rw [hrun]
      rcases hnx with rfl | ⟨rfl, rfl⟩
      · rw [Oper.upon_value]
        exact hq μ' _ _ ((h.next hw' hf').put o.dst hvr) hf'
      · rw [Oper.upon_skip]
        exact hq μ' _ _ ((h.next hw' hf').put o.dst hvr) hf'
    | panic v =>
      simp only [hv] at hq hact
      obtain ⟨v', hrun, hvr⟩ := hact
      unfold Oper.wp
      rw [hrun, Oper.upon_panic]
      exact hq μ a w v' hvr h (.refl μ e.s w)
    | defer f args caps =>
      simp only [hv] at hq hact
      obtain ⟨d, caps', hrun, ht, h1, h2⟩ := hact
      unfold Oper.wp
      rw [hrun, Oper.upon_defer]
      have h3 : Rel p.G μ { e with d := ⟨f, args, caps⟩ :: e.d } { a with defers := d :: a.defers } w := ⟨h.t, ⟨⟨caps', ht, h1, h2⟩, h.d⟩, h.w, h.g⟩
      exact hq _ (h3.put o.dst (.undef μ))
    | enter f args =>
      simp only [hv] at hq hact
      obtain ⟨args', hrun, hargs⟩ := hact
      unfold Oper.wp
      rw [hrun]
      cases hx : p.ext f args e.s with
      | some v =>
        simp only [hx] at hq
        rcases he f args v μ e.s w args' hx h.w h.g hargs with ⟨v', d, h1, h2⟩ | ⟨hcl, hcalls⟩
        · rw [h1, Oper.upon_value]
          exact hq μ _ _ ((drawn_next h d).put o.dst h2) (.drawn μ e.s w d)
        · rw [callFunc_run hcl, Oper.upon_enter]
          refine hcalls.mono ?_
          rintro _ w' ⟨v', rfl, hv, hb⟩
          obtain ⟨h2, h3⟩ := below_ok h.w hb
          exact hq μ _ _ ((h.next h2 h3).put o.dst hv) h3
      | none =>
      simp only [hx] at hq
      cases hcl : callable p.P f with
      | true =>
        simp only [hcl, cond_true] at hq
        rw [callFunc_run hcl, Oper.upon_enter]
        have hcall := hc f args e.s μ w args' hcl h.w h.g hargs
        cases hres : call f args e.s with
        | bad => simp only [hres] at hq; exact hq.elim
        | ret v s' =>
          simp only [hres] at hq hcall
          exact hcall _ fun μ' w' v' h1 h2 h3 => hq μ' _ _ ((h.next h2 h3).put o.dst h1) h3
        | panic v s' =>
          simp only [hres] at hq hcall
          exact hcall _ fun μ' w' v' h1 h2 h3 => hq μ' _ _ v' h1 (h.next h2 h3) h3
      | false => simp only [hcl, cond_false] at hq; exact hq.elim
/-- an outcome satisfies a post. -/
def Sat (G : Nat) (μ : Mu) (s : S) (w : World) (Q : Exit → Act → World → Prop) : Out → Prop
  | .norm e => ∀ μ' a' w', Rel G μ' e a' w' → Fr μ s w μ' e.s w' → Q .normal a' w'
  | .ret e => ∀ μ' a' w', Rel G μ' e a' w' → Fr μ s w μ' e.s w' → Q .ret a' w'
  | .exit i e => ∀ μ' a' w', Rel G μ' e a' w' → Fr μ s w μ' e.s w' → Q (.exit i) a' w'
  | .panic v e => ∀ μ' a' w' v', VR μ' v v' → Rel G μ' e a' w' → Fr μ s w μ' e.s w' → Q (.panic [{ v := v', recovered := false }]) a' w'
  | .panicD v s' d => ∀ μ' a' w' v', VR μ' v v' → DR μ' d a'.defers → WR μ' s' w' → GR μ' G → Fr μ s w μ' s' w' → Q (.panic [{ v := v', recovered := false }]) a' w'
  | .bad => False
theorem Sat.from {G : Nat} {μ μ' : Mu} {s s' : S} {w w' : World} {Q : Exit → Act → World → Prop} {x : Out} (h : Sat G μ s w Q x) (hf : Fr μ s w μ' s' w') : Sat G μ' s' w' Q x := by
  cases x with
  | norm e => exact fun μ2 a2 w2 r f => h μ2 a2 w2 r (hf.trans f)
  | ret e => exact fun μ2 a2 w2 r f => h μ2 a2 w2 r (hf.trans f)
  | exit i e => exact fun μ2 a2 w2 r f => h μ2 a2 w2 r (hf.trans f)
  | panic v e => exact fun μ2 a2 w2 v' hv r f => h μ2 a2 w2 v' hv r (hf.trans f)
  | panicD v s2 d => exact fun μ2 a2 w2 v' hv r1 r2 r3 f => h μ2 a2 w2 v' hv r1 r2 r3 (hf.trans f)
  | bad => exact h
theorem put_s (e : Env) (d : Option Tmp) (v : Value) : (e.put d v).s = e.s := by
  unfold Env.put
  cases d with
  | none => rfl
  | some k => simp only; cases Nat.blt k e.nt <;> rfl
theorem ops_ok (hc : CallOK p call) (he : ExtOK p) (ops : Array Oper) {Q : Exit → Act → World → Prop} : ∀ (l : List Oper) (e : Env) (μ : Mu) (a : Act) (w : World), Rel p.G μ e a w → Sat p.G μ e.s w Q (evOps p call ops.toList l e) → wpList p.P ops Q l a w
  | [], e, μ, a, w, h, hs => by
    simp only [evOps] at hs
    exact hs μ a w h (.refl μ e.s w)
  | o :: l, e, μ, a, w, h, hs => by
    simp only [evOps] at hs
    unfold wpList
    rw [wanted_ok h]
    cases hw : wantd ops.toList e o.guard with
    | false =>
      simp only [hw, cond_false] at hs
      rw [if_neg (by simp)]
      refine ops_ok hc he ops l _ μ _ w (h.put o.dst (.undef μ)) ?_
      rw [put_s]; exact hs
    | true =>
      simp only [hw, cond_true] at hs
      rw [if_pos rfl]
      left
      cases hok : opsOk p.G o with
      | false => simp only [hok, cond_false] at hs; exact hs.elim
      | true =>
        simp only [hok, cond_true] at hs
        refine op_step hc he h hok ?_
        cases hr : evOp p call e.eval o e.s with
        | val v s' =>
          simp only [hr] at hs
          intro μ' a' w' hrel hf
          refine ops_ok hc he ops l _ μ' a' w' hrel ?_
          rw [put_s]; exact hs.from hf
        | panic v s' =>
          simp only [hr] at hs
          exact fun μ' a' w' v' hv hrel hf => hs μ' a' w' v' hv hrel hf
        | defer d =>
          simp only [hr] at hs
          intro a' hrel
          refine ops_ok hc he ops l _ μ a' w hrel ?_
          rw [put_s]; exact hs
        | recover => simp only [hr] at hs; exact hs.elim
        | bad => simp only [hr] at hs; exact hs.elim
end
end Go.Ev

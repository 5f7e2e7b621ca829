/- calls, deferred calls: what the evaluator answers is what the model does. -/
import Derived.Test.YtgeklgnjnjpofaaGreatDoorEvCode
set_option linter.unusedVariables false
set_option linter.unusedSimpArgs false
namespace Go.Ev
open Go Go.RowKit
section
variable {p : Par} {call : CallF} {μ : Mu}
theorem mapM_run {P : Program} {α : Type} (f : α → Sem Value) (w : World) : ∀ (l : List α) (vs : List Value), l.length = vs.length → (∀ (i : Nat) (x : α) (v : Value), l[i]? = some x → vs[i]? = some v → (f x).run P w = .ok v w) → (l.mapM f).run P w = .ok vs w
  | [], vs, hl, h => by
    have : vs = [] := List.length_eq_zero_iff.1 hl.symm
    subst this; rfl
  | x :: l, [], hl, h => by simp at hl
  | x :: l, v :: vs, hl, h => by
    rw [List.mapM_cons, bind_ok (h 0 x v rfl rfl), bind_ok (mapM_run f w l vs (by simpa using hl) fun i y u h1 h2 => h (i + 1) y u (by simpa using h1) (by simpa using h2))]
    rfl
/-- results. -/
def resS (tm : Array Value) : ResultVar → Sem Value
  | .tmp t => pure (tm.getD t undef)
  | .cell x t => do loadVar t (← asAddr (tm.getD x undef))
def tupV : List Value → Value
  | [v] => v
  | vs => .tuple vs.toArray
theorem resV_ok {G : Nat} {e : Env} {a : Act} {w : World} (h : Rel G μ e a w) {P : Program} {r : ResultVar} {v : Value} (hv : resV P e r = some v) :
    ∃ v', VR μ v v' ∧ (resS a.tmps r).run P w = .ok v' w := by
  cases r with
  | tmp t =>
    simp only [resV, Option.some.injEq] at hv
    exact ⟨_, by rw [← hv]; exact h.t.2 t, rfl⟩
  | cell x t =>
    simp only [resV] at hv
    have hx := h.t.2 x
    split at hv
    · rename_i ad e1
      rw [e1] at hx
      split at hv
      · cases hv
      · rename_i d hu
        obtain ⟨b, v', e2, hrun, hvr⟩ := loadVar_ok h.w hu hx hv
        refine ⟨v', hvr, ?_⟩
        show (do loadVar t (← asAddr (a.tmps.getD x undef)) : Sem Value).run P w = _
        rw [e2, bind_ok (show (asAddr (.pointer (some b))).run P w = .ok b w from rfl)]
        exact hrun
    · cases hv
theorem resL_ok {G : Nat} {e : Env} {a : Act} {w : World} (h : Rel G μ e a w) {P : Program} : ∀ (l : List ResultVar) (vs : List Value), resL P e l = some vs → ∃ vs', VRs μ vs vs' ∧ (l.mapM (resS a.tmps)).run P w = .ok vs' w
  | [], vs, hv => by
    simp only [resL, Option.some.injEq] at hv
    subst hv
    exact ⟨[], .nil μ, rfl⟩
  | r :: l, vs, hv => by
    simp only [resL] at hv
    split at hv
    · rename_i v h1
      split at hv
      · rename_i us h2
        injection hv with hv; subst hv
        obtain ⟨v', a1, a2⟩ := resV_ok h h1
        obtain ⟨us', b1, b2⟩ := resL_ok h l us h2
        refine ⟨v' :: us', .cons a1 b1, ?_⟩
        rw [List.mapM_cons]
        rw [bind_ok a2, bind_ok b2]
        rfl
      · cases hv
    · cases hv
theorem results_run {P : Program} {fn : Func} {tm : Array Value} {w : World} {vs : List Value} (h : (fn.results.toList.mapM (resS tm)).run P w = .ok vs w) :
    (results fn tm).run P w = .ok (tupV vs) w := by
  have e1 : results fn tm = (fn.results.mapM (resS tm) >>= fun vs => pure (if h : vs.size = 1 then vs[0] else .tuple vs)) := by
    unfold results
    congr 1
  have h2 : (fn.results.mapM (resS tm)).run P w = .ok vs.toArray w := by
    rw [Array.mapM_eq_mapM_toList]
    show (List.toArray <$> fn.results.toList.mapM (resS tm)).run P w = _
    rw [map_eq_pure_bind, bind_ok h]
    rfl
  rw [e1, bind_ok h2]
  match vs with
  | [] => rfl
  | [v] => rfl
  | v :: u :: vs => rfl
theorem leave_ok {G : Nat} {e : Env} {a : Act} {w : World} (h : Rel G μ e a w) {P : Program} {fn : Func} {v : Value} {s : S} (hl : leave P fn e = .ret v s) : s = e.s ∧ ∃ v', VR μ v v' ∧ (results fn a.tmps).run P w = .ok v' w := by
  unfold leave at hl
  split at hl
  · rename_i u h1
    injection hl with e1 e2
    subst e1; subst e2
    obtain ⟨vs', a1, a2⟩ := resL_ok h _ _ h1
    obtain ⟨y, r, e3, a3, a4⟩ := a1.head
    rw [a4.nil_inv] at e3
    subst e3
    exact ⟨rfl, y, a3, results_run a2⟩
  · rename_i vs hne h1
    injection hl with e1 e2
    subst e1; subst e2
    obtain ⟨vs', a1, a2⟩ := resL_ok h _ _ h1
    refine ⟨rfl, .tuple vs'.toArray, VR.tup_iff.2 (by simpa using a1), ?_⟩
    have := results_run a2
    match vs', a1 with
    | [], _ => exact this
    | [v], a1 =>
      exfalso
      match vs, a1.1 with
      | [u], _ => exact hne u rfl
    | v :: u :: r, _ => exact this
  · cases hl
theorem enter_rel {G : Nat} {fn : Func} {args : List Value} {args' : Array Value} {s : S} {w : World} (hw : WR μ s w) (hg : GR μ G) (ha : VRs μ args args'.toList) :
    Rel G μ (enterE fn args s) { tmps := args' ++ Array.replicate (fn.ntmps - args'.size) undef, defers := [] } w := by
  have hl : args.length = args'.size := by have := ha.1; simpa using this
  refine ⟨⟨?_, fun k => ?_⟩, trivial, hw, hg⟩
  · show (args' ++ Array.replicate (fn.ntmps - args'.size) undef).size = max fn.ntmps args.length
    simp; omega
  · show VR μ (((T.puts args 0 .e).get k).getD undef) _
    rw [puts_get]
    by_cases hk : k < args.length
    · rw [if_pos (by omega), Nat.sub_zero, List.getElem?_eq_getElem hk]
      have := ha.2 k hk
      rw [List.getD_eq_getElem?_getD, List.getElem?_eq_getElem hk, ← getD_toList] at this
      simp only [Array.getD_eq_getD_getElem?] at this ⊢
      rw [Array.getElem?_append_left (by omega)]
      exact this
    · rw [if_neg (by omega), get_e]
      simp only [Array.getD_eq_getD_getElem?]
      rw [Array.getElem?_append_right (by omega)]
      by_cases h2 : k - args'.size < fn.ntmps - args'.size
      · rw [Array.getElem?_eq_getElem (by simpa using h2)]; simp; exact .undef μ
      · rw [Array.getElem?_eq_none (by simpa using h2)]; exact .undef μ
/-- how the frame below stands. -/
def MR (μ : Mu) : PS → FrameMode → Prop
  | .idle, u => u = .returning
  | .pan v, u => ∃ v', VR μ v v' ∧ u = .panicking [{ v := v', recovered := false }]
  | .got v, u => ∃ v', VR μ v v' ∧ u = .panicking [{ v := v', recovered := true }]
theorem MR.mono {μ μ' : Mu} (hm : ∀ n t, μ n = some t → μ' n = some t) {x : PS} {u : FrameMode} (h : MR μ x u) : MR μ' x u := by
  cases x with
  | idle => exact h
  | pan v => obtain ⟨v', a, b⟩ := h; exact ⟨v', a.mono hm, b⟩
  | got v => obtain ⟨v', a, b⟩ := h; exact ⟨v', a.mono hm, b⟩
/-- an outcome of a deferred call's code satisfies a post. -/
def SatS (G : Nat) (μ : Mu) (s : S) (w : World) (c0 : Frame) (cs : List Frame) (Q : Exit → Act → List Frame → World → Prop) : OutS → Prop
  | .norm e u => ∀ μ' a' w' m', Rel G μ' e a' w' → Fr μ s w μ' e.s w' → MR μ' u m' → Q .normal a' ({ c0 with mode := m' } :: cs) w'
  | .ret e u => ∀ μ' a' w' m', Rel G μ' e a' w' → Fr μ s w μ' e.s w' → MR μ' u m' → Q .ret a' ({ c0 with mode := m' } :: cs) w'
  | .bad => False
theorem SatS.from {G : Nat} {μ μ' : Mu} {s s' : S} {w w' : World} {c0 : Frame} {cs : List Frame} {Q : Exit → Act → List Frame → World → Prop} {x : OutS} (h : SatS G μ s w c0 cs Q x) (hf : Fr μ s w μ' s' w') : SatS G μ' s' w' c0 cs Q x := by
  cases x with
  | norm e u => exact fun μ2 a2 w2 m2 r f hm => h μ2 a2 w2 m2 r (hf.trans f) hm
  | ret e u => exact fun μ2 a2 w2 m2 r f hm => h μ2 a2 w2 m2 r (hf.trans f) hm
  | bad => exact h
theorem recover_pan {c0 : Frame} {cs : List Frame} {v : Value} : recoverD ({ c0 with mode := .panicking [{ v := v, recovered := false }] } :: cs) = some (v, { c0 with mode := .panicking [{ v := v, recovered := true }] } :: cs) := rfl
theorem opsS_ok (hc : CallOK p call) (he : ExtOK p) (ops : Array Oper) {c0 : Frame} {cs : List Frame} {Q : Exit → Act → List Frame → World → Prop} : ∀ (l : List Nat) (r : List Oper) (e : Env) (u : PS) (m : FrameMode) (μ : Mu) (a : Act) (w : World), (∀ j : Nat, r[j]? = (l[j]?).bind (fun i => ops[i]?)) → l.length = r.length → Rel p.G μ e a w → MR μ u m →
    SatS p.G μ e.s w c0 cs Q (evOpsS p call ops.toList r e u) → wpOpsS p.P ops Q l a ({ c0 with mode := m } :: cs) w
  | [], [], e, u, m, μ, a, w, hlr, hll, h, hm, hs => by
    simp only [evOpsS] at hs
    exact hs μ a w m h (.refl μ e.s w) hm
  | i :: l, [], e, u, m, μ, a, w, hlr, hll, h, hm, hs => by simp at hll
  | [], o :: r, e, u, m, μ, a, w, hlr, hll, h, hm, hs => by simp at hll
  | i :: l, o :: r, e, u, m, μ, a, w, hlr, hll, h, hm, hs => by
    have ho : ops[i]? = some o := by have := hlr 0; simpa using this.symm
    have hlr' : ∀ j : Nat, r[j]? = (l[j]?).bind (fun i => ops[i]?) := fun j => by have := hlr (j + 1); simpa using this
    have hll' : l.length = r.length := by simpa using hll
    simp only [evOpsS] at hs
    unfold wpOpsS
    rw [ho]
    simp only
    rw [wanted_ok h]
    cases hw : wantd ops.toList e o.guard with
    | false =>
      simp only [hw, cond_false] at hs
      rw [if_neg (by simp)]
      refine opsS_ok hc he ops l r _ u m μ _ w hlr' hll' (h.put o.dst (.undef μ)) hm ?_
      rw [put_s]; exact hs
    | true =>
      simp only [hw, cond_true] at hs
      rw [if_pos rfl]
      cases hok : opsOk p.G o with
      | false => simp only [hok, cond_false] at hs; exact hs.elim
      | true =>
      simp only [hok, cond_true] at hs
      have hr : ∀ x ∈ o.op.operands, VR μ (e.eval x) (a.eval x) := fun x hx => h.eval (List.all_eq_true.1 hok x (Array.mem_toList_iff.2 hx))
      cases hev : evOp p call e.eval o e.s with
      | panic v s => simp only [hev] at hs; exact hs.elim
      | defer d => simp only [hev] at hs; exact hs.elim
      | bad => simp only [hev] at hs; exact hs.elim
      | val v s' =>
        simp only [hev] at hs
        have hwp : o.wp p.P a w (fun a' w' => wpOpsS p.P ops Q l a' ({ c0 with mode := m } :: cs) w') (fun e a' w' => Q e a' ({ c0 with mode := m } :: cs) w') := by
          refine op_val hc he hr h.w h.g hev fun μ' w' v' h1 h2 h3 => ?_
          refine opsS_ok hc he ops l r _ u m μ' _ w' hlr' hll' ((h.next h2 h3).put o.dst h1) (hm.mono h3.mono) ?_
          rw [put_s]; exact hs.from h3
        unfold Oper.wp at hwp
        split
        · rename_i w' hrun
          rw [hrun] at hwp
          exact hwp.elim
        · exact hwp
      | recover =>
        simp only [hev] at hs
        have hrun : (execOp a.eval o).run p.P w = .ok .recover w := by
          unfold evOp at hev
          rcases kind_lt p.P o with hk | hk | hk
          · simp only [hk] at hev; split at hev <;> cases hev
          · simp only [hk] at hev; split at hev <;> cases hev
          · simp only [hk] at hev
            have hact := evAct_ok (P := p.P) h.w hr
            cases ha : evAct p.P e.eval o e.s with
            | recover => rw [ha] at hact; exact hact
            | val v s => simp only [ha] at hev; cases hev
            | panic v => simp only [ha] at hev; cases hev
            | defer f x y => simp only [ha] at hev; cases hev
            | bad => simp only [ha] at hev; cases hev
            | enter f args =>
              simp only [ha] at hev
              cases hx : p.ext f args e.s with
              | some v => simp only [hx] at hev; cases hev
              | none =>
              simp only [hx] at hev
              cases hcl : callable p.P f with
              | true => simp only [hcl, cond_true] at hev; split at hev <;> cases hev
              | false => simp only [hcl, cond_false] at hev; cases hev
        rw [hrun]
        simp only
        cases u with
        | idle =>
          simp only at hs
          have hm' : m = .returning := hm
          subst hm'
          show wpOpsS p.P ops Q l (a.put o.dst .nilIface) ({ c0 with mode := .returning } :: cs) w
          refine opsS_ok hc he ops l r _ .idle _ μ _ w hlr' hll' (h.put o.dst .nili) rfl ?_
          rw [put_s]; exact hs
        | got v =>
          simp only at hs
          obtain ⟨v', hv, rfl⟩ := hm
          show wpOpsS p.P ops Q l (a.put o.dst .nilIface) ({ c0 with mode := .panicking [{ v := v', recovered := true }] } :: cs) w
          refine opsS_ok hc he ops l r _ (.got v) _ μ _ w hlr' hll' (h.put o.dst .nili) ⟨v', hv, rfl⟩ ?_
          rw [put_s]; exact hs
        | pan v =>
          simp only at hs
          obtain ⟨v', hv, rfl⟩ := hm
          show wpOpsS p.P ops Q l (a.put o.dst v') ({ c0 with mode := .panicking [{ v := v', recovered := true }] } :: cs) w
          refine opsS_ok hc he ops l r _ (.got v) _ μ _ w hlr' hll' (h.put o.dst hv) ⟨v', hv, rfl⟩ ?_
          rw [put_s]; exact hs
theorem codeS_of (hm : p.P.follows .mixedOrders = true) (hc : CallOK p call) (he : ExtOK p) (N : Nat) (c : Code) {c0 : Frame} {cs : List Frame} {Q : Exit → Act → List Frame → World → Prop} {e : Env} {u : PS} {m : FrameMode} {a : Act} {w : World} (h : Rel p.G μ e a w) (hmr : MR μ u m)
    (hs : SatS p.G μ e.s w c0 cs Q (ofOut (evCode p call N c e) u)) : c.wpS p.P Q a ({ c0 with mode := m } :: cs) w := by
  refine wpS_of_wp (code_ok hm hc he N c _ e μ a w h ?_)
  unfold ofOut at hs
  cases hx : evCode p call N c e with
  | norm e1 => simp only [hx] at hs; exact fun μ' a' w' hr hf => hs μ' a' w' m hr hf (hmr.mono hf.mono)
  | ret e1 => simp only [hx] at hs; exact fun μ' a' w' hr hf => hs μ' a' w' m hr hf (hmr.mono hf.mono)
  | exit i e1 => simp only [hx] at hs; exact hs.elim
  | panic v e1 => simp only [hx] at hs; exact hs.elim
  | panicD v s1 d1 => simp only [hx] at hs; exact hs.elim
  | bad => simp only [hx] at hs; exact hs.elim
theorem codeS_ok (hm : p.P.follows .mixedOrders = true) (hc : CallOK p call) (he : ExtOK p) (N : Nat) {c0 : Frame} {cs : List Frame} : ∀ (c : Code) (Q : Exit → Act → List Frame → World → Prop) (e : Env) (u : PS) (m : FrameMode) (μ : Mu) (a : Act) (w : World), Rel p.G μ e a w → MR μ u m →
    SatS p.G μ e.s w c0 cs Q (evCodeS p call N c e u) → c.wpS p.P Q a ({ c0 with mode := m } :: cs) w := by
  intro c
  induction c with
  | seq x y ihx ihy =>
    intro Q e u m μ a w h hmr hs
    simp only [evCodeS] at hs
    refine wpS_seq (ihx _ e u m μ a w h hmr ?_)
    cases hx : evCodeS p call N x e u with
    | norm e1 u1 =>
      simp only [hx] at hs
      intro μ' a' w' m' hr hf hm'
      exact ihy Q e1 u1 m' μ' a' w' hr hm' (hs.from hf)
    | ret e1 u1 => simp only [hx] at hs; exact hs
    | bad => simp only [hx] at hs; exact hs.elim
  | cond c x y ihx ihy =>
    intro Q e u m μ a w h hmr hs
    simp only [evCodeS] at hs
    cases hok : opOk p.G c with
    | false => simp only [hok, cond_false] at hs; exact hs.elim
    | true =>
      simp only [hok, cond_true] at hs
      have hv := h.eval hok
      split at hs
      · rename_i hb
        rw [hb] at hv
        exact wpS_cond (bool_inv hv) (ihx Q e u m μ a w h hmr hs)
      · rename_i hb
        rw [hb] at hv
        exact wpS_cond (bool_inv hv) (ihy Q e u m μ a w h hmr hs)
      · exact hs.elim
  | region id ops draw =>
    intro Q e u m μ a w h hmr hs
    cases draw with
    | true => exact codeS_of hm hc he N _ h hmr hs
    | false =>
      simp only [evCodeS] at hs
      refine wpS_region (opsS_ok hc he ops _ ops.toList e u m μ a w (fun j => ?_) (by simp) h hmr hs)
      by_cases hj : j < ops.size
      · simp [hj]
      · simp [hj]
  | _ => intro Q e u m μ a w h hmr hs; exact codeS_of hm hc he N _ h hmr hs
end
end Go.Ev

/- calls: what the evaluator answers is what the model does. -/
import Derived.Test.YtgeklgnjnjpofaaGreatDoorEvCalls
set_option linter.unusedVariables false
set_option linter.unusedSimpArgs false
namespace Go.Ev
open Go Go.RowKit
section
variable {p : Par} {call : CallF} {μ : Mu}
theorem Fr.of_enter {fn : Func} {args : List Value} {s : S} : (enterE fn args s).s = s := rfl
theorem dr_nil {l : List ADefer} {m : List Deferred} (h : DR μ l m) (e : l = []) : m = [] := by
  subst e
  cases m with
  | nil => rfl
  | cons x m => exact h.elim
theorem defer_ok (hm : p.P.follows .mixedOrders = true) (hc : CallOK p call) (he : ExtOK p) (N : Nat) {f : FuncId} {args : List Value} {args' : Array Value} {s s' : S} {u u' : PS} {m : FrameMode} {w : World} (hw : WR μ s w) (hg : GR μ p.G) (ha : VRs μ args args'.toList) (hmr : MR μ u m)
    (h : evDefer p call N f args s u = some (s', u')) : callable p.P f = true ∧ CallsD p.P f args' m w fun e m' w' => ∃ v μ', e = .returned v ∧ MR μ' u' m' ∧ WR μ' s' w' ∧ Fr μ s w μ' s' w' := by
  unfold evDefer at h
  cases hcl : callable p.P f with
  | false => rw [hcl] at h; cases h
  | true =>
  rw [hcl] at h
  simp only [cond_true] at h
  refine ⟨rfl, ?_⟩
  split at h
  · rename_i fn hf
    split at h
    · rename_i c hb
      rw [Array.getElem?_toList] at hf
      refine callsD_of_wpS hf hb fun c₀ cs hcm => ?_
      have hc0 : ({ c₀ with mode := m } : Frame) = c₀ := by subst hcm; rfl
      have main : c.wpS p.P (bodyPostS p.P fn c₀ cs fun e m' w' => ∃ v μ', e = .returned v ∧ MR μ' u' m' ∧ WR μ' s' w' ∧ Fr μ s w μ' s' w') { tmps := args' ++ Array.replicate (fn.ntmps - args'.size) undef, defers := [] } ({ c₀ with mode := m } :: cs) w := by
        refine codeS_ok hm hc he N c _ (enterE fn args s) u m μ _ w (enter_rel hw hg ha) hmr ?_
        cases hx : evCodeS p call N c (enterE fn args s) u with
        | bad => simp only [hx] at h; cases h
        | norm e1 u1 =>
          simp only [hx] at h
          split at h
          · rename_i v1 s1 hd hl
            injection h with h
            injection h with h1 h2
            subst h1; subst h2
            intro μ' a' w' m' hr hf' hm'
            obtain ⟨hs1, v', hv', hres⟩ := leave_ok hr hl
            subst hs1
            exact ⟨dr_nil hr.d hd, m', rfl, v', hres, v', μ', rfl, hm', hr.w, hf'⟩
          · cases h
        | ret e1 u1 =>
          simp only [hx] at h
          split at h
          · rename_i v1 s1 hd hl
            injection h with h
            injection h with h1 h2
            subst h1; subst h2
            intro μ' a' w' m' hr hf' hm'
            obtain ⟨hs1, v', hv', hres⟩ := leave_ok hr hl
            subst hs1
            exact ⟨dr_nil hr.d hd, m', rfl, v', hres, v', μ', rfl, hm', hr.w, hf'⟩
          · cases h
      rw [hc0] at main
      exact main
    · cases h
  · cases h
theorem settle_ok {x : PS} {m : FrameMode} (h : MR μ x m) : MR μ x.settle (settle m) := by
  cases x with
  | idle => have h' : m = .returning := h; subst h'; rfl
  | pan v => obtain ⟨v', a, rfl⟩ := h; exact ⟨v', a, rfl⟩
  | got v => obtain ⟨v', a, rfl⟩ := h; rfl
theorem mr_run {x : PS} {m : FrameMode} (h : MR μ x m) : m ≠ .run := by
  cases x with
  | idle => have h' : m = .returning := h; subst h'; simp
  | pan v => obtain ⟨v', a, rfl⟩ := h; simp
  | got v => obtain ⟨v', a, rfl⟩ := h; simp
/-- what a call's end satisfies. -/
def SatC (μ : Mu) (s : S) (w : World) (R : Ending → World → Prop) : COut → Prop
  | .ret v s' => ∀ μ' w' v', VR μ' v v' → WR μ' s' w' → Fr μ s w μ' s' w' → R (.returned v') w'
  | .panic v s' => ∀ μ' w' v', VR μ' v v' → WR μ' s' w' → Fr μ s w μ' s' w' → R (.panicked [{ v := v', recovered := false }]) w'
  | .bad => False
theorem SatC.from {μ μ' : Mu} {s s' : S} {w w' : World} {R : Ending → World → Prop} {x : COut} (h : SatC μ s w R x) (hf : Fr μ s w μ' s' w') : SatC μ' s' w' R x := by
  cases x with
  | ret v s2 => exact fun μ2 w2 v2 a b c => h μ2 w2 v2 a b (hf.trans c)
  | panic v s2 => exact fun μ2 w2 v2 a b c => h μ2 w2 v2 a b (hf.trans c)
  | bad => exact h
theorem unwind_ok (hm : p.P.follows .mixedOrders = true) (hc : CallOK p call) (he : ExtOK p) (N : Nat) {fn : Func} {e : Env} {tm : Array Value} {R : Ending → World → Prop} :
    ∀ (ds : List ADefer) (dsC : List Deferred) (s : S) (u : PS) (m : FrameMode) (μ : Mu) (w : World), DR μ ds dsC → MR μ u m → WR μ s w → GR μ p.G → TR μ e.t e.nt tm → SatC μ s w R (unwind p call N fn e ds s u) → Leaves p.P fn tm R dsC m w
  | [], dsC, s, u, m, μ, w, hd, hmr, hw, hg, ht, hs => by
    have hdc := dr_nil hd rfl
    subst hdc
    cases u with
    | idle =>
      have hm' : m = .returning := hmr
      subst hm'
      simp only [unwind] at hs
      cases hl : leave p.P fn { e with s := s } with
      | bad => rw [hl] at hs; exact hs.elim
      | panic v s' =>
        unfold leave at hl
        split at hl <;> cases hl
      | ret v s' =>
        rw [hl] at hs
        have hrel : Rel p.G μ { e with s := s, d := [] } { tmps := tm, defers := [] } w := ⟨ht, trivial, hw, hg⟩
        have hl' : leave p.P fn { e with s := s, d := [] } = .ret v s' := by
          rw [← hl]
          have key : ∀ l : List ResultVar, resL p.P { e with s := s, d := [] } l = resL p.P { e with s := s } l := by
            intro l
            induction l with
            | nil => rfl
            | cons r l ih =>
              simp only [resL, ih]
              cases r <;> rfl
          unfold leave
          rw [key]
        obtain ⟨hs1, v', hv', hres⟩ := leave_ok hrel hl'
        subst hs1
        exact ⟨v', hres, hs μ w v' hv' hw (.refl μ _ w)⟩
    | pan v =>
      obtain ⟨v', hv, rfl⟩ := hmr
      simp only [unwind] at hs
      exact hs μ w v' hv hw (.refl μ s w)
    | got v => simp only [unwind] at hs; exact hs.elim
  | d :: ds, [], s, u, m, μ, w, hd, hmr, hw, hg, ht, hs => hd.elim
  | d :: ds, c :: cs, s, u, m, μ, w, hd, hmr, hw, hg, ht, hs => by
    obtain ⟨⟨caps, h1, h2, h3⟩, hd⟩ := hd
    simp only [unwind] at hs
    cases hx : evDefer p call N d.f (d.args ++ d.caps) s u with
    | none => simp only [hx] at hs; exact hs.elim
    | some su =>
      obtain ⟨s', u'⟩ := su
      simp only [hx] at hs
      obtain ⟨hcl, hcd⟩ := defer_ok hm hc he N (args' := c.args ++ caps) hw hg (by rw [Array.toList_append]; exact h2.append h3) hmr hx
      refine ⟨mr_run hmr, .func d.f, caps, d.f, c.args ++ caps, h1, ?_, ?_⟩
      · rw [h1]
        show (callFunc d.f (c.args ++ caps)).run p.P w = _
        exact callFunc_run hcl _ w
      · refine fun c₀ cs₀ hcm => ?_
        obtain ⟨e', u2, w', fr, hR, rest⟩ := hcd c₀ cs₀ hcm
        obtain ⟨v, μ', rfl, hm', hw', hf'⟩ := hR
        refine ⟨.returned v, u2, w', fr, ?_, rest⟩
        exact unwind_ok hm hc he N ds cs s' u'.settle (settle u2) μ' w' (hd.mono hf'.mono) (settle_ok hm') hw' (hg.mono hf'.mono) (ht.mono hf'.mono) (hs.from hf')
theorem unwindD_ok (hm : p.P.follows .mixedOrders = true) (hc : CallOK p call) (he : ExtOK p) (N : Nat) {fn : Func} {tm : Array Value} {R : Ending → World → Prop} :
    ∀ (ds : List ADefer) (dsC : List Deferred) (s : S) (u : PS) (m : FrameMode) (μ : Mu) (w : World), DR μ ds dsC → MR μ u m → WR μ s w → GR μ p.G → SatC μ s w R (unwindD p call N ds s u) → Leaves p.P fn tm R dsC m w
  | [], dsC, s, u, m, μ, w, hd, hmr, hw, hg, hs => by
    have hdc := dr_nil hd rfl
    subst hdc
    cases u with
    | idle => simp only [unwindD] at hs; exact hs.elim
    | pan v =>
      obtain ⟨v', hv, rfl⟩ := hmr
      simp only [unwindD] at hs
      exact hs μ w v' hv hw (.refl μ s w)
    | got v => simp only [unwindD] at hs; exact hs.elim
  | d :: ds, [], s, u, m, μ, w, hd, hmr, hw, hg, hs => hd.elim
  | d :: ds, c :: cs, s, u, m, μ, w, hd, hmr, hw, hg, hs => by
    obtain ⟨⟨caps, h1, h2, h3⟩, hd⟩ := hd
    simp only [unwindD] at hs
    cases hx : evDefer p call N d.f (d.args ++ d.caps) s u with
    | none => simp only [hx] at hs; exact hs.elim
    | some su =>
      obtain ⟨s', u'⟩ := su
      simp only [hx] at hs
      obtain ⟨hcl, hcd⟩ := defer_ok hm hc he N (args' := c.args ++ caps) hw hg (by rw [Array.toList_append]; exact h2.append h3) hmr hx
      refine ⟨mr_run hmr, .func d.f, caps, d.f, c.args ++ caps, h1, ?_, ?_⟩
      · rw [h1]
        show (callFunc d.f (c.args ++ caps)).run p.P w = _
        exact callFunc_run hcl _ w
      · refine fun c₀ cs₀ hcm => ?_
        obtain ⟨e', u2, w', fr, hR, rest⟩ := hcd c₀ cs₀ hcm
        obtain ⟨v, μ', rfl, hm', hw', hf'⟩ := hR
        refine ⟨.returned v, u2, w', fr, ?_, rest⟩
        exact unwindD_ok hm hc he N ds cs s' u'.settle (settle u2) μ' w' (hd.mono hf'.mono) (settle_ok hm') hw' (hg.mono hf'.mono) (hs.from hf')
theorem call_ok (hm : p.P.follows .mixedOrders = true) (he : ExtOK p) (N : Nat) : ∀ k, CallOK p (evCall p N k)
  | 0 => fun f args s μ w args' hcl hw hg ha => trivial
  | k + 1 => by
    have hc := call_ok hm he N k
    intro f args s μ w args' hcl hw hg ha
    have main : ∀ R : Ending → World → Prop, SatC μ s w R (evCall p N (k + 1) f args s) → Calls p.P f args' w R := by
      intro R hs
      simp only [evCall] at hs
      cases hf : p.P.funcs.toList[f]? with
      | none => simp only [hf] at hs; exact hs.elim
      | some fn =>
        simp only [hf] at hs
        cases hb : fn.body with
        | none => simp only [hb] at hs; exact hs.elim
        | some c =>
          simp only [hb] at hs
          rw [Array.getElem?_toList] at hf
          refine calls_of_wp_defers hf hb ?_
          refine code_ok hm hc he N c _ (enterE fn args s) μ _ w (enter_rel hw hg ha) ?_
          cases hx : evCode p (evCall p N k) N c (enterE fn args s) with
          | bad => simp only [hx] at hs; exact hs.elim
          | exit i e1 => simp only [hx] at hs; exact hs.elim
          | norm e1 =>
            simp only [hx] at hs
            intro μ' a' w' hr hf'
            exact unwind_ok hm hc he N e1.d a'.defers e1.s .idle .returning μ' w' hr.d rfl hr.w hr.g hr.t (hs.from hf')
          | ret e1 =>
            simp only [hx] at hs
            intro μ' a' w' hr hf'
            exact unwind_ok hm hc he N e1.d a'.defers e1.s .idle .returning μ' w' hr.d rfl hr.w hr.g hr.t (hs.from hf')
          | panic v e1 =>
            simp only [hx] at hs
            intro μ' a' w' v' hv hr hf'
            exact unwind_ok hm hc he N e1.d a'.defers e1.s (.pan v) _ μ' w' hr.d ⟨v', hv, rfl⟩ hr.w hr.g hr.t (hs.from hf')
          | panicD v s1 d1 =>
            simp only [hx] at hs
            intro μ' a' w' v' hv hr1 hr2 hr3 hf'
            exact unwindD_ok hm hc he N d1 a'.defers s1 (.pan v) _ μ' w' hr1 ⟨v', hv, rfl⟩ hr2 hr3 (hs.from hf')
    cases hres : evCall p N (k + 1) f args s with
    | bad => trivial
    | ret v s' => exact fun R hR => main R (by rw [hres]; exact hR)
    | panic v s' => exact fun R hR => main R (by rw [hres]; exact hR)
/-- a closed run that answers true. -/
def isTrue : COut → Bool
  | .ret (.bool true) _ => true
  | _ => false
theorem WR.empty (w : World) : WR (fun _ => none) ⟨.e, 0⟩ w := ⟨fun _ _ => rfl, fun n o h => (by cases h), fun n m o p t u h => (by cases h)⟩
theorem not_inR (w : World) (b : Nat) : ¬ InR (fun _ => none) ⟨.e, 0⟩ b := fun ⟨n, o, t, h, _⟩ => by cases h
theorem Fr.below {w w' : World} {μ' : Mu} {s' : S} (h : Fr (fun _ => none) ⟨.e, 0⟩ w μ' s' w') : Below w.heap.size w w' := ⟨h.os, h.tape, h.output, h.size, fun k hk => h.keep k hk (not_inR w k)⟩
theorem run_true (P : Program) (hm : P.follows .mixedOrders = true) (ext : FuncId → List Value → S → Option Value) (he : ExtOK ⟨P, 0, ext⟩) (N k : Nat) (f : FuncId) (args : List Value) (hp : args.all plain = true) (hcl : callable P f = true) (h : isTrue (evCall ⟨P, 0, ext⟩ N k f args ⟨.e, 0⟩) = true) (w : World) :
    Calls P f args.toArray w fun e w' => e = .returned (.bool true) ∧ Below w.heap.size w w' := by
  have hargs : ∀ l : List Value, l.all plain = true → VRs (fun _ => none) l l := by
    intro l
    induction l with
    | nil => intro _; exact .nil _
    | cons x l ih =>
      intro hl
      rw [List.all_cons, Bool.and_eq_true] at hl
      exact .cons (.of_plain hl.1) (ih hl.2)
  have hc := call_ok (p := ⟨P, 0, ext⟩) hm he N k f args ⟨.e, 0⟩ (fun _ => none) w args.toArray hcl (.empty w) (fun g hg => absurd hg (Nat.not_lt_zero g)) (by simpa using hargs args hp)
  cases hres : evCall ⟨P, 0, ext⟩ N k f args ⟨.e, 0⟩ with
  | bad => rw [hres] at h; cases h
  | panic v s => rw [hres] at h; cases h
  | ret v s =>
    rw [hres] at h hc
    cases v with
    | bool b =>
      cases b with
      | false => cases h
      | true => exact hc _ fun μ' w' v' hv hw hf => ⟨by rw [bool_inv hv], hf.below⟩
    | _ => cases h
end
end Go.Ev

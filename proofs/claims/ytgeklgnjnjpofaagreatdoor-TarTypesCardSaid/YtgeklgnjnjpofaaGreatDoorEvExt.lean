/- functions without a body, upon values without addresses: the model's own answer. -/
import Derived.Test.YtgeklgnjnjpofaaGreatDoorEvFast
set_option linter.unusedSimpArgs false
set_option linter.unusedVariables false
namespace Go.Ev
open Go Go.RowKit
 noncomputable section
/-- an answer: without addresses, or a double, a NaN too. -/
def valF? (x : Option Next) : Option Value := match x with | some (.value (.float k b)) => some (.float k b) | x => val? x
theorem valF_some {x : Option Next} {v : Value} (h : valF? x = some v) : x = some (.value v) ∧ ∀ μ : Mu, VR μ v v := by
  unfold valF? at h
  split at h
  · injection h with h; subst h; exact ⟨rfl, fun μ => .float _ _ _ (.inl rfl)⟩
  · obtain ⟨a, b⟩ := val_some h
    exact ⟨a, fun μ => .of_plain b⟩
/-- a function without a body: what the model has for it, looked up once. -/
structure XC where
  run : List Value → Option Value
def xSlow (P : Program) (f : FuncId) : XC := ⟨fun args => valF? (pureRun P (callFunc f args.toArray))⟩
def xC (P : Program) (f : FuncId) : XC :=
  match P.funcs.toList[f]? with
  | some fn => bi (fn.name == "runtime.NumGoroutine") (xSlow P f) (match fn.body with
    | some _ => xSlow P f
    | none => match Extern.findNext fn with
      | some _ => xSlow P f
      | none => match Extern.find fn with
        | some e => ⟨fun args => match pureRun P (e args.toArray) with | some v => valF? (some (.value v)) | none => none⟩
        | none => xSlow P f)
  | none => xSlow P f
theorem pbind_no {α β : Type} {P : Program} (f : α → Sem β) : ∀ {x : Sem α}, pureRun P x = none → pureRun P (x >>= f) = none := by
  intro x
  show pureRun P x = none → pureRun P (Sem.bind x f) = _
  induction x with
  | pure b => intro h; simp [pureRun] at h
  | program k ih => intro h; simp only [pureRun] at h; simp only [Sem.bind, pureRun]; exact ih P h
  | mark m k ih => intro h; simp only [pureRun] at h; simp only [Sem.bind, pureRun]; exact ih h
  | store m a v k ih => intro h; cases v <;> simp [Sem.bind, pureRun]
  | _ => intro h; simp [Sem.bind, pureRun]
theorem xC_eq (P : Program) (f : FuncId) (args : List Value) : (xC P f).run args = valF? (pureRun P (callFunc f args.toArray)) := by
  unfold xC
  split
  · rename_i fn hf
    rw [bi_cond]
    cases hn : (fn.name == "runtime.NumGoroutine") with
    | true => rfl
    | false =>
      simp only [cond_false]
      split
      · rfl
      · rename_i hb
        split
        · rfl
        · rename_i h1
          split
          · rename_i e h2
            rw [Array.getElem?_toList] at hf
            have hc : pureRun P (callFunc f args.toArray) = pureRun P (do pure (.value (← e args.toArray)) : Sem Next) := by
              unfold callFunc
              rw [pbind (a := P) _ (x := program) rfl, hf]
              simp only [hn, Bool.false_eq_true, if_false, hb, Option.isNone_none, if_true]
              show pureRun P (Sem.mark _ _) = _
              rw [pureRun]
              simp only [h1, h2]
              rfl
            rw [hc]
            show (match pureRun P (e args.toArray) with | some v => valF? (some (.value v)) | none => none) = _
            cases he : pureRun P (e args.toArray) with
            | none => rw [pbind_no _ he]; rfl
            | some v => rw [pbind _ he]; rfl
          · rfl
  · rfl
/-- known functions by a table; those without a body by the model. -/
def extK (P : Program) (kn : FuncId → List Value → S → Option Value) (f : FuncId) (args : List Value) (s : S) : Option Value :=
  bif callable P f then kn f args s else bif args.all plain then (xC P f).run args else none
def extG (P : Program) : FuncId → List Value → S → Option Value := extK P fun _ _ _ => none
theorem vrs_plain {μ : Mu} : ∀ {l m : List Value}, VRs μ l m → l.all plain = true → m = l
  | [], m, h, _ => by
    have := h.1
    simp only [List.length_nil] at this
    exact List.length_eq_zero_iff.1 this.symm
  | x :: l, [], h, _ => by have := h.1; simp at this
  | x :: l, y :: m, h, hp => by
    rw [List.all_cons, Bool.and_eq_true] at hp
    have h0 := h.2 0 (by simp)
    simp only [List.getD_cons_zero] at h0
    rw [h0.eq_plain hp.1]
    congr 1
    refine vrs_plain (μ := μ) ⟨by have := h.1; simpa using this, fun i hi => ?_⟩ hp.2
    have := h.2 (i + 1) (by simp; omega)
    simpa using this
/-- what a table of known functions must keep. -/
def KnownOK (P : Program) (G : Nat) (kn : FuncId → List Value → S → Option Value) : Prop :=
  ∀ (f : FuncId) (args : List Value) (v : Value) (μ : Mu) (s : S) (w : World) (args' : Array Value), kn f args s = some v → WR μ s w → GR μ G → VRs μ args args'.toList → Calls P f args' w fun e w' => ∃ v', e = .returned v' ∧ VR μ v v' ∧ Below w.heap.size w w'
theorem extK_ok (P : Program) (G : Nat) {kn : FuncId → List Value → S → Option Value} (hk : KnownOK P G kn) : ExtOK ⟨P, G, extK P kn⟩ := by
  intro f args v μ s w args' h hw hg ha
  have h : extK P kn f args s = some v := h
  unfold extK at h
  cases hcl : callable P f with
  | true =>
    rw [hcl] at h
    exact .inr ⟨by first | rfl | exact hcl, hk f args v μ s w args' h hw hg ha⟩
  | false =>
    rw [hcl] at h
    obtain ⟨a, b⟩ := bif_some h
    rw [xC_eq] at b
    have e := vrs_plain ha a
    have e2 : args' = args.toArray := by rw [← Array.toList_inj, e]
    obtain ⟨c, d⟩ := valF_some b
    refine .inl ⟨v, w.drawn, ?_, d _⟩
    show (callFunc f args').run P w = _
    rw [e2, pureRun_ok _ _ c w]
theorem ext_ok (P : Program) (G : Nat) : ExtOK ⟨P, G, extG P⟩ := extK_ok P G fun f args v μ s w args' h => (by cases h)
/-- a closed run. -/
theorem run_closed (P : Program) (hm : P.follows .mixedOrders = true) (N k : Nat) (f : FuncId) (args : List Value) (hp : args.all plain = true) (hcl : callable P f = true) (h : isTrue (fCall ⟨P, 0, extG P⟩ N k f args ⟨.e, 0⟩) = true) (w : World) :
    Calls P f args.toArray w fun e w' => e = .returned (.bool true) ∧ Below w.heap.size w w' :=
  run_fast P hm (extG P) (ext_ok P 0) N k f args hp hcl h w
end
end Go.Ev

/- closed runs of programs whose variables are laid: the variables' blocks are in the heap from the start, and nothing is written to them. -/
import Derived.Test.YtgeklgnjnjpofaaGreatDoorEvExt
set_option linter.unusedSimpArgs false
set_option linter.unusedVariables false
namespace Go.Ev
open Go Go.RowKit
 noncomputable section
abbrev Tabs := List (Nat × TypeId × List Value)
def lookT : Tabs → Nat → Option (TypeId × List Value)
  | [], _ => none
  | (g, e, l) :: r, n => bif Nat.beq n g then some (e, l) else lookT r n
def heapT : Tabs → T AObj
  | [] => .e
  | (g, e, l) :: r => (heapT r).put g (.cells l.length (T.puts l 0 .e) e 0 false true)
def S0 (G : Nat) (tabs : Tabs) : S := ⟨heapT tabs, G⟩
def mu0 (G : Nat) (tabs : Tabs) : Mu := fun n => if n < G then some ⟨n, 0, match lookT tabs n with | some (_, l) => l.length | none => 0, 0, false⟩ else none
theorem heapT_get : ∀ (tabs : Tabs) (n : Nat), (heapT tabs).get n = (lookT tabs n).map fun x => .cells x.2.length (T.puts x.2 0 .e) x.1 0 false true
  | [], n => rfl
  | (g, e, l) :: r, n => by
    show ((heapT r).put g _).get n = _
    rw [put_get, lookT, beq_eq]
    by_cases h : n = g
    · rw [if_pos h]; simp [h]
    · rw [if_neg h, heapT_get r n]; simp [h]
/-- the variables lie in a world. -/
def LaidT (tabs : Tabs) (w : World) : Prop := ∀ n e l, lookT tabs n = some (e, l) → ∃ f, w.heap[n]? = some (.cells l.toArray e f)
def okT (G : Nat) (tabs : Tabs) : Bool := tabs.all fun x => Nat.blt x.1 G && x.2.2.all plain
theorem okT_spec {G : Nat} : ∀ {tabs : Tabs}, okT G tabs = true → ∀ n e l, lookT tabs n = some (e, l) → n < G ∧ l.all plain = true
  | [], h, n, e, l, hl => by cases hl
  | (g, e', l') :: r, h, n, e, l, hl => by
    unfold okT at h
    rw [List.all_cons, Bool.and_eq_true, Bool.and_eq_true, blt_iff] at h
    rw [lookT, beq_eq] at hl
    by_cases hn : n = g
    · simp only [hn, decide_true, cond_true] at hl
      injection hl with hl; injection hl with h1 h2
      subst h1; subst h2; subst hn
      exact h.1
    · simp only [hn, decide_false, cond_false] at hl
      exact okT_spec (tabs := r) h.2 n e l hl
theorem wr0 {G : Nat} {tabs : Tabs} (hok : okT G tabs = true) {w : World} (hl : LaidT tabs w) : WR (mu0 G tabs) (S0 G tabs) w := by
  refine ⟨fun n hn => ?_, fun n o hn => ?_, fun n m o p t u hn hm ht hu htu => ?_⟩
  · have hn : G ≤ n := hn
    unfold mu0; rw [if_neg (by omega)]
  · have hn : (heapT tabs).get n = some o := hn
    rw [heapT_get] at hn
    cases hk : lookT tabs n with
    | none => rw [hk] at hn; cases hn
    | some x =>
      obtain ⟨e, l⟩ := x
      rw [hk] at hn
      injection hn with hn; subst hn
      obtain ⟨h1, h2⟩ := okT_spec hok n e l hk
      obtain ⟨f, hf⟩ := hl n e l hk
      refine ⟨⟨n, 0, l.length, 0, false⟩, by unfold mu0; rw [if_pos h1, hk], l.toArray, f, hf, rfl, rfl, by simp, by simp, fun _ => ⟨rfl, rfl⟩, fun hb => (by cases hb), fun i hi => ?_⟩
      have hi : i < l.length := hi
      refine ⟨l[i], by rw [puts_get, if_pos (by omega), Nat.sub_zero, List.getElem?_eq_getElem hi], ?_⟩
      rw [Nat.zero_add, Array.getD_eq_getD_getElem?, List.getElem?_toArray, List.getElem?_eq_getElem hi]
      exact .of_plain (List.all_eq_true.1 h2 _ (List.getElem_mem hi))
  · unfold mu0 at ht hu
    split at ht
    · split at hu
      · injection ht with ht; injection hu with hu
        subst ht; subst hu; exact htu
      · cases hu
    · cases ht
theorem gr0 (G : Nat) (tabs : Tabs) : GR (mu0 G tabs) G := fun g hg => ⟨_, by unfold mu0; rw [if_pos hg], rfl, rfl⟩
/-- nothing that lay there is turned: the variables' blocks are not written to, all else is not in the heap. -/
theorem fr0 {G : Nat} {tabs : Tabs} (hok : okT G tabs = true) {w w' : World} {μ' : Mu} {s' : S} (h : Fr (mu0 G tabs) (S0 G tabs) w μ' s' w') : Below w.heap.size w w' := by
  refine ⟨h.os, h.tape, h.output, h.size, fun k hk => ?_⟩
  by_cases hi : InR (mu0 G tabs) (S0 G tabs) k
  · obtain ⟨n, o, t, hn, ht, rfl⟩ := hi
    refine (h.fro n o t hn ?_ ht).2
    have hn : (heapT tabs).get n = some o := hn
    rw [heapT_get] at hn
    cases hk : lookT tabs n with
    | none => rw [hk] at hn; cases hn
    | some x => rw [hk] at hn; injection hn with hn; subst hn; rfl
  · exact h.keep k hk hi
/-- a closed run with laid variables: what it answers, and that nothing that lay there is turned. -/
theorem run_laid (P : Program) (hm : P.follows .mixedOrders = true) {kn : FuncId → List Value → S → Option Value} (G : Nat) (hkn : KnownOK P G kn) (tabs : Tabs) (hok : okT G tabs = true) (N k : Nat) (f : FuncId) (args : List Value) (hp : args.all plain = true) (hcl : callable P f = true) (h : isTrue (fCall ⟨P, G, extK P kn⟩ N k f args (S0 G tabs)) = true) (w : World) (hl : LaidT tabs w) :
    Calls P f args.toArray w fun e w' => e = .returned (.bool true) ∧ Below w.heap.size w w' := by
  rw [fCall_eq] at h
  have hargs : ∀ l : List Value, l.all plain = true → VRs (mu0 G tabs) l l := by
    intro l
    induction l with
    | nil => intro _; exact .nil _
    | cons x l ih =>
      intro hl
      rw [List.all_cons, Bool.and_eq_true] at hl
      exact .cons (.of_plain hl.1) (ih hl.2)
  have hc := call_ok (p := ⟨P, G, extK P kn⟩) hm (extK_ok P G hkn) N k f args (S0 G tabs) (mu0 G tabs) w args.toArray hcl (wr0 hok hl) (gr0 G tabs) (by simpa using hargs args hp)
  cases hres : evCall ⟨P, G, extK P kn⟩ N k f args (S0 G tabs) with
  | bad => rw [hres] at h; cases h
  | panic v s => rw [hres] at h; cases h
  | ret v s =>
    rw [hres] at h hc
    cases v with
    | bool b =>
      cases b with
      | false => cases h
      | true =>
        refine hc _ fun μ' w' v' hv hw hf => ⟨?_, fr0 hok hf⟩
        rw [bool_inv hv]
    | _ => cases h
end
end Go.Ev

/- regions that draw their order: each order comes to what the evaluator answers. -/
import Derived.Test.YtgeklgnjnjpofaaGreatDoorEvSeq
set_option linter.unusedVariables false
set_option linter.unusedSimpArgs false
namespace Go.Ev
open Go Go.RowKit
section
variable {p : Par} {call : CallF} {μ : Mu}
theorem op_val (hc : CallOK p call) (he : ExtOK p) {ρ : Operand → Value} {o : Oper} {s s' : S} {a : Act} {w : World} {v : Value} (hr : ∀ x ∈ o.op.operands, VR μ (ρ x) (a.eval x)) (hw : WR μ s w) (hg : GR μ p.G) (hv : evOp p call ρ o s = .val v s') {K : Act → World → Prop} {Q : Exit → Act → World → Prop}
    (hk : ∀ μ' w' v', VR μ' v v' → WR μ' s' w' → Fr μ s w μ' s' w' → K (a.put o.dst v') w') : o.wp p.P a w K Q := by
  have fin : ∀ {v : Value}, Comp p.P μ (execOp a.eval o) v w → (∀ μ' w' v', VR μ' v v' → WR μ' s w' → Fr μ s w μ' s w' → K (a.put o.dst v') w') → o.wp p.P a w K Q := by
    intro v ⟨v', d, h1, h2⟩ hq
    unfold Oper.wp
    rw [h1, Oper.upon_value]
    exact hq μ _ _ h2 (hw.heap rfl) (.drawn μ s w d)
  unfold evOp at hv
  rcases kind_lt p.P o with hkd | hkd | hkd
  · simp only [hkd] at hv
    cases hp : evPure p.P ρ o with
    | none => simp only [hp] at hv; cases hv
    | some u =>
      simp only [hp] at hv
      injection hv with h1 h2
      subst h1; subst h2
      exact fin (evPure_ok hp hr w) hk
  · simp only [hkd] at hv
    cases hp : evRead p.P ρ o s with
    | none => simp only [hp] at hv; cases hv
    | some u =>
      simp only [hp] at hv
      injection hv with h1 h2
      subst h1; subst h2
      exact fin (evRead_ok hw hp hr) hk
  · simp only [hkd] at hv
    have hact := evAct_ok (P := p.P) hw hr
    cases ha : evAct p.P ρ o s with
    | bad => simp only [ha] at hv; cases hv
    | recover => simp only [ha] at hv; cases hv
    | panic u => simp only [ha] at hv; cases hv
    | defer f args caps => simp only [ha] at hv; cases hv
    | val u s1 =>
      simp only [ha] at hv hact
      injection hv with h1 h2
      subst h1; subst h2
      obtain ⟨μ', w', nx, v', hrun, hnx, hvr, hw', hf'⟩ := hact
      unfold Oper.wp
      rw [hrun]
      rcases hnx with rfl | ⟨rfl, rfl⟩
      · rw [Oper.upon_value]; exact hk μ' _ _ hvr hw' hf'
      · rw [Oper.upon_skip]; exact hk μ' _ _ hvr hw' hf'
    | enter f args =>
      simp only [ha] at hv hact
      obtain ⟨args', hrun, hargs⟩ := hact
      unfold Oper.wp
      rw [hrun]
      cases hx : p.ext f args s with
      | some u =>
        simp only [hx] at hv
        injection hv with h1 h2
        subst h1; subst h2
        rcases he f args u μ s w args' hx hw hg hargs with ⟨v', d, h1, h2⟩ | ⟨hcl, hcalls⟩
        · rw [h1, Oper.upon_value]
          exact hk μ _ _ h2 (hw.heap rfl) (.drawn μ s w d)
        · rw [callFunc_run hcl, Oper.upon_enter]
          refine hcalls.mono ?_
          rintro _ w' ⟨v', rfl, hv, hb⟩
          obtain ⟨h2, h3⟩ := below_ok hw hb
          exact hk μ _ _ hv h2 h3
      | none =>
      simp only [hx] at hv
      cases hcl : callable p.P f with
      | true =>
        simp only [hcl, cond_true] at hv
        rw [callFunc_run hcl, Oper.upon_enter]
        have hcall := hc f args s μ w args' hcl hw hg hargs
        cases hres : call f args s with
        | bad => simp only [hres] at hv; cases hv
        | panic u s1 => simp only [hres] at hv; cases hv
        | ret u s1 =>
          simp only [hres] at hv hcall
          injection hv with h1 h2
          subst h1; subst h2
          exact hcall _ fun μ' w' v' h1 h2 h3 => hk μ' _ _ h1 h2 h3
      | false => simp only [hcl, cond_false] at hv; cases hv
theorem op_pan (hc : CallOK p call) (he : ExtOK p) {ρ : Operand → Value} {o : Oper} {s s' : S} {a : Act} {w : World} {v : Value} (hr : ∀ x ∈ o.op.operands, VR μ (ρ x) (a.eval x)) (hw : WR μ s w) (hg : GR μ p.G) (hv : evOp p call ρ o s = .panic v s') {K : Act → World → Prop} {Q : Exit → Act → World → Prop}
    (hk : ∀ μ' w' v', VR μ' v v' → WR μ' s' w' → Fr μ s w μ' s' w' → Q (.panic [{ v := v', recovered := false }]) a w') : o.wp p.P a w K Q := by
  unfold evOp at hv
  rcases kind_lt p.P o with hkd | hkd | hkd
  · simp only [hkd] at hv
    cases hp : evPure p.P ρ o <;> simp only [hp] at hv <;> cases hv
  · simp only [hkd] at hv
    cases hp : evRead p.P ρ o s <;> simp only [hp] at hv <;> cases hv
  · simp only [hkd] at hv
    have hact := evAct_ok (P := p.P) hw hr
    cases ha : evAct p.P ρ o s with
    | bad => simp only [ha] at hv; cases hv
    | recover => simp only [ha] at hv; cases hv
    | defer f args caps => simp only [ha] at hv; cases hv
    | val u s1 => simp only [ha] at hv; cases hv
    | panic u =>
      simp only [ha] at hv hact
      injection hv with h1 h2
      subst h1; subst h2
      obtain ⟨v', hrun, hvr⟩ := hact
      unfold Oper.wp
      rw [hrun, Oper.upon_panic]
      exact hk μ w v' hvr hw (.refl μ s w)
    | enter f args =>
      simp only [ha] at hv hact
      obtain ⟨args', hrun, hargs⟩ := hact
      unfold Oper.wp
      rw [hrun]
      cases hx : p.ext f args s with
      | some u => simp only [hx] at hv; cases hv
      | none =>
      simp only [hx] at hv
      cases hcl : callable p.P f with
      | true =>
        simp only [hcl, cond_true] at hv
        rw [callFunc_run hcl, Oper.upon_enter]
        have hcall := hc f args s μ w args' hcl hw hg hargs
        cases hres : call f args s with
        | bad => simp only [hres] at hv; cases hv
        | ret u s1 => simp only [hres] at hv; cases hv
        | panic u s1 =>
          simp only [hres] at hv hcall
          injection hv with h1 h2
          subst h1; subst h2
          exact hcall _ fun μ' w' v' h1 h2 h3 => hk μ' _ _ h1 h2 h3
      | false => simp only [hcl, cond_false] at hv; cases hv
theorem binds_any (e : Edge) : Region.binds .any e = bindsAny e := by
  unfold Region.binds bindsAny
  cases e.ground <;> rfl
/-- what a mask holds has been listed, where all that is listed waits for nothing that is not. -/
def Closed (L : List Oper) (D : Nat → Prop) : Prop := ∀ i o, L[i]? = some o → D i → ∀ e ∈ o.after.toList, bindsAny e = true → D e.on
theorem edgeMask_spec (mm : T Nat) : ∀ (es : List Edge) (s k : Nat), (edgeMask mm es s).testBit k = true → s.testBit k = true ∨ ∃ e ∈ es, bindsAny e = true ∧ (k = e.on ∨ ((mm.get e.on).getD 0).testBit k = true)
  | [], s, k, h => .inl h
  | e :: es, s, k, h => by
    simp only [edgeMask] at h
    rcases edgeMask_spec mm es _ k h with h1 | ⟨e', he', h2⟩
    · cases hb : bindsAny e with
      | false => rw [hb] at h1; exact .inl h1
      | true =>
        rw [hb] at h1
        simp only [cond_true, Nat.testBit_or, Bool.or_eq_true, Nat.testBit_two_pow, decide_eq_true_eq] at h1
        rcases h1 with h1 | h1 | h1
        · exact .inl h1
        · exact .inr ⟨e, by simp, hb, .inl h1.symm⟩
        · exact .inr ⟨e, by simp, hb, .inr h1⟩
    · exact .inr ⟨e', by simp [he'], h2⟩
theorem masks_go (L : List Oper) {D : Nat → Prop} (hD : Closed L D) : ∀ (r : List Oper) (i : Nat) (mm : T Nat), L.drop i = r → (∀ j, D j → ∀ k, ((mm.get j).getD 0).testBit k = true → D k) → ∀ j, D j → ∀ k, (((masks r i mm).get j).getD 0).testBit k = true → D k
  | [], i, mm, hr, h, j, hj, k, hk => h j hj k hk
  | o :: r, i, mm, hr, h, j, hj, k, hk => by
    simp only [masks] at hk
    have hi : L[i]? = some o := by
      have : (L.drop i)[0]? = some o := by rw [hr]; rfl
      simpa using this
    have hr' : L.drop (i + 1) = r := by rw [← List.tail_drop, hr]; rfl
    refine masks_go L hD r (i + 1) _ hr' ?_ j hj k hk
    intro j hj k hk
    rw [put_get] at hk
    by_cases e : j = i
    · subst e
      rw [if_pos rfl] at hk
      simp only [Option.getD_some] at hk
      rcases edgeMask_spec mm _ _ _ hk with h1 | ⟨ed, he, hb, h2⟩
      · simp at h1
      · have hon := hD j o hi hj ed he hb
        rcases h2 with rfl | h2
        · exact hon
        · exact h _ hon k h2
    · rw [if_neg e] at hk
      exact h j hj k hk
theorem masks_ok (L : List Oper) {D : Nat → Prop} (hD : Closed L D) (j : Nat) (hj : D j) (k : Nat) (hk : (((masks L 0 .e).get j).getD 0).testBit k = true) : D k :=
  masks_go L hD L 0 .e rfl (fun j hj k hk => by simp [T.get] at hk) j hj k hk
theorem edgesBack_spec : ∀ (r : List Oper) (i : Nat), edgesBack r i = true → ∀ j o, r[j]? = some o → ∀ e ∈ o.after.toList, bindsAny e = true → e.on < i + j
  | [], i, h, j, o, hj => by simp at hj
  | x :: r, i, h, j, o, hj => by
    simp only [edgesBack, Bool.and_eq_true, List.all_eq_true] at h
    intro e he hb
    match j with
    | 0 =>
      simp only [List.getElem?_cons_zero, Option.some.injEq] at hj
      subst hj
      have := h.1 e he
      rw [hb] at this
      simp only [Bool.not_true, Bool.false_or, blt_iff] at this
      omega
    | j + 1 =>
      have := edgesBack_spec r (i + 1) h.2 j o (by simpa using hj) e he hb
      omega
theorem pairs_go (P : Program) (F : Nat) (ops : List Oper) (m : T Nat) (i : Nat) (x : Oper) : ∀ (r : List Oper) (j : Nat), pairsOk P F ops m r j i x = true → ∀ k y, r[k]? = some y → pairOk P F ops i x (j + k) ((m.get (j + k)).getD 0) y = true
  | [], j, h, k, y, hk => by simp at hk
  | z :: r, j, h, k, y, hk => by
    simp only [pairsOk, Bool.and_eq_true] at h
    match k with
    | 0 => simp only [List.getElem?_cons_zero, Option.some.injEq] at hk; subst hk; exact h.1
    | k + 1 =>
      have := pairs_go P F ops m i x r (j + 1) h.2 k y (by simpa using hk)
      rw [show j + (k + 1) = j + 1 + k by omega]; exact this
theorem allPairs_go (P : Program) (F : Nat) (ops : List Oper) (m : T Nat) : ∀ (r : List Oper) (i : Nat), allPairs P F ops m r i = true → ∀ j k x y, j < k → r[j]? = some x → r[k]? = some y → pairOk P F ops (i + j) x (i + k) ((m.get (i + k)).getD 0) y = true
  | [], i, h, j, k, x, y, hjk, hj, hk => by simp at hj
  | z :: r, i, h, j, k, x, y, hjk, hj, hk => by
    simp only [allPairs, Bool.and_eq_true] at h
    match j, k with
    | 0, k + 1 =>
      simp only [List.getElem?_cons_zero, Option.some.injEq] at hj
      subst hj
      have := pairs_go P F ops m i z r (i + 1) h.1 k y (by simpa using hk)
      rw [show i + (k + 1) = i + 1 + k by omega]; exact this
    | j + 1, k + 1 =>
      have := allPairs_go P F ops m r (i + 1) h.2 j k x y (by omega) (by simpa using hj) (by simpa using hk)
      rw [show i + (j + 1) = i + 1 + j by omega, show i + (k + 1) = i + 1 + k by omega]; exact this
theorem memN_iff (k : Nat) : ∀ (l : List Nat), memN k l = true ↔ k ∈ l
  | [] => by simp [memN]
  | x :: l => by
    simp only [memN, beq_eq, cond_dec]
    by_cases h : x = k
    · simp [h]
    · rw [if_neg h, memN_iff k l]; simp [Ne.symm h]
/-- what two operations share, waits. -/
theorem pair_spec {P : Program} {F : Nat} {ops : List Oper} {i j my : Nat} {x y : Oper} (h : pairOk P F ops i x j my y = true) :
    (∀ d, x.dst = some d → y.dst ≠ some d) ∧ (my.testBit i = true ∨ ((∀ d, x.dst = some d → d ∉ looks ops y) ∧ (∀ d, y.dst = some d → d ∉ looks ops x) ∧ ¬ (fl P F i x = false ∧ fl P F j y = false ∧ kind P x = 2 ∧ kind P y = 2))) := by
  unfold pairOk at h
  cases hb : my.testBit i with
  | true =>
    rw [hb] at h
    simp only [cond_true] at h
    refine ⟨fun d hd => ?_, .inl rfl⟩
    rw [hd] at h
    cases hy : y.dst with
    | none => simp
    | some d' => rw [hy] at h; simp [beq_eq] at h; simp [Ne.symm h]
  | false =>
    rw [hb] at h
    simp only [cond_false, Bool.and_eq_true] at h
    obtain ⟨⟨h1, h2⟩, h3⟩ := h
    refine ⟨fun d hd => ?_, .inr ⟨fun d hd => ?_, fun d hd => ?_, ?_⟩⟩
    · rw [hd] at h1
      simp only [Bool.and_eq_true] at h1
      cases hy : y.dst with
      | none => simp
      | some d' => rw [hy] at h1; simp [beq_eq] at h1; simp [Ne.symm h1.2]
    · rw [hd] at h1
      simp only [Bool.and_eq_true, Bool.not_eq_true'] at h1
      intro hm
      rw [← memN_iff] at hm
      rw [hm] at h1; exact absurd h1.1 (by simp)
    · rw [hd] at h2
      simp only [Bool.not_eq_true'] at h2
      intro hm
      rw [← memN_iff] at hm
      rw [hm] at h2; exact absurd h2 (by simp)
    · intro ⟨f1, f2, k1, k2⟩
      unfold fl at f1 f2
      rw [k1] at f1; rw [k2] at f2
      simp [k1, k2] at h3 f1 f2
      rw [f1, f2] at h3; simp at h3
/-- alike, soundly. -/
theorem optA_eq {a b : Option Addr} (h : optA a b = true) : a = b := by
  cases a with
  | none => cases b with
    | none => rfl
    | some b => cases h
  | some a => cases b with
    | none => cases h
    | some b =>
      simp only [optA, Bool.and_eq_true, decide_eq_true_eq, beq_eq] at h
      obtain ⟨⟨h1, h2⟩, h3⟩ := h
      cases a; cases b
      simp only at h1 h2 h3
      rw [h1, h2, h3]
theorem ba_eq2 {a b : ByteArray} (h : a.data.toList = b.data.toList) : a = b := by
  cases a with | mk x => cases b with | mk y =>
  have : x = y := Array.toList_inj.1 h
  rw [this]
theorem veq_flat {n : Nat} {a b : Value} (h : veqN n a b = true) (hl : ∀ k l m, n = k + 1 → veqN.veqL k l m = true → l = m) : a = b := by
  cases a <;> cases b <;> first
    | (exfalso; cases n <;> cases h; done)
    | (have h2 : (_ == _) = true := (by cases n <;> exact h); rw [eq_of_beq h2]; done)
    | skip
  case int.int j x k y =>
    have h2 : (decide (j = k) && decide (x = y)) = true := by cases n <;> exact h
    simp only [Bool.and_eq_true, decide_eq_true_eq] at h2
    rw [h2.1, h2.2]
  case float.float j x k y =>
    have h2 : (decide (j = k) && Nat.beq x y) = true := by cases n <;> exact h
    simp only [Bool.and_eq_true, decide_eq_true_eq, beq_eq] at h2
    rw [h2.1, h2.2]
  case string.string x y =>
    have h2 : decide (x.data.toList = y.data.toList) = true := by cases n <;> exact h
    rw [ba_eq2 (of_decide_eq_true h2)]
  case pointer.pointer x y =>
    have h2 : optA x y = true := by cases n <;> exact h
    rw [optA_eq h2]
  case slice.slice x l c y l' c' =>
    have h2 : (optA x y && Nat.beq l l' && Nat.beq c c') = true := by cases n <;> exact h
    simp only [Bool.and_eq_true, beq_eq, decide_eq_true_eq] at h2
    rw [optA_eq h2.1.1, h2.1.2, h2.2]
  case map.map x y =>
    have h2 : decide (x = y) = true := by cases n <;> exact h
    rw [of_decide_eq_true h2]
  case nilFunc.nilFunc => rfl
  case nilIface.nilIface => rfl
  case agg.agg x y =>
    cases n with
    | zero => cases h
    | succ n => rw [Array.toList_inj.1 (hl n _ _ rfl h)]
  case tuple.tuple x y =>
    cases n with
    | zero => cases h
    | succ n => rw [Array.toList_inj.1 (hl n _ _ rfl h)]
theorem veq_go : ∀ (n : Nat) (a b : Value), veqN n a b = true → a = b := by
  intro n
  induction n with
  | zero => exact fun a b h => veq_flat h fun k l m e => absurd e (by omega)
  | succ n ih =>
    have hl : ∀ l m : List Value, veqN.veqL n l m = true → l = m := by
      intro l
      induction l with
      | nil => intro m h; cases m <;> first | rfl | (simp [veqN.veqL] at h)
      | cons x l ihl =>
        intro m h
        cases m with
        | nil => simp [veqN.veqL] at h
        | cons y m =>
          simp only [veqN.veqL, Bool.and_eq_true] at h
          rw [ih _ _ h.1, ihl _ h.2]
    exact fun a b h => veq_flat h fun k l m e hk => by
      have : k = n := by omega
      subst this
      exact hl l m hk
theorem same_spec {P : Program} {base : Nat} {r : Rec} {s : S} (h : sameRead P base r s = true) : evRead P r.e.eval r.o (insL base r.ins s) = some r.v := by
  unfold sameRead at h
  split at h
  · rename_i v hv
    rw [hv, veq_go _ _ _ h]
  · cases h
end
end Go.Ev

/- what an operation that only computes answers is what the model does. -/
import Derived.Test.YtgeklgnjnjpofaaGreatDoorEvBin
set_option linter.unusedVariables false
set_option linter.unusedSimpArgs false
namespace Go.Ev
open Go Go.RowKit
section
variable {P : Program} {μ : Mu}
theorem Comp.of {s : Sem Value} {v v' : Value} {w : World} {d : Nat} (h : s.run P w = .ok v' { w with drawn := d }) (hv : VR μ v v') : Comp P μ (do Pure.pure (Next.value (← s))) v w := ⟨v', d, value_of h, hv⟩
theorem Comp.of' {s : Sem Value} {v v' : Value} {w : World} (h : s.run P w = .ok v' w) (hv : VR μ v v') : Comp P μ (do Pure.pure (Next.value (← s))) v w := ⟨v', w.drawn, value_of h, hv⟩
theorem int_ofNat_inv {k : IntKind} {n : Int} {v' : Value} (h : VR μ (.int k n) v') : v' = .int k n := by cases h; rfl
theorem str_inv {s : ByteArray} {v' : Value} (h : VR μ (.string s) v') : v' = .string s := by cases h; rfl
theorem bool_inv {b : Bool} {v' : Value} (h : VR μ (.bool b) v') : v' = .bool b := by cases h; rfl
theorem iface_inv {t : TypeId} {x v' : Value} (h : VR μ (.iface t x) v') : ∃ y, v' = .iface t y ∧ VR μ x y := by cases h with | iface _ _ y hy => exact ⟨y, rfl, hy⟩
theorem agg_inv {x : Array Value} {v' : Value} (h : VR μ (.agg x) v') : ∃ y, v' = .agg y ∧ VRs μ x.toList y.toList := by
  cases h with
  | agg _ y hx ex => exact ⟨y, rfl, VR.agg_iff.1 (.agg x y hx ex)⟩
theorem tup_inv {x : Array Value} {v' : Value} (h : VR μ (.tuple x) v') : ∃ y, v' = .tuple y ∧ VRs μ x.toList y.toList := by
  cases h with
  | tup _ y hx ex => exact ⟨y, rfl, VR.tup_iff.1 (.tup x y hx ex)⟩
theorem func_inv {f : FuncId} {x y : Array Value} {v' : Value} (h : VR μ (.func (.func f) x y) v') : ∃ x' y', v' = .func (.func f) x' y' ∧ VRs μ x.toList x'.toList ∧ VRs μ y.toList y'.toList := by
  cases h with
  | func _ _ _ x' y' hx hy ex ey => exact ⟨x', y', rfl, VR.func_iff.1 (.func f x y x' y' hx hy ex ey)⟩
theorem slc_inv {n o l c : Nat} {sp : Option Nat} {v' : Value} (h : VR μ (.slice (some ⟨n, o, sp⟩) l c) v') :
    sp = none ∧ ∃ t q c', μ n = some t ∧ v' = .slice (some ⟨t.b, q, none⟩) l c' ∧ c ≤ c' ∧ (t.opn = false → c' = c) ∧ ((q = t.sh + o ∧ (t.opn = true → t.sh + o + c' * t.es ≤ t.sz)) ∨ (l = 0 ∧ c = 0 ∧ c' = 0 ∧ t.opn = true)) := by
  cases h with
  | slc _ _ _ _ c' t ht hc he hs => exact ⟨rfl, t, _, c', ht, rfl, hc, he, .inl ⟨rfl, hs⟩⟩
  | slz _ _ q t ht ho => exact ⟨rfl, t, q, 0, ht, rfl, Nat.le_refl _, fun _ => rfl, .inr ⟨rfl, rfl, rfl, ho⟩⟩
theorem nils_inv {l c : Nat} {v' : Value} (h : VR μ (.slice none l c) v') : v' = .slice none l c := by cases h; rfl
theorem VRs.take {l m : List Value} (h : VRs μ l m) (n : Nat) : VRs μ (l.take n) (m.take n) :=
  .of_get (by simp [h.1]) fun i v v' h1 h2 => by
    rw [List.getElem?_take] at h1 h2
    split at h1
    · rename_i hi
      rw [if_pos hi] at h2
      obtain ⟨u, hu, hr⟩ := h.get h1
      rw [hu] at h2; injection h2 with h2; rw [← h2]; exact hr
    · cases h1
theorem VRs.drop {l m : List Value} (h : VRs μ l m) (n : Nat) : VRs μ (l.drop n) (m.drop n) :=
  .of_get (by simp [h.1]) fun i v v' h1 h2 => by
    rw [List.getElem?_drop] at h1 h2
    obtain ⟨u, hu, hr⟩ := h.get h1
    rw [hu] at h2; injection h2 with h2; rw [← h2]; exact hr
theorem partL_ok {t : TypeId} {l m : List Value} {off : Nat} {v : Value} (h : partL P t l off = some v) (hr : VRs μ l m) : ∃ v', partL P t m off = some v' ∧ VR μ v v' := by
  unfold partL at *
  cases hu : P.underlying t with
  | none => rw [hu] at h; cases h
  | some d =>
  rw [hu] at h
  simp only at h ⊢
  cases hb : isAggB P t with
  | true =>
    rw [hb] at h
    simp only [cond_true, Option.some.injEq] at h ⊢
    exact ⟨_, rfl, by rw [← h]; exact VR.agg_iff.2 (by simpa using (hr.drop off).take _)⟩
  | false =>
    rw [hb] at h
    simp only [cond_false] at h ⊢
    exact hr.get h
theorem args2 {ρ : Operand → Value} {c : Call} {p q : Value} (h : c.args.toList.map ρ = [p, q]) : ∃ x y, c.args = #[x, y] ∧ ρ x = p ∧ ρ y = q := by
  obtain ⟨cal, args, at_⟩ := c
  obtain ⟨l⟩ := args
  match l, h with
  | [x, y], h => simp at h; exact ⟨x, y, rfl, h.1, h.2⟩
theorem args1 {ρ : Operand → Value} {c : Call} {p : Value} (h : c.args.toList.map ρ = [p]) : ∃ x, c.args = #[x] ∧ ρ x = p := by
  obtain ⟨cal, args, at_⟩ := c
  obtain ⟨l⟩ := args
  match l, h with
  | [x], h => simp at h; exact ⟨x, rfl, h⟩
theorem types1 {c : Call} {t : TypeId} (h : c.argTypes.toList = [t]) : c.argTypes = #[t] := by rw [← Array.toList_inj]; exact h
theorem types2 {c : Call} {t u : TypeId} (h : c.argTypes.toList = [t, u]) : c.argTypes = #[t, u] := by rw [← Array.toList_inj]; exact h
/-- arrays of cells, place by place. -/
theorem fold_put (off : Nat) : ∀ (l : List Value) (k : Nat) (cs : Array Value), (l.zipIdx k).foldl (fun (cs : Array Value) (x : Value × Nat) => cs.setIfInBounds (off + x.2) x.1) cs = putL cs (off + k) l
  | [], k, cs => rfl
  | v :: l, k, cs => by rw [List.zipIdx_cons, List.foldl_cons, fold_put off l (k + 1), putL, Nat.add_assoc]
theorem fold_put' (off : Nat) (a cs : Array Value) : a.zipIdx.foldl (fun cs (c, j) => cs.setIfInBounds (off + j) c) cs = putL cs off a.toList := by
  rw [← Array.foldl_toList, Array.toList_zipIdx]
  exact fold_put off a.toList 0 cs
theorem putL_rel {l m : List Value} {a b : Array Value} (off : Nat) (h : VRs μ l m) (k : VRs μ a.toList b.toList) (hf : off + l.length ≤ a.size) : VRs μ (putL a off l).toList (putL b off m).toList := by
  have hs : a.size = b.size := by have := k.1; simpa using this
  refine ⟨by simp [putL_size, hs], fun i hi => ?_⟩
  rw [← getD_toList, ← getD_toList, putL_get l off a i hf, putL_get m off b i (by rw [← h.1, ← hs]; exact hf), ← h.1]
  by_cases c : off ≤ i ∧ i < off + l.length
  · rw [if_pos c, if_pos c]; exact h.2 _ (by omega)
  · rw [if_neg c, if_neg c, getD_toList, getD_toList]; exact k.2 i (by simpa [putL_size] using hi)
theorem fill_rel (place : Nat → Option (Nat × Nat)) : ∀ (p q : List (Nat × Value)) (a b r : Array Value), p.map (·.1) = q.map (·.1) → VRs μ (p.map (·.2)) (q.map (·.2)) → VRs μ a.toList b.toList → Instr.fill place a p = some r →
    ∃ r', Instr.fill place b q = some r' ∧ VRs μ r.toList r'.toList ∧ r.size = a.size
  | [], q, a, b, r, h1, h2, h3, h => by
    have : q = [] := by simpa using h1.symm
    subst this
    simp only [Instr.fill] at h ⊢
    injection h with h; subst h
    exact ⟨b, rfl, h3, rfl⟩
  | (i, v) :: p, [], a, b, r, h1, h2, h3, h => by simp at h1
  | (i, v) :: p, (j, u) :: q, a, b, r, h1, h2, h3, h => by
    simp only [List.map_cons, List.cons.injEq] at h1
    obtain ⟨rfl, h1⟩ := h1
    obtain ⟨y, m, e, hv, hm⟩ := (show VRs μ (v :: p.map (·.2)) (u :: q.map (·.2)) from h2).head
    injection e with e1 e2
    subst e1
    have hab : a.size = b.size := by have := h3.1; simpa using this
    have hc := hv.cells
    rw [cellsL_eq, cellsL_eq] at hc
    have hvs : v.cells.size = u.cells.size := by have := hc.1; simpa using this
    unfold Instr.fill at h ⊢
    cases hp : place i with
    | none => rw [hp] at h; cases h
    | some os =>
      rw [hp] at h
      obtain ⟨off, size⟩ := os
      simp only at h ⊢
      by_cases c : (decide (v.cells.size ≠ size) || decide (off + v.cells.size > a.size)) = true
      · rw [if_pos c] at h; cases h
      · rw [if_neg c] at h
        rw [if_neg (by rw [← hvs, ← hab]; exact c)]
        rw [fold_put'] at h ⊢
        have hfit : off + v.cells.toList.length ≤ a.size := by simp at c; simpa using c.2
        obtain ⟨r', x1, x2, x3⟩ := fill_rel place p q _ _ r h1 (by rw [← e2] at hm; exact hm) (putL_rel off hc h3 hfit) h
        exact ⟨r', x1, x2, by rw [x3, putL_size]⟩
theorem tyZero_spec {t : TypeId} {z : List Value} (h : tyZero P t = some z) : ∃ i v, P.info? t = some i ∧ i.zero = some v ∧ cellsL v = z ∧ VRs μ z z ∧ z.all sc = true ∧ z.length = i.size ∧ VR μ v v := by
  unfold tyZero at h
  split at h
  · rename_i i hi
    split at h
    · rename_i v hv
      obtain ⟨a, b⟩ := bif_some h
      injection b with b
      simp only [Bool.and_eq_true, beq_eq, decide_eq_true_eq] at a
      have hvr : VR μ v v := .of_plain a.1.1
      exact ⟨i, v, hi, hv, b, by rw [← b]; exact hvr.cells, by rw [← b]; exact a.1.2, by rw [← b]; exact a.2, hvr⟩
    · cases h
  · cases h
theorem built_rel {t : TypeId} {z : List Value} (hz : tyZero P t = some z) {p q : List (Nat × Value)} {r : Array Value} (h1 : p.map (·.1) = q.map (·.1)) (h2 : VRs μ (p.map (·.2)) (q.map (·.2))) (h : P.built t p = some r) : ∃ r', P.built t q = some r' ∧ VRs μ r.toList r'.toList := by
  obtain ⟨i, v, hi, hv, _, _, _, _, hvr⟩ := tyZero_spec (μ := μ) hz
  have hc := hvr.cells
  rw [cellsL_eq] at hc
  unfold Program.built at h ⊢
  simp only [hi] at h ⊢
  cases hu : P.underlying t with
  | none => simp [hu] at h
  | some d =>
    cases d with
    | array n e =>
      simp only [hu, hv] at h ⊢
      cases hie : P.info? e with
      | none => simp [hie] at h
      | some ie =>
        simp only [hie] at h ⊢
        obtain ⟨r', x1, x2, _⟩ := fill_rel _ p q _ _ r h1 h2 hc h
        exact ⟨r', x1, x2⟩
    | struct fs =>
      simp only [hu, hv] at h ⊢
      cases hpl : fs.toList.mapM (fun f => (P.info? f.type).map fun i => (f.offset, i.size)) with
      | none => simp [hpl] at h
      | some pl =>
        simp only [hpl] at h ⊢
        obtain ⟨r', x1, x2, _⟩ := fill_rel _ p q _ _ r h1 h2 hc h
        exact ⟨r', x1, x2⟩
    | _ => simp [hu] at h
theorem pairs_fst (f : Operand → Value) (p : List (Nat × Operand)) : (p.map fun x => (x.1, f x.2)).map (·.1) = p.map (·.1) := by simp
theorem pairs_snd (f : Operand → Value) (p : List (Nat × Operand)) : (p.map fun x => (x.1, f x.2)).map (·.2) = p.map fun x => f x.2 := by simp
set_option maxHeartbeats 1000000 in
theorem evPure_ok {ρ ρ' : Operand → Value} {o : Oper} {v : Value} (h : evPure P ρ o = some v) (hr : ∀ x ∈ o.op.operands, VR μ (ρ x) (ρ' x)) (w : World) : Comp P μ (execOp ρ' o) v w := by
  have HG := @gen_ok P μ ρ ρ' o v
  obtain ⟨dst, op, type, pos, after, guard⟩ := o
  unfold evPure at h
  cases op with
  | move x => injection h with h; subst h; exact .pure (hr x (by simp [Op.operands])) w
  | assign x => injection h with h; subst h; exact .pure (hr x (by simp [Op.operands])) w
  | pick c a b =>
    simp only at h
    split at h
    · rename_i e
      injection h with h; subst h
      have hc := hr c (by simp [Op.operands]); rw [e] at hc
      refine ⟨ρ' a, w.drawn, ?_, hr a (by simp [Op.operands])⟩
      simp only [execOp, bool_inv hc]; rfl
    · rename_i e
      injection h with h; subst h
      have hc := hr c (by simp [Op.operands]); rw [e] at hc
      refine ⟨ρ' b, w.drawn, ?_, hr b (by simp [Op.operands])⟩
      simp only [execOp, bool_inv hc]; rfl
    · cases h
  | nilCheck x =>
    simp only at h
    have hx := hr x (by simp [Op.operands])
    split at h
    · rename_i a e
      injection h with h; subst h
      rw [e] at hx
      obtain ⟨n, o, sp⟩ := a
      obtain ⟨rfl, t, ht, e'⟩ := addr_inv hx
      refine ⟨ρ' x, w.drawn, ?_, ?_⟩
      · simp only [execOp, e']; rfl
      · rw [e']; exact .ptr n o t ht
    · rename_i f a b e
      injection h with h; subst h
      rw [e] at hx
      obtain ⟨x', y', e', hx1, hx2⟩ := func_inv hx
      refine ⟨ρ' x, w.drawn, ?_, ?_⟩
      · simp only [execOp, e']; rfl
      · exact hx
    · cases h
  | makeInterface t x =>
    simp only at h
    have hx := hr x (by simp [Op.operands])
    split at h
    · cases h
    · rename_i d hnot hu
      injection h with h; subst h
      exact .of' (makeIface_run hu (fun m e => hnot m e) (w := w)) (.iface t _ _ hx)
    · cases h
  | makeFunc fn first captured =>
    cases fn with
    | func f =>
      injection h with h; subst h
      refine .of' (s := Instr.makeFunc (.func f) (first.map ρ') (captured.map ρ')) rfl (VR.func_iff.2 ⟨?_, ?_⟩)
      · simp only [Array.toList_map]; exact .map _ _ _ fun x hx => hr x (by simp [Op.operands, Array.mem_toList_iff.1 hx])
      · simp only [Array.toList_map]; exact .map _ _ _ fun x hx => hr x (by simp [Op.operands, Array.mem_toList_iff.1 hx])
    | _ => cases h
  | fieldAddr st x f =>
    simp only at h
    have hx := hr x (by simp [Op.operands])
    split at h
    · rename_i b o e
      split at h
      · rename_i fs hu
        split at h
        · rename_i fl hf
          have hz : szOf P fl.type ≠ 0 ∧ v = .pointer (some ⟨b, o + fl.offset, none⟩) := by
            rw [beq_eq] at h
            by_cases h0 : szOf P fl.type = 0
            · simp [h0] at h
            · simp [h0] at h; exact ⟨h0, h.symm⟩
          obtain ⟨hz, rfl⟩ := hz
          rw [e] at hx
          obtain ⟨_, t, ht, e'⟩ := addr_inv hx
          refine .of' (s := Instr.fieldAt st (ρ' x) f) (by rw [e']; exact fieldAt_run hu hf hz) ?_
          rw [Nat.add_assoc]; exact .ptr _ _ t ht
        · cases h
      · cases h
    · cases h
  | indexAddr t x i =>
    simp only at h
    have hx := hr x (by simp [Op.operands])
    have hi := hr i (by simp [Op.operands])
    split at h
    · rename_i k n e
      rw [e] at hi
      split at h
      · rename_i el hu
        split at h
        · rename_i a len cap e2
          obtain ⟨hn, hs, rfl, inf, hiu⟩ := elemAt_ok h
          rw [e2] at hx
          obtain ⟨b, o, sp⟩ := a
          obtain ⟨_, t', q, c', ht, e3, _, _, hq | hq⟩ := slc_inv hx
          · obtain ⟨rfl, _⟩ := hq
            refine .of' (s := Instr.indexAt t (ρ' x) (ρ' i)) (by rw [e3, int_ofNat_inv hi]; exact indexAt_slice hu hn hiu) ?_
            rw [Nat.add_assoc]; exact .ptr _ _ t' ht
          · omega
        · cases h
      · rename_i len el hu
        split at h
        · rename_i a e2
          obtain ⟨hn, hs, rfl, inf, hiu⟩ := elemAt_ok h
          rw [e2] at hx
          obtain ⟨b, o, sp⟩ := a
          obtain ⟨_, t', ht, e3⟩ := addr_inv hx
          refine .of' (s := Instr.indexAt t (ρ' x) (ρ' i)) (by rw [e3, int_ofNat_inv hi]; exact indexAt_arr hu hn hiu) ?_
          rw [Nat.add_assoc]; exact .ptr _ _ t' ht
        · cases h
      · cases h
    · cases h
  | index t x i =>
    simp only at h
    have hx := hr x (by simp [Op.operands])
    have hi := hr i (by simp [Op.operands])
    split at h
    · rename_i s e
      split at h
      · rename_i k n e2
        split at h
        · rename_i hu
          split at h
          · rename_i b hb
            injection h with h; subst h
            rw [e] at hx; rw [e2] at hi
            exact .of' (s := Instr.index t (ρ' x) (ρ' i)) (by rw [str_inv hx, int_ofNat_inv hi]; exact index_str hu hb) (.int _ _)
          · cases h
        · cases h
      · cases h
    · exact HG (by simp) h hr w
  | build t parts =>
    simp only at h
    split at h
    · rename_i z hz
      split at h
      · rename_i cs hb
        injection h with h; subst h
        obtain ⟨r', h1, h2⟩ := built_rel (μ := μ) hz (q := parts.toList.map fun p => (p.1, ρ' p.2)) (by rw [pairs_fst, pairs_fst]) (by
          rw [pairs_snd, pairs_snd]
          exact .map _ _ _ fun x hx => hr x.2 (by simp only [Op.operands]; simp; exact ⟨x.1, by simpa using hx⟩)) hb
        refine .of' (s := Instr.build t (parts.map fun (i, x) => (i, ρ' x))) (run_build w t _ r' ?_) (VR.agg_iff.2 h2)
        rw [Array.toList_map]
        exact h1
      · cases h
    · cases h
  | extract t i =>
    simp only at h
    have hx := hr t (by simp [Op.operands])
    split at h
    · rename_i vs e
      rw [e] at hx
      obtain ⟨y, e', hy⟩ := tup_inv hx
      obtain ⟨v', hv, hvr⟩ := hy.get h
      refine .of' (s := Instr.extract (ρ' t) i) ?_ hvr
      rw [Array.getElem?_toList] at hv
      rw [e', Instr.extract]
      simp only [hv]; rfl
    · cases h
  | field t x f =>
    simp only at h
    have hx := hr x (by simp [Op.operands])
    split at h
    · rename_i cs e
      rw [e] at hx
      obtain ⟨y, e', hy⟩ := agg_inv hx
      split at h
      · rename_i fs hu
        split at h
        · rename_i fl hf
          obtain ⟨v', hv, hvr⟩ := partL_ok h hy
          refine .of' (s := Instr.field t (ρ' x) f) ?_ hvr
          rw [Array.getElem?_toList] at hf
          rw [e', Instr.field, bind_ok (underlying_run hu w)]
          simp only [hf]
          rw [bind_ok (show (asAgg (.agg y)).run P w = .ok y w from rfl)]
          exact part_run hv
        · cases h
      · cases h
    · cases h
  | binOp op t x y yt =>
    simp only at h
    split at h
    · rename_i u hu
      injection h with h; subst h
      obtain ⟨v', d, h1, h2⟩ := binV_ok hu (hr x (by simp [Op.operands])) (hr y (by simp [Op.operands])) x y w
      exact .of h1 h2
    · exact HG (by simp) h hr w
  | slice t x lo hi mx =>
    simp only at h
    split at h
    · exact HG (by simp) h hr w
    · exact HG (by simp) h hr w
    · cases h
  | call c =>
    simp only at h
    split at h
    · rename_i hc
      split at h
      · rename_i a n cp t hx ht
        split at h
        · rename_i el hu
          injection h with h; subst h
          obtain ⟨x, ea, ex⟩ := args1 hx
          have hv := hr x (by simp [Op.operands, Call.operands, ea])
          rw [ex] at hv
          have et := types1 ht
          obtain ⟨a', c', e', _⟩ := slc_none hv
          refine ⟨.int .i64 n, w.drawn, ?_, .int _ _⟩
          simp [execOp, resolve, invoke, Go.builtin, Builtin.len_, hc, ea, et, e', go_sem, underlying_run hu, Result.andThen, goInt]
        · cases h
      · rename_i s t hx ht
        split at h
        · rename_i hu
          injection h with h; subst h
          obtain ⟨x, ea, ex⟩ := args1 hx
          have hv := hr x (by simp [Op.operands, Call.operands, ea])
          rw [ex] at hv
          have et := types1 ht
          refine ⟨.int .i64 s.size, w.drawn, ?_, .int _ _⟩
          simp [execOp, resolve, invoke, Go.builtin, Builtin.len_, hc, ea, et, str_inv hv, go_sem, underlying_run hu, Result.andThen, goInt]
        · cases h
      · cases h
    · exact HG (by simp) h hr w
    · exact HG (by simp) h hr w
    · cases h
  | unOp _ _ _ => exact HG (by simp) h hr w
  | convert _ _ _ => exact HG (by simp) h hr w
  | typeAssert _ _ _ _ => exact HG (by simp) h hr w
  | _ => cases h
end
end Go.Ev

/- regions that draw their order: done. -/
import Derived.Test.YtgeklgnjnjpofaaGreatDoorEvDraw3
set_option linter.unusedVariables false
set_option linter.unusedSimpArgs false
namespace Go.Ev
open Go Go.RowKit
section
variable {p : Par} {call : CallF} {μ : Mu} {F base : Nat}
/-- a guard's answer, where the temporary that it looks at is the same. -/
theorem wanted_of {e : Env} {tm : Array Value} (ops : Array Oper) (o : Oper) (h : ∀ k, k ∈ looks ops.toList o → VR μ ((e.t.get k).getD undef) (tm.getD k undef)) : Region.wanted o (yielded ops tm) = wantd ops.toList e o.guard := by
  unfold Region.wanted wantd
  cases hg : o.guard with
  | none => rfl
  | some jb =>
    obtain ⟨j, b⟩ := jb
    simp only [yielded, Array.getElem?_toList]
    cases hj : ops[j]? with
    | none => simp
    | some x =>
      simp only [Option.bind_some]
      cases hd : x.dst with
      | none => simp
      | some d =>
        simp only [Option.bind_some]
        have hv := h d (by unfold looks; rw [hg]; simp [hj, hd])
        rw [Array.getD_eq_getD_getElem?] at hv
        cases hc : tm[d]? with
        | none =>
          rw [hc] at hv
          simp only [Option.getD_none] at hv
          generalize (e.t.get d).getD undef = q at hv
          cases hv with
          | tup x y hx ex => rfl
        | some u =>
          rw [hc] at hv
          simp only [Option.getD_some] at hv
          generalize (e.t.get d).getD undef = q at hv
          cases hv <;> first | rfl | simp
theorem ready_spec {ops : Array Oper} {listed : Array Bool} {i : Nat} (hs : listed.size = ops.size) (h : i ∈ Region.ready .any ops listed) : i < ops.size ∧ listed[i]? = some false ∧ ∀ o, ops[i]? = some o → ∀ e ∈ o.after.toList, bindsAny e = true → Dn listed e.on := by
  unfold Region.ready at h
  rw [List.mem_filter, List.mem_range, Bool.and_eq_true] at h
  obtain ⟨h1, h2, h3⟩ := h
  have hlt : i < listed.size := by omega
  refine ⟨h1, ?_, fun o ho e he hb => ?_⟩
  · rw [Array.getElem?_eq_getElem hlt]
    rw [Array.getD_eq_getD_getElem?, Array.getElem?_eq_getElem hlt] at h2
    simp only [Option.getD_some, Bool.not_eq_true'] at h2
    rw [h2]
  · rw [ho] at h3
    simp only [Option.map_some, Option.getD_some] at h3
    rw [Array.all_eq_true_iff_forall_mem] at h3
    have := h3 e (Array.mem_toList_iff.1 he)
    rw [binds_any, hb] at this
    simpa [Dn, Array.getD_eq_getD_getElem?] using this
theorem all_ready {ops : Array Oper} {listed : Array Bool} (hs : listed.size = ops.size) (hb : ∀ j o, ops[j]? = some o → ∀ e ∈ o.after.toList, bindsAny e = true → e.on < j) (h : Region.ready .any ops listed = []) : ∀ i, i < ops.size → Dn listed i := by
  intro i
  induction i using Nat.strongRecOn with
  | _ i ih =>
    intro hi
    cases hd : listed.getD i false with
    | true => exact hd
    | false =>
      exfalso
      have hlt : i < listed.size := by omega
      have hm : i ∈ Region.ready .any ops listed := by
        unfold Region.ready
        rw [List.mem_filter, List.mem_range, Bool.and_eq_true]
        refine ⟨hi, ?_, ?_⟩
        · rw [Array.getD_eq_getD_getElem?, Array.getElem?_eq_getElem hlt] at hd ⊢
          simp only [Option.getD_some] at hd ⊢
          rw [hd]; rfl
        · rw [Array.getElem?_eq_getElem hi]
          simp only [Option.map_some, Option.getD_some]
          rw [Array.all_eq_true_iff_forall_mem]
          intro e he
          cases hbe : bindsAny e with
          | false => rw [binds_any, hbe]; rfl
          | true =>
            have hon := hb i _ (Array.getElem?_eq_getElem hi) e (Array.mem_toList_iff.2 he) hbe
            have := ih e.on hon (by omega)
            unfold Dn at this
            rw [this]; simp
      rw [h] at hm; cases hm
theorem masks_lt_go (L : List Oper) (hb : ∀ j o, L[j]? = some o → ∀ e ∈ o.after.toList, bindsAny e = true → e.on < j) : ∀ (r : List Oper) (i : Nat) (mm : T Nat), L.drop i = r → (∀ j k, ((mm.get j).getD 0).testBit k = true → k < j) → ∀ j k, (((masks r i mm).get j).getD 0).testBit k = true → k < j
  | [], i, mm, hr, h, j, k, hk => h j k hk
  | o :: r, i, mm, hr, h, j, k, hk => by
    simp only [masks] at hk
    have hi : L[i]? = some o := by
      have : (L.drop i)[0]? = some o := by rw [hr]; rfl
      simpa using this
    have hr' : L.drop (i + 1) = r := by rw [← List.tail_drop, hr]; rfl
    refine masks_lt_go L hb r (i + 1) _ hr' ?_ j k hk
    intro j k hk
    rw [put_get] at hk
    by_cases e : j = i
    · subst e
      rw [if_pos rfl] at hk
      simp only [Option.getD_some] at hk
      rcases edgeMask_spec mm _ _ _ hk with h1 | ⟨ed, he, hbd, h2⟩
      · simp at h1
      · have hon := hb j o hi ed he hbd
        rcases h2 with rfl | h2
        · exact hon
        · have := h _ k h2; omega
    · rw [if_neg e] at hk
      exact h j k hk
theorem masks_lt (L : List Oper) (hb : ∀ j o, L[j]? = some o → ∀ e ∈ o.after.toList, bindsAny e = true → e.on < j) (j k : Nat) (hk : (msk (masks L 0 .e) j).testBit k = true) : k < j :=
  masks_lt_go L hb L 0 .e rfl (fun j k hk => by simp [T.get] at hk) j k hk
variable {e0 ef : Env} {tr : List Tr} {lf : List (Nat × AObj)} {pf : Option (Nat × Value × S)}
/-- entries that are made and not in the heap, where D is done. -/
def AA (P : Program) (base : Nat) (tr : List Tr) (D : Nat → Prop) (c k : Nat) (ob : AObj) : Prop := D k ∧ Made P base tr c k ob
theorem opers_look {L : List Oper} {o : Oper} {x : Operand} {k : Nat} (hx : x ∈ o.op.operands) (e : x = .tmp k) : k ∈ looks L o := by
  unfold looks
  rw [List.mem_append]
  left
  rw [List.mem_filterMap]
  exact ⟨x, Array.mem_toList_iff.2 hx, by rw [e]⟩
theorem insL_next (base : Nat) : ∀ (l : List (Nat × AObj)) (s : S), (insL base l s).next = s.next
  | [], s => rfl
  | (k, o) :: l, s => insL_next base l _
theorem any_ok (hc : CallOK p call) (he : ExtOK p) (ops : Array Oper) (hreg : Reg p call F base ops.toList e0 ef tr lf pf) {μ0 : Mu} {s0 : S} {w0 : World} (h0 : s0.next ≤ base) (hbn : ∀ i o, fl p.P F i o = true → i < ops.size → base + i < e0.s.next) {Q : Exit → Act → World → Prop}
    (hQ : pf = none → ∀ μ' a' w', Rel p.G μ' { ef with s := insL base lf ef.s } a' w' → Fr μ0 s0 w0 μ' (insL base lf ef.s) w' → Q .normal a' w')
    (hQP : ∀ i v s, pf = some (i, v, s) → ∀ μ' a' w' v', VR μ' v v' → DR μ' e0.d a'.defers → WR μ' s w' → GR μ' p.G → Fr μ0 s0 w0 μ' s w' → Q (.panic [{ v := v', recovered := false }]) a' w') :
    ∀ (fuel : Nat) (listed : Array Bool) (a : Act) (w : World) (μ : Mu) (c : Nat), listed.size = ops.size → cnt listed = fuel → Closed ops.toList (Dn listed) → Cut p.P tr (Dn listed) c → TD μ e0 tr (Dn listed) a.tmps → DR μ e0.d a.defers →
      WR μ (envAt tr ef c).s w → GR μ p.G → Fr μ0 s0 w0 μ (envAt tr ef c).s w → e0.s.next ≤ (envAt tr ef c).s.next → PD μ (envAt tr ef c).s w w0.heap.size base (AA p.P base tr (Dn listed) c) → (∀ k t, tr[k]? = some t → t.flo → ¬ Dn listed k → μ (base + k) = none) → (∀ i v s, pf = some (i, v, s) → ¬ Dn listed i) → wpAny p.P .any ops Q fuel listed a w := by
  have hlen : tr.length = ops.size := by rw [hreg.len]; simp
  have hopt : ∀ (i : Nat) (t : Tr), tr[i]? = some t → ops[i]? = some t.o := fun i t ht => by have := hreg.facts.ops i t ht; rwa [Array.getElem?_toList] at this
  -- all is done
  have fin : ∀ (listed : Array Bool) (a : Act) (w : World) (μ : Mu) (c : Nat), (∀ i, i < ops.size → Dn listed i) → Cut p.P tr (Dn listed) c → TD μ e0 tr (Dn listed) a.tmps → DR μ e0.d a.defers → WR μ (envAt tr ef c).s w → GR μ p.G → Fr μ0 s0 w0 μ (envAt tr ef c).s w → PD μ (envAt tr ef c).s w w0.heap.size base (AA p.P base tr (Dn listed) c) → (∀ i v s, pf = some (i, v, s) → ¬ Dn listed i) → Q .normal a w := by
    intro listed a w μ c hall hcut htd hdr hw hg hf hpd hnp
    have hpf : pf = none := by
      cases hp : pf with
      | none => rfl
      | some x =>
        obtain ⟨i, v, s⟩ := x
        have hpi := hreg.pi
        rw [hp] at hpi
        obtain ⟨t, ht, _⟩ := hpi
        exact absurd (hall i (by have := get_lt ht; omega)) (hnp i v s hp)
    have hce : c = tr.length := by
      rcases Nat.lt_or_ge c tr.length with h | h
      · have ht : tr[c]? = some tr[c] := List.getElem?_eq_getElem h
        exact absurd (hall c (by omega)) (hcut.high c _ (Nat.le_refl _) ht (hcut.at_ _ ht))
      · have := hcut.le; omega
    rw [hce, envAt_end] at hw hf hpd
    obtain ⟨hnt, hd0, hb, hcc⟩ := hreg.env tr.length (Nat.le_refl _)
    rw [envAt_end] at hnt hd0 hb hcc
    obtain ⟨hw, hf, _⟩ := hpd.insL lf hw hf (fun k o hk => ⟨hall k (by have := (hreg.last.made k o hk).1; omega), (hreg.last.made k o hk).2⟩) hreg.last.nodup
    refine hQ hpf μ a w ⟨⟨by rw [htd.size, hnt], fun k => ?_⟩, by rw [hd0]; exact hdr, hw, hg⟩ hf
    by_cases hw2 : ∃ (j : Nat) (u : Tr), tr[j]? = some u ∧ u.o.dst = some k ∧ k < e0.nt
    · obtain ⟨j, u, hj, hd, hkn⟩ := hw2
      rw [hb j u k (get_lt hj) hj hd hkn]
      exact htd.done j u k hj (hall j (by have := get_lt hj; omega)) hd hkn
    · rw [hcc k fun j u _ hu hd hkn => hw2 ⟨j, u, hu, hd, hkn⟩]
      exact htd.rest k fun j u hj _ hd hkn => hw2 ⟨j, u, hj, hd, hkn⟩
  intro fuel
  induction fuel with
  | zero =>
    intro listed a w μ c hs hcn hcl hcut htd hdr hw hg hf hnx hpd hnr hnp
    have hall : ∀ i, i < ops.size → Dn listed i := fun i hi => cnt_zero listed hcn i (by omega)
    refine ⟨?_, fin listed a w μ c hall hcut htd hdr hw hg hf hpd hnp⟩
    cases hr : Region.ready .any ops listed with
    | nil => rfl
    | cons i r =>
      exfalso
      obtain ⟨h1, h2, _⟩ := ready_spec (i := i) hs (by rw [hr]; simp)
      have := hall i h1
      unfold Dn at this
      rw [Array.getD_eq_getD_getElem?, h2] at this
      cases this
  | succ fuel ih =>
    intro listed a w μ c hs hcn hcl hcut htd hdr hw hg hf hnx hpd hnr hnp
    refine ⟨fun hr => fin listed a w μ c (all_ready hs (fun j o hj => hreg.back j o (by rw [Array.getElem?_toList]; exact hj)) hr) hcut htd hdr hw hg hf hpd hnp, fun i hi => ?_⟩
    obtain ⟨hio, hli, hedge⟩ := ready_spec hs hi
    have hit : i < tr.length := by omega
    obtain ⟨t, ht⟩ : ∃ t, tr[i]? = some t := ⟨_, List.getElem?_eq_getElem hit⟩
    have ho := hopt i t ht
    have hn : ¬ Dn listed i := by unfold Dn; rw [Array.getD_eq_getD_getElem?, hli]; simp
    -- with i listed, too
    have hsz : i < listed.size := by omega
    have hD' : ∀ j, Dn (listed.setIfInBounds i true) j ↔ j = i ∨ Dn listed j := fun j => Dn_set listed i j hsz
    have hcl' : Closed ops.toList (Dn (listed.setIfInBounds i true)) := by
      intro j o hj hDj e he hb
      rw [hD'] at hDj ⊢
      rcases hDj with rfl | hDj
      · rw [Array.getElem?_toList, ho] at hj
        injection hj with hj; subst hj
        exact .inr (hedge _ ho e he hb)
      · exact .inr (hcl j o hj hDj e he hb)
    have hpre : ∀ k, (msk (masks ops.toList 0 .e) i).testBit k = true → Dn listed k := by
      intro k hk
      have hne : k < i := masks_lt ops.toList hreg.back i k hk
      have := masks_ok ops.toList hcl' i ((hD' i).2 (.inl rfl)) k hk
      rcases (hD' k).1 this with h | h
      · omega
      · exact h
    have hsee : ∀ k, k ∈ looks ops.toList t.o → VR μ ((t.e.t.get k).getD undef) (a.tmps.getD k undef) := fun k hk => hreg.sees hcl htd ht hn hpre hk
    have hcnt : cnt (listed.setIfInBounds i true) = fuel := by have := cnt_set listed i hli; omega
    have hsize' : (listed.setIfInBounds i true).size = ops.size := by simp [hs]
    -- temporaries behind it
    have htd' : ∀ (μ' : Mu) (v' : Value), (∀ n t, μ n = some t → μ' n = some t) → VR μ' t.v v' → TD μ' e0 tr (Dn (listed.setIfInBounds i true)) (a.put t.o.dst v').tmps := by
      intro μ' v' hm hv
      have h1 := htd.mono hm
      have hdst : ∀ j u k, tr[j]? = some u → j ≠ i → u.o.dst = some k → t.o.dst ≠ some k := by
        intro j u k hj hne hd hd2
        rcases Nat.lt_trichotomy j i with h | h | h
        · exact (hreg.pair j i _ _ h (hreg.facts.ops j u hj) (hreg.facts.ops i t ht)).1 k hd hd2
        · exact hne h
        · exact (hreg.pair i j _ _ h (hreg.facts.ops i t ht) (hreg.facts.ops j u hj)).1 k hd2 hd
      have hget : ∀ k, (a.put t.o.dst v').tmps.getD k undef = if t.o.dst = some k ∧ k < e0.nt then v' else a.tmps.getD k undef := by
        intro k
        unfold Act.put
        cases hd : t.o.dst with
        | none => simp
        | some d =>
          simp only [Option.some.injEq, Array.getD_eq_getD_getElem?, Array.getElem?_setIfInBounds, htd.size]
          by_cases e : d = k
          · subst e
            by_cases hk : d < e0.nt
            · simp [hk]
            · rw [if_pos rfl, if_neg hk, if_neg (by intro hc; exact hk hc.2), Array.getElem?_eq_none (xs := a.tmps) (i := d) (by rw [htd.size]; exact Nat.le_of_not_lt hk)]
          · rw [if_neg e, if_neg (by intro hc; exact e hc.1)]
      refine ⟨?_, fun j u k hj hDj hd hk => ?_, fun k hno => ?_⟩
      · rw [← htd.size]; unfold Act.put; cases t.o.dst <;> simp
      · rw [hget]
        by_cases e : j = i
        · subst e
          rw [ht] at hj; injection hj with hj; subst hj
          rw [if_pos ⟨hd, hk⟩]; exact hv
        · rw [if_neg (by intro hc2; exact hdst j u k hj e hd hc2.1)]
          rcases (hD' j).1 hDj with h | h
          · exact absurd h e
          · exact h1.done j u k hj h hd hk
      · rw [hget, if_neg (by intro hc2; exact hno i t ht ((hD' i).2 (.inl rfl)) hc2.1 hc2.2)]
        exact h1.rest k fun j u hj hDj hd => hno j u hj ((hD' j).2 (.inr hDj)) hd
    have hdr' : ∀ (μ' : Mu) (v' : Value), (∀ n t, μ n = some t → μ' n = some t) → DR μ' e0.d (a.put t.o.dst v').defers := fun μ' v' hm => by
      have : (a.put t.o.dst v').defers = a.defers := by unfold Act.put; cases t.o.dst <;> rfl
      rw [this]; exact hdr.mono hm
    have cut_same : ¬ t.acts p.P → Cut p.P tr (Dn (listed.setIfInBounds i true)) c := fun hna =>
      ⟨hcut.le, fun j u hj hu ha => (hD' j).2 (.inr (hcut.low j u hj hu ha)), hcut.at_, fun j u hj hu ha hDj => by
        rcases (hD' j).1 hDj with rfl | h
        · rw [ht] at hu; injection hu with hu; subst hu; exact hna ha
        · exact hcut.high j u hj hu ha h⟩
    have hst := hreg.facts.step i t ht
    have pd_same : ¬ t.flo → ∀ k o, AA p.P base tr (Dn (listed.setIfInBounds i true)) c k o → AA p.P base tr (Dn listed) c k o := fun hnf k o ⟨hD, hM⟩ => by
      rcases (hD' k).1 hD with rfl | h
      · obtain ⟨⟨u, hu, huf, _⟩, _⟩ := hM
        rw [ht] at hu; injection hu with hu; subst hu; exact absurd huf hnf
      · exact ⟨h, hM⟩
    have nr_same : ∀ μ' : Mu, (∀ n, n < e0.s.next → μ n = none → μ' n = none) → ∀ k u, tr[k]? = some u → u.flo → ¬ Dn (listed.setIfInBounds i true) k → μ' (base + k) = none := fun μ' hl k u hu huf hnD =>
      hl _ (hbn k u.o (by rw [← (hreg.facts.step k u hu).flag]; exact huf.2) (by have := get_lt hu; omega)) (hnr k u hu huf fun h => hnD ((hD' k).2 (.inr h)))
    have np_same : t.pan = none → ∀ j v s, pf = some (j, v, s) → ¬ Dn (listed.setIfInBounds i true) j := fun hp j v s hpf hD => by
      rcases (hD' j).1 hD with rfl | h
      · have hpi := hreg.pi
        rw [hpf] at hpi
        obtain ⟨t0, ht0, _, hp0, _⟩ := hpi
        rw [ht] at ht0; injection ht0 with ht0; subst ht0
        rw [hp] at hp0; cases hp0
      · exact hnp j v s hpf h
    have hpan : t.pan = none ∨ ∃ v s, pf = some (i, v, s) ∧ t.pan = some (v, s) ∧ t.acts p.P := by
      have hpi := hreg.pi
      cases hpf : pf with
      | none => rw [hpf] at hpi; exact .inl (hpi i t ht).1
      | some y =>
        obtain ⟨i0, v, s⟩ := y
        rw [hpf] at hpi
        obtain ⟨t0, ht0, ha0, hp0, hall⟩ := hpi
        rcases (hall i t ht).1 with rfl | h
        · rw [ht] at ht0; injection ht0 with ht0; subst ht0
          exact .inr ⟨v, s, rfl, hp0, ha0⟩
        · exact .inl h
    have hdead : t.dead = false := by
      cases hdd : t.dead with
      | false => rfl
      | true =>
        exfalso
        have hpi := hreg.pi
        cases hpf : pf with
        | none => rw [hpf] at hpi; rw [(hpi i t ht).2] at hdd; cases hdd
        | some y =>
          obtain ⟨i0, v, s⟩ := y
          rw [hpf] at hpi
          obtain ⟨_, _, _, _, hall⟩ := hpi
          exact hnp i0 v s hpf (hpre i0 ((hall i t ht).2 hdd))
    have pan_no : ¬ t.acts p.P → t.pan = none := fun hna => by
      rcases hpan with h | ⟨_, _, _, _, h⟩
      · exact h
      · exact absurd h hna
    unfold wpOp
    rw [ho]
    simp only
    rw [wanted_of ops t.o hsee, ← hst.wd hdead]
    cases hwd : t.wd with
    | false =>
      rw [if_neg (by simp)]
      have hna : ¬ t.acts p.P := fun ha => by rw [ha.1] at hwd; cases hwd
      have hv : t.v = undef := (hst.skip hwd).1
      exact ih _ _ w μ c hsize' hcnt hcl' (cut_same hna) (htd' μ undef (fun _ _ h => h) (by rw [hv]; exact .undef μ)) (hdr' μ undef fun _ _ h => h) hw hg hf hnx (hpd.sub (pd_same fun hfl => by rw [hfl.1] at hwd; cases hwd)) (nr_same μ fun _ _ h => h) (np_same (pan_no hna))
    | true =>
      rw [if_pos rfl]
      left
      have hok := hst.ok hwd
      have hr : ∀ x ∈ t.o.op.operands, VR μ (t.e.eval x) (a.eval x) := by
        intro x hx
        have hxo : opOk p.G x = true := List.all_eq_true.1 hok x (Array.mem_toList_iff.2 hx)
        cases x with
        | tmp k => exact hsee k (opers_look hx rfl)
        | const v => exact .of_plain hxo
        | global g =>
          simp only [opOk, blt_iff] at hxo
          obtain ⟨t1, a1, a2, a3⟩ := hg g hxo
          have := VR.ptr (μ := μ) g 0 t1 a1
          rw [a2, a3] at this
          exact this
        | func f => exact VR.func_iff.2 ⟨.nil μ, .nil μ⟩
      rcases kind_lt p.P t.o with hk | hk | hk
      · have hna : ¬ t.acts p.P := fun ha => by have := ha.2.1; rw [hk] at this; cases this
        have hnf : ¬ t.flo := fun ha => by have := ha.2; rw [hst.flag] at this; unfold fl at this; rw [hk] at this; simp at this
        have hev : evOp p call t.e.eval t.o (envAt tr ef c).s = .val t.v (envAt tr ef c).s := by
          unfold evOp; simp only [hk, (hst.pure hwd hk).1]
        refine op_val hc he hr hw hg hev fun μ' w' v' h1 h2 h3 => ?_
        exact ih _ _ w' μ' c hsize' hcnt hcl' (cut_same hna) (htd' μ' v' h3.mono h1) (hdr' μ' v' h3.mono) h2 (hg.mono h3.mono) (hf.trans h3) hnx ((hpd.fr h3).sub (pd_same hnf)) (nr_same μ' fun n hn e => h3.low n (Nat.lt_of_lt_of_le hn hnx) e) (np_same (pan_no hna))
      · have hna : ¬ t.acts p.P := fun ha => by have := ha.2.1; rw [hk] at this; cases this
        have hnf : ¬ t.flo := fun ha => by have := ha.2; rw [hst.flag] at this; unfold fl at this; rw [hk] at this; simp at this
        obtain ⟨l, hl1, hl2⟩ := hreg.read_at hcl hcut ht ⟨hwd, hk⟩ hn hpre
        obtain ⟨hw1, _, _⟩ := hpd.insL l hw hf (fun k o hko => ⟨hpre k ((hreg.facts.ins i t ht).2 k o (hl1.2 k o hko).1).2.1, (hl1.2 k o hko).2⟩) hl1.1
        obtain ⟨v', d, hrun, h1⟩ := evRead_ok hw1 hl2 hr
        unfold Oper.wp
        rw [hrun, Oper.upon_value]
        have h3 := Fr.drawn μ (envAt tr ef c).s w d
        have h2 : WR μ (envAt tr ef c).s { w with drawn := d } := hw.heap rfl
        obtain ⟨w', hw'⟩ : ∃ w', w' = { w with drawn := d } := ⟨_, rfl⟩
        rw [← hw'] at h2 h3 ⊢
        obtain ⟨μ', hμ'⟩ : ∃ μ', μ' = μ := ⟨_, rfl⟩
        rw [← hμ'] at h1 h2
        have h3 : Fr μ (envAt tr ef c).s w μ' (envAt tr ef c).s w' := by rw [hμ']; exact h3
        exact ih _ _ w' μ' c hsize' hcnt hcl' (cut_same hna) (htd' μ' v' h3.mono h1) (hdr' μ' v' h3.mono) h2 (hg.mono h3.mono) (hf.trans h3) hnx ((hpd.fr h3).sub (pd_same hnf)) (nr_same μ' fun n hn e => h3.low n (Nat.lt_of_lt_of_le hn hnx) e) (np_same (pan_no hna))
      · cases hfl : t.fl with
        | true =>
          have hflo : t.flo := ⟨hwd, hfl⟩
          have hna : ¬ t.acts p.P := fun ha => by have := ha.2.2; rw [hfl] at this; cases this
          obtain ⟨ob, hal, _⟩ := hst.flo hflo
          have hnone := hnr i t ht hflo hn
          obtain ⟨tt, x, d, v', hrun, htb, hvr, hor⟩ := evAlloc_ok hnone w hr hal
          unfold Oper.wp
          rw [hrun, Oper.upon_value]
          have hlt := hbn i t.o (by rw [← hst.flag]; exact hfl) hio
          obtain ⟨h2, h3, h4⟩ := hpd.new hw hf hnone h0 (by omega) htb hor
          have hmn : ∀ n u, μ n = some u → μ.up (base + i) tt n = some u := Mu.up_mono hnone
          refine ih _ _ _ _ c hsize' hcnt hcl' (cut_same hna) (htd' _ v' hmn hvr) (hdr' _ v' hmn) h2 (hg.mono hmn) h3 hnx (h4.sub fun k o ⟨hD, hM⟩ => ?_) (fun k u hu huf hnD => ?_) (np_same (pan_no hna))
          · rcases (hD' k).1 hD with rfl | h
            · obtain ⟨⟨u, hu, huf, hua⟩, _⟩ := hM
              rw [ht] at hu; injection hu with hu; subst hu
              rw [hal] at hua; injection hua with hua; injection hua with _ hua
              exact .inr ⟨rfl, hua.symm⟩
            · exact .inl ⟨h, hM⟩
          · rw [Mu.up_other (fun e => hnD ((hD' k).2 (.inl (by omega))))]
            exact hnr k u hu huf fun h => hnD ((hD' k).2 (.inr h))
        | false =>
        -- an act: it is the first that is not listed
        have hact : t.acts p.P := ⟨hwd, hk, hfl⟩
        have hnf : ¬ t.flo := fun ha => by have := ha.2; rw [hfl] at this; cases this
        have hci : c = i := by
          rcases Nat.lt_trichotomy c i with h | h | h
          · exfalso
            have hct : tr[c]? = some tr[c] := List.getElem?_eq_getElem (by omega)
            have hca := hcut.at_ _ hct
            rcases (hreg.pair c i _ _ h (hreg.facts.ops c _ hct) (hreg.facts.ops i t ht)).2 with hb | ⟨_, _, h3⟩
            · exact hcut.high c _ (Nat.le_refl _) hct hca (hpre c hb)
            · exact h3 ⟨by rw [← (hreg.facts.step c _ hct).flag]; exact hca.2.2, by rw [← hst.flag]; exact hfl, hca.2.1, hk⟩
          · exact h
          · exact absurd (hcut.low i t h ht hact) hn
        subst hci
        have hall : ∀ j u, tr[j]? = some u → u.acts p.P → Dn listed j → j < c := by
          intro j u hj hu hDj
          rcases Nat.lt_or_ge j c with h | h
          · exact h
          · exact absurd hDj (hcut.high j u h hj hu)
        rw [envAt_of ht] at hw hf hpd hnx
        obtain ⟨hnd, hins⟩ := hreg.facts.ins c t ht
        obtain ⟨hw1, hf1, hpd1⟩ := hpd.insL t.ins hw hf (fun k o hk => ⟨hpre k (hins k o hk).2.1, (hins k o hk).2.2⟩) hnd
        have hnx1 : (insL base t.ins t.e.s).next = t.e.s.next := insL_next base t.ins t.e.s
        rcases hpan with hpn | ⟨v, s, hpf, hpn, _⟩
        rotate_left
        · obtain ⟨hev, _, _⟩ := hst.pan hact v s hpn
          exact op_pan hc he hr hw1 hg hev fun μ' w' v' h1 h2 h3 => hQP c v s hpf μ' a w' v' h1 (hdr.mono h3.mono) h2 (hg.mono h3.mono) (hf1.trans h3)
        obtain ⟨s, hev, henv⟩ := hst.act hact hpn
        obtain ⟨c', hcut', hs'⟩ := hreg.next_cut hcut ht hall
        have hcc' : c < c' := by
          rcases Nat.lt_or_ge c c' with h | h
          · exact h
          · exact absurd (.inl rfl) (hcut'.high c t h ht hact)
        have hcut2 : Cut p.P tr (Dn (listed.setIfInBounds c true)) c' := ⟨hcut'.le, fun j u hj hu ha => (hD' j).2 (hcut'.low j u hj hu ha), hcut'.at_, fun j u hj hu ha hDj => hcut'.high j u hj hu ha ((hD' j).1 hDj)⟩
        have hse : (envAt tr ef c').s = s := by rw [hs', henv, put_s]
        refine op_val hc he hr hw1 hg hev fun μ' w' v' h1 h2 h3 => ?_
        refine ih _ _ w' μ' c' hsize' hcnt hcl' hcut2 (htd' μ' v' h3.mono h1) (hdr' μ' v' h3.mono) (by rw [hse]; exact h2) (hg.mono h3.mono) (by rw [hse]; exact hf1.trans h3) (by rw [hse]; have := h3.next; omega) ?_ (nr_same μ' fun n hn e => h3.low n (by omega) e) (np_same hpn)
        rw [hse]
        refine (hpd1.fr h3).sub fun k o ⟨hD, hM⟩ => ?_
        have hM' : Made p.P base tr c k o := ⟨hM.1, fun j u hj hu ha => hM.2 j u (by omega) hu ha⟩
        exact ⟨pd_same hnf k o ⟨hD, hM'⟩, hM.2 c t hcc' ht hact⟩
end
end Go.Ev

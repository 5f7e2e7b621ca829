/- regions that draw their order: each order. -/
import Derived.Test.YtgeklgnjnjpofaaGreatDoorEvDraw2
set_option linter.unusedVariables false
set_option linter.unusedSimpArgs false
namespace Go.Ev
open Go Go.RowKit
section
variable {p : Par} {call : CallF} {μ : Mu} {F base : Nat}
/-- how many are not listed. -/
def cnt (l : Array Bool) : Nat := (l.toList.filter (!·)).length
theorem cnt_set (l : Array Bool) (i : Nat) (h : l[i]? = some false) : cnt (l.setIfInBounds i true) + 1 = cnt l := by
  unfold cnt
  have key : ∀ (m : List Bool) (i : Nat), m[i]? = some false → ((m.set i true).filter (!·)).length + 1 = (m.filter (!·)).length := by
    intro m
    induction m with
    | nil => intro i h; simp at h
    | cons b m ih =>
      intro i h
      match i with
      | 0 => simp only [List.getElem?_cons_zero, Option.some.injEq] at h; subst h; simp
      | i + 1 =>
        have := ih i (by simpa using h)
        rw [List.set_cons_succ, List.filter_cons, List.filter_cons]
        cases b <;> simp <;> omega
  rw [Array.toList_setIfInBounds]
  exact key _ i (by rw [Array.getElem?_toList]; exact h)
theorem cnt_zero (l : Array Bool) (h : cnt l = 0) (i : Nat) (hi : i < l.size) : l.getD i false = true := by
  unfold cnt at h
  have h2 := List.length_eq_zero_iff.1 h
  have : ¬ (l.getD i false = false) := by
    intro hf
    have hm : l[i] ∈ l.toList.filter (!·) := by
      rw [List.mem_filter]
      refine ⟨Array.getElem_mem_toList hi, ?_⟩
      rw [Array.getD_eq_getD_getElem?, Array.getElem?_eq_getElem hi] at hf
      simp only [Option.getD_some] at hf
      rw [hf]; rfl
    rw [h2] at hm; cases hm
  simpa using this
/-- what has been listed. -/
def Dn (listed : Array Bool) (i : Nat) : Prop := listed.getD i false = true
theorem Dn_set (listed : Array Bool) (i j : Nat) (hi : i < listed.size) : Dn (listed.setIfInBounds i true) j ↔ j = i ∨ Dn listed j := by
  unfold Dn
  simp only [Array.getD_eq_getD_getElem?, Array.getElem?_setIfInBounds]
  by_cases e : i = j
  · subst e; simp [hi]
  · simp [e, Ne.symm e]
/-- the first act that is not listed. -/
structure Cut (P : Program) (tr : List Tr) (D : Nat → Prop) (c : Nat) : Prop where
  le : c ≤ tr.length
  low : ∀ j t, j < c → tr[j]? = some t → t.acts P → D j
  at_ : ∀ t, tr[c]? = some t → t.acts P
  high : ∀ j t, c ≤ j → tr[j]? = some t → t.acts P → ¬ D j
/-- temporaries, where some operations are done. -/
structure TD (μ : Mu) (e0 : Env) (tr : List Tr) (D : Nat → Prop) (tm : Array Value) : Prop where
  size : tm.size = e0.nt
  done : ∀ i t k, tr[i]? = some t → D i → t.o.dst = some k → k < e0.nt → VR μ t.v (tm.getD k undef)
  rest : ∀ k, (∀ i t, tr[i]? = some t → D i → t.o.dst = some k → ¬ k < e0.nt) → VR μ ((e0.t.get k).getD undef) (tm.getD k undef)
theorem TD.mono {μ μ' : Mu} {e0 : Env} {tr : List Tr} {D : Nat → Prop} {tm : Array Value} (hm : ∀ n t, μ n = some t → μ' n = some t) (h : TD μ e0 tr D tm) : TD μ' e0 tr D tm :=
  ⟨h.size, fun i t k a b c d => (h.done i t k a b c d).mono hm, fun k a => (h.rest k a).mono hm⟩
/-- all that is known of the region. -/
structure Reg (p : Par) (call : CallF) (F base : Nat) (L : List Oper) (e0 ef : Env) (tr : List Tr) (lf : List (Nat × AObj)) (pf : Option (Nat × Value × S)) : Prop where
  len : tr.length = L.length
  facts : Facts p call F base L (masks L 0 .e) e0 tr ef
  last : Pn p.P base tr lf
  pi : PI p.P (masks L 0 .e) tr pf
  back : ∀ j o, L[j]? = some o → ∀ e ∈ o.after.toList, bindsAny e = true → e.on < j
  pair : ∀ i j x y, i < j → L[i]? = some x → L[j]? = some y → (∀ d, x.dst = some d → y.dst ≠ some d) ∧ ((msk (masks L 0 .e) j).testBit i = true ∨ ((∀ d, x.dst = some d → d ∉ looks L y) ∧ (∀ d, y.dst = some d → d ∉ looks L x) ∧ ¬ (fl p.P F i x = false ∧ fl p.P F j y = false ∧ kind p.P x = 2 ∧ kind p.P y = 2)))
theorem Reg.of_ok {L : List Oper} {e0 : Env} {x : Out} (hd : drawOk p.P F L = true) (h : evDraw p call F base L (masks L 0 .e) L 0 e0 [] [] [] none = x) (hx : x ≠ .bad) : ∃ tr e1 lf pf, Reg p call F base L e0 e1 tr lf pf ∧ x = endD e1 base lf pf := by
  unfold drawOk at hd
  rw [Bool.and_eq_true] at hd
  obtain ⟨tr, e1, lf, pf, h1, h2, h3, h5, h4⟩ := pass_ok (p := p) (call := call) (F := F) (base := base) (L := L) (M := masks L 0 .e) (e0 := e0) (x := x) L [] e0 [] [] [] none rfl
    ⟨fun i t h => by simp at h, rfl, fun i t h => by simp at h, fun i t h => by simp at h, fun i t j u h => by simp at h, fun i t h => by simp at h⟩ (fun rc _ c u h => by simp at h) (fun i t h => by simp at h) ⟨List.nodup_nil, fun k ob h => by cases h⟩ (fun j u h => by simp at h) h hx
  refine ⟨tr, e1, lf, pf, ⟨by simpa using h1, h2, h3, h5, fun j o hj e he hb => by have := edgesBack_spec L 0 hd.1 j o hj e he hb; omega, fun i j x y hij hi hj => ?_⟩, h4⟩
  have := pair_spec (allPairs_go p.P F L (masks L 0 .e) L 0 hd.2 i j x y hij hi hj)
  simpa [msk] using this
theorem put_get_t (e : Env) (d : Option Tmp) (v : Value) (k : Nat) : (e.put d v).t.get k = if d = some k ∧ k < e.nt then some v else e.t.get k := by
  unfold Env.put
  cases d with
  | none => simp
  | some x =>
    simp only [Option.some.injEq]
    cases hb : Nat.blt x e.nt with
    | true =>
      rw [blt_iff] at hb
      simp only [cond_true, put_get]
      by_cases h : k = x
      · subst h; simp [hb]
      · rw [if_neg h, if_neg (by intro hc; exact h hc.1.symm)]
    | false =>
      have hb' : ¬ x < e.nt := by rw [← blt_iff, hb]; simp
      simp only [cond_false]
      rw [if_neg (by intro hc; obtain ⟨rfl, h2⟩ := hc; exact hb' h2)]
theorem put_nt (e : Env) (d : Option Tmp) (v : Value) : (e.put d v).nt = e.nt := by
  unfold Env.put
  cases d with
  | none => rfl
  | some k => simp only; cases Nat.blt k e.nt <;> rfl
theorem put_d (e : Env) (d : Option Tmp) (v : Value) : (e.put d v).d = e.d := by
  unfold Env.put
  cases d with
  | none => rfl
  | some k => simp only; cases Nat.blt k e.nt <;> rfl
variable {L : List Oper} {e0 ef : Env} {tr : List Tr} {lf : List (Nat × AObj)} {pf : Option (Nat × Value × S)}
/-- the environment behind an operation. -/
theorem Reg.after (h : Reg p call F base L e0 ef tr lf pf) {i : Nat} {t : Tr} (ht : tr[i]? = some t) : ∃ s, envAt tr ef (i + 1) = ({ t.e with s := s } : Env).put t.o.dst t.v ∧ (¬ t.acts p.P → s = t.e.s) := by
  have hs := h.facts.step i t ht
  cases hw : t.wd with
  | false =>
    obtain ⟨a, b⟩ := hs.skip hw
    exact ⟨t.e.s, by rw [b, a], fun _ => rfl⟩
  | true =>
    rcases kind_lt p.P t.o with hk | hk | hk
    · exact ⟨t.e.s, (hs.pure hw hk).2, fun _ => rfl⟩
    · exact ⟨t.e.s, (hs.read hw hk).2, fun _ => rfl⟩
    · cases hfl : t.fl with
      | false =>
        cases hpan : t.pan with
        | none =>
          obtain ⟨s, _, b⟩ := hs.act ⟨hw, hk, hfl⟩ hpan
          exact ⟨s, b, fun hna => absurd ⟨hw, hk, hfl⟩ hna⟩
        | some x =>
          obtain ⟨_, a, b⟩ := hs.pan ⟨hw, hk, hfl⟩ x.1 x.2 hpan
          exact ⟨t.e.s, by rw [b, a], fun _ => rfl⟩
      | true =>
        obtain ⟨ob, _, b⟩ := hs.flo ⟨hw, hfl⟩
        exact ⟨t.e.s, b, fun _ => rfl⟩
theorem envAt_of {i : Nat} {t : Tr} (ht : tr[i]? = some t) : envAt tr ef i = t.e := by unfold envAt; rw [ht]
theorem envAt_end : envAt tr ef tr.length = ef := by unfold envAt; rw [List.getElem?_eq_none (Nat.le_refl _)]
theorem Reg.env (h : Reg p call F base L e0 ef tr lf pf) : ∀ i, i ≤ tr.length → (envAt tr ef i).nt = e0.nt ∧ (envAt tr ef i).d = e0.d ∧
    (∀ j t k, j < i → tr[j]? = some t → t.o.dst = some k → k < e0.nt → (envAt tr ef i).t.get k = some t.v) ∧ (∀ k, (∀ j t, j < i → tr[j]? = some t → t.o.dst = some k → ¬ k < e0.nt) → (envAt tr ef i).t.get k = e0.t.get k)
  | 0, _ => by rw [h.facts.zero]; exact ⟨rfl, rfl, fun j t k hj => absurd hj (Nat.not_lt_zero j), fun k _ => rfl⟩
  | i + 1, hi => by
    obtain ⟨a, d0, b, c⟩ := h.env i (by omega)
    have ht : tr[i]? = some tr[i] := List.getElem?_eq_getElem (by omega)
    obtain ⟨s, hs, _⟩ := h.after ht
    rw [envAt_of ht] at a b c d0
    rw [hs]
    refine ⟨by rw [put_nt]; exact a, by rw [put_d]; exact d0, fun j t k hj htj hd hk => ?_, fun k hno => ?_⟩
    · rw [put_get_t]
      by_cases e : j = i
      · subst e
        rw [ht] at htj; injection htj with htj; subst htj
        rw [if_pos ⟨hd, by show k < tr[j].e.nt; rw [a]; exact hk⟩]
      · have hne : ¬ (tr[i].o.dst = some k ∧ k < ({ tr[i].e with s := s } : Env).nt) := by
          intro hc
          exact (h.pair j i _ _ (by omega) (h.facts.ops j t htj) (h.facts.ops i _ ht)).1 k hd hc.1
        rw [if_neg hne]
        exact b j t k (by omega) htj hd hk
    · rw [put_get_t, if_neg (by intro hc; exact hno i _ (by omega) ht hc.1 (by rw [← a]; exact hc.2))]
      exact c k fun j t hj htj hd => hno j t (by omega) htj hd
/-- an operation that may come next sees what it saw. -/
theorem Reg.sees (h : Reg p call F base L e0 ef tr lf pf) {D : Nat → Prop} (hcl : Closed L D) {tm : Array Value} (htd : TD μ e0 tr D tm) {i : Nat} {t : Tr} (ht : tr[i]? = some t) (hn : ¬ D i) (hpre : ∀ k, (msk (masks L 0 .e) i).testBit k = true → D k)
    {k : Nat} (hk : k ∈ looks L t.o) : VR μ ((t.e.t.get k).getD undef) (tm.getD k undef) := by
  have hi := get_lt ht
  obtain ⟨hnt, _, hb, hc⟩ := h.env i (by omega)
  rw [envAt_of ht] at hb hc hnt
  by_cases hw : ∃ (j : Nat) (u : Tr), tr[j]? = some u ∧ u.o.dst = some k ∧ k < e0.nt
  · obtain ⟨j, u, hj, hd, hkn⟩ := hw
    rcases Nat.lt_trichotomy j i with hlt | rfl | hgt
    · have := (h.pair j i _ _ hlt (h.facts.ops j u hj) (h.facts.ops i t ht)).2
      rcases this with hbit | ⟨h1, _⟩
      · rw [hb j u k hlt hj hd hkn]
        exact htd.done j u k hj (hpre j hbit) hd hkn
      · exact absurd hk (h1 k hd)
    · rw [hc k fun j' u' hj' hu' hd' => ?_]
      · refine htd.rest k fun j' u' hj' hD hd' => ?_
        rcases Nat.lt_trichotomy j' j with hl | rfl | hg
        · exact absurd hd ((h.pair j' j _ _ hl (h.facts.ops j' u' hj') (h.facts.ops j u hj)).1 k hd')
        · exact absurd hD hn
        · exact absurd hd' ((h.pair j j' _ _ hg (h.facts.ops j u hj) (h.facts.ops j' u' hj')).1 k hd)
      · exact absurd hd ((h.pair j' j _ _ hj' (h.facts.ops j' u' hu') (h.facts.ops j u hj)).1 k hd')
    · have hnd : ¬ D j := by
        intro hD
        rcases (h.pair i j _ _ hgt (h.facts.ops i t ht) (h.facts.ops j u hj)).2 with hbit | ⟨_, h2, _⟩
        · exact hn (masks_ok L hcl j hD i hbit)
        · exact h2 k hd hk
      rw [hc k fun j' u' hj' hu' hd' => ?_]
      · refine htd.rest k fun j' u' hj' hD hd' => ?_
        rcases Nat.lt_trichotomy j' j with hl | rfl | hg
        · exact absurd hd ((h.pair j' j _ _ hl (h.facts.ops j' u' hj') (h.facts.ops j u hj)).1 k hd')
        · exact absurd hD hnd
        · exact absurd hd' ((h.pair j j' _ _ hg (h.facts.ops j u hj) (h.facts.ops j' u' hj')).1 k hd)
      · exact absurd hd ((h.pair j' j _ _ (by omega) (h.facts.ops j' u' hu') (h.facts.ops j u hj)).1 k hd')
  · rw [hc k fun j u hj hu hd hkn => hw ⟨j, u, hu, hd, hkn⟩]
    exact htd.rest k fun j u hj _ hd hkn => hw ⟨j, u, hj, hd, hkn⟩
/-- a read is what it was, wherever it comes up. -/
theorem Reg.read_at (h : Reg p call F base L e0 ef tr lf pf) {D : Nat → Prop} (hcl : Closed L D) {c i : Nat} (hcut : Cut p.P tr D c) {t : Tr} (ht : tr[i]? = some t) (hr : t.reads p.P) (hn : ¬ D i) (hpre : ∀ k, (msk (masks L 0 .e) i).testBit k = true → D k) :
    ∃ l, RdL p.P base tr c t l ∧ evRead p.P t.e.eval t.o (insL base l (envAt tr ef c).s) = some t.v := by
  have hi := get_lt ht
  have hs := h.facts.step i t ht
  have hrd := (hs.read hr.1 hr.2).1
  obtain ⟨hin1, hin2⟩ := h.facts.ins i t ht
  have hna : ¬ t.acts p.P := fun ha => by have := ha.2.1; rw [hr.2] at this; cases this
  rcases Nat.lt_trichotomy c i with hlt | rfl | hgt
  · have hc : tr[c]? = some tr[c] := List.getElem?_eq_getElem (by omega)
    rw [envAt_of hc]
    refine ⟨t.ins, ⟨hin1, fun k ob hk => ⟨hk, (hin2 k ob hk).2.2.1, fun j u hj hu ha => (hin2 k ob hk).2.2.2 j u (by omega) hu ha⟩⟩, ?_⟩
    exact h.facts.back i t ht hr c _ hlt hc (hcut.at_ _ hc) fun j u hcj hji hj hu => fun hbit => hcut.high j u hcj hj hu (hpre j hbit)
  · exact absurd (hcut.at_ t ht) hna
  · -- the last act ahead of the cut, behind the read
    have key : ∀ d, i + d < c → ∃ l, RdL p.P base tr (i + d + 1) t l ∧ evRead p.P t.e.eval t.o (insL base l (envAt tr ef (i + d + 1)).s) = some t.v := by
      intro d
      induction d with
      | zero =>
        intro hd
        obtain ⟨s, e1, e2⟩ := h.after ht
        refine ⟨t.ins, ⟨hin1, fun k ob hk => ⟨hk, (hin2 k ob hk).2.2.1, fun j u hj hu ha => ?_⟩⟩, ?_⟩
        · by_cases e : j = i
          · subst e; rw [ht] at hu; injection hu with hu; subst hu; exact absurd ha hna
          · exact (hin2 k ob hk).2.2.2 j u (by omega) hu ha
        · rw [Nat.add_zero, e1, put_s]
          show evRead p.P t.e.eval t.o (insL base t.ins s) = some t.v
          rw [e2 hna]; exact hrd
      | succ d ih =>
        intro hd
        have hlt2 : i + (d + 1) < tr.length := by have := hcut.le; omega
        have hj : tr[i + (d + 1)]? = some tr[i + (d + 1)] := List.getElem?_eq_getElem hlt2
        by_cases ha : (tr[i + (d + 1)]).acts p.P
        · have hD := hcut.low _ _ (by omega) hj ha
          exact h.facts.ahead i t (i + (d + 1)) _ ht hr (by omega) hj ha fun hbit => hn (masks_ok L hcl _ hD i hbit)
        · obtain ⟨s, e1, e2⟩ := h.after hj
          obtain ⟨l, hl1, hl2⟩ := ih (by omega)
          refine ⟨l, ⟨hl1.1, fun k ob hk => ⟨(hl1.2 k ob hk).1, (hl1.2 k ob hk).2.1, fun j u hju hu hua => ?_⟩⟩, ?_⟩
          · by_cases e : j = i + (d + 1)
            · subst e; rw [hj] at hu; injection hu with hu; subst hu; exact absurd hua ha
            · exact (hl1.2 k ob hk).2.2 j u (by omega) hu hua
          · rw [e1, put_s]
            show evRead p.P t.e.eval t.o (insL base l s) = some t.v
            rw [e2 ha, ← envAt_of (ef := ef) hj]
            exact hl2
    have := key (c - i - 1) (by omega)
    rw [show i + (c - i - 1) + 1 = c by omega] at this
    exact this
/-- the next cut behind an act. -/
theorem Reg.next_cut (h : Reg p call F base L e0 ef tr lf pf) {D : Nat → Prop} {c : Nat} (hcut : Cut p.P tr D c) {t : Tr} (ht : tr[c]? = some t) (hall : ∀ j u, tr[j]? = some u → u.acts p.P → D j → j < c) :
    ∃ c', Cut p.P tr (fun j => j = c ∨ D j) c' ∧ (envAt tr ef c').s = (envAt tr ef (c + 1)).s := by
  have go : ∀ k m, tr.length - m = k → c < m → m ≤ tr.length → (∀ j u, c < j → j < m → tr[j]? = some u → ¬ u.acts p.P) → (envAt tr ef m).s = (envAt tr ef (c + 1)).s → ∃ c', Cut p.P tr (fun j => j = c ∨ D j) c' ∧ (envAt tr ef c').s = (envAt tr ef (c + 1)).s := by
    intro k
    induction k with
    | zero =>
      intro m hk hcm hm hno hs
      have hme : m = tr.length := by omega
      subst hme
      refine ⟨_, ⟨Nat.le_refl _, fun j u hj hu ha => ?_, fun u hu => ?_, fun j u hj hu => ?_⟩, hs⟩
      · rcases Nat.lt_trichotomy j c with h1 | h1 | h1
        · exact .inr (hcut.low j u h1 hu ha)
        · exact .inl h1
        · exact absurd ha (hno j u h1 hj hu)
      · rw [List.getElem?_eq_none (Nat.le_refl _)] at hu; cases hu
      · have := get_lt hu; omega
    | succ k ih =>
      intro m hk hcm hm hno hs
      have hmt : tr[m]? = some tr[m] := List.getElem?_eq_getElem (by omega)
      have hlt2 : m < tr.length := by omega
      by_cases ha : (tr[m]).acts p.P
      · refine ⟨m, ⟨hm, fun j u hj hu ha' => ?_, fun u hu => ?_, fun j u hj hu ha' hD => ?_⟩, hs⟩
        · rcases Nat.lt_trichotomy j c with h1 | h1 | h1
          · exact .inr (hcut.low j u h1 hu ha')
          · exact .inl h1
          · exact absurd ha' (hno j u h1 hj hu)
        · rw [hmt] at hu; injection hu with hu; subst hu; exact ha
        · rcases hD with hD | hD
          · omega
          · have := hall j u hu ha' hD; omega
      · refine ih (m + 1) (by omega) (by omega) (by omega) (fun j u hcj hj hu => ?_) ?_
        · by_cases e : j = m
          · subst e; rw [hmt] at hu; injection hu with hu; subst hu; exact ha
          · exact hno j u hcj (by omega) hu
        · obtain ⟨s, e1, e2⟩ := h.after hmt
          rw [e1, put_s]
          show s = _
          rw [e2 ha, ← envAt_of (ef := ef) hmt]
          exact hs
  have := get_lt ht
  exact go (tr.length - (c + 1)) (c + 1) rfl (by omega) (by omega) (fun j u h1 h2 => by omega) rfl
end
end Go.Ev

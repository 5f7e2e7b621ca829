/- regions that draw their order, the main step. -/
import Derived.Test.YtgeklgnjnjpofaaGreatDoorEvDraw
set_option linter.unusedVariables false
set_option linter.unusedSimpArgs false
namespace Go.Ev
open Go Go.RowKit
/-- an operation as it went: ahead of it; was it wanted; what it gave. -/
structure Tr where
  o : Oper
  e : Env
  wd : Bool
  v : Value
  fl : Bool
  ins : List (Nat × AObj)
  dead : Bool
  pan : Option (Value × S)
def Tr.acts (P : Program) (t : Tr) : Prop := t.wd = true ∧ kind P t.o = 2 ∧ t.fl = false
def Tr.flo (t : Tr) : Prop := t.wd = true ∧ t.fl = true
def Tr.reads (P : Program) (t : Tr) : Prop := t.wd = true ∧ kind P t.o = 1
def envAt (pre : List Tr) (e : Env) (i : Nat) : Env := match pre[i]? with | some t => t.e | none => e
section
variable {p : Par} {call : CallF} {μ : Mu} {F base : Nat} {L : List Oper} {M : T Nat}
 noncomputable def msk (M : T Nat) (i : Nat) : Nat := (M.get i).getD 0
/-- how an operation went. -/
structure StepF (p : Par) (call : CallF) (F base : Nat) (L : List Oper) (i : Nat) (t : Tr) (e' : Env) : Prop where
  wd : t.dead = false → t.wd = wantd L t.e t.o.guard
  flag : t.fl = fl p.P F i t.o
  skip : t.wd = false → t.v = undef ∧ e' = t.e.put t.o.dst undef
  ok : t.wd = true → opsOk p.G t.o = true
  pure : t.wd = true → kind p.P t.o = 0 → evPure p.P t.e.eval t.o = some t.v ∧ e' = t.e.put t.o.dst t.v
  read : t.wd = true → kind p.P t.o = 1 → evRead p.P t.e.eval t.o (insL base t.ins t.e.s) = some t.v ∧ e' = t.e.put t.o.dst t.v
  act : t.acts p.P → t.pan = none → ∃ s, evOp p call t.e.eval t.o (insL base t.ins t.e.s) = .val t.v s ∧ e' = { t.e with s := s }.put t.o.dst t.v
  flo : t.flo → ∃ ob, evAlloc p.P t.e.eval t.o (base + i) = some (t.v, ob) ∧ e' = t.e.put t.o.dst t.v
  pan : t.acts p.P → ∀ v s, t.pan = some (v, s) → evOp p call t.e.eval t.o (insL base t.ins t.e.s) = .panic v s ∧ t.v = undef ∧ e' = t.e.put t.o.dst undef
/-- an entry that has been made, ahead of an operation, and that no earlier act has brought in. -/
def Made (P : Program) (base : Nat) (pre : List Tr) (c k : Nat) (ob : AObj) : Prop :=
  (∃ u, pre[k]? = some u ∧ u.flo ∧ evAlloc P u.e.eval u.o (base + k) = some (u.v, ob)) ∧ ∀ j u, j < c → pre[j]? = some u → u.acts P → k ∉ u.ins.map (·.1)
/-- what a read looks at besides the heap, ahead of an operation. -/
def RdL (P : Program) (base : Nat) (pre : List Tr) (c : Nat) (t : Tr) (l : List (Nat × AObj)) : Prop :=
  (l.map (·.1)).Nodup ∧ ∀ k ob, (k, ob) ∈ l → (k, ob) ∈ t.ins ∧ Made P base pre c k ob
structure Facts (p : Par) (call : CallF) (F base : Nat) (L : List Oper) (M : T Nat) (e0 : Env) (pre : List Tr) (e : Env) : Prop where
  ops : ∀ (i : Nat) (t : Tr), pre[i]? = some t → L[i]? = some t.o
  zero : envAt pre e 0 = e0
  step : ∀ (i : Nat) (t : Tr), pre[i]? = some t → StepF p call F base L i t (envAt pre e (i + 1))
  back : ∀ (i : Nat) (t : Tr), pre[i]? = some t → t.reads p.P → ∀ (c : Nat) (u : Tr), c < i → pre[c]? = some u → u.acts p.P → (∀ (j : Nat) (u' : Tr), c ≤ j → j < i → pre[j]? = some u' → u'.acts p.P → ¬ (msk M i).testBit j = true) → evRead p.P t.e.eval t.o (insL base t.ins u.e.s) = some t.v
  ahead : ∀ (i : Nat) (t : Tr) (j : Nat) (u : Tr), pre[i]? = some t → t.reads p.P → i < j → pre[j]? = some u → u.acts p.P → ¬ (msk M j).testBit i = true → ∃ l, RdL p.P base pre (j + 1) t l ∧ evRead p.P t.e.eval t.o (insL base l (envAt pre e (j + 1)).s) = some t.v
  ins : ∀ (i : Nat) (t : Tr), pre[i]? = some t → (t.ins.map (·.1)).Nodup ∧ ∀ k ob, (k, ob) ∈ t.ins → k < i ∧ (msk M i).testBit k = true ∧ Made p.P base pre i k ob
/-- entries that wait. -/
structure Pn (P : Program) (base : Nat) (pre : List Tr) (pend : List (Nat × AObj)) : Prop where
  nodup : (pend.map (·.1)).Nodup
  made : ∀ k ob, (k, ob) ∈ pend → k < pre.length ∧ Made P base pre pre.length k ob
def HP (P : Program) (base : Nat) (hist : List (Nat × S)) (pre : List Tr) : Prop :=
  ∀ rc : Rec, backOk P base rc hist = true → ∀ (c : Nat) (u : Tr), pre[c]? = some u → u.acts P → (∀ (j : Nat) (u' : Tr), c ≤ j → pre[j]? = some u' → u'.acts P → ¬ rc.m.testBit j = true) → evRead P rc.e.eval rc.o (insL base rc.ins u.e.s) = some rc.v
def RP (P : Program) (base : Nat) (reads : List (Nat × Rec)) (pre : List Tr) : Prop :=
  ∀ (i : Nat) (t : Tr), pre[i]? = some t → t.reads P → ∃ rc : Rec, (i, rc) ∈ reads ∧ rc.o = t.o ∧ rc.e = t.e ∧ rc.v = t.v ∧ RdL P base pre pre.length t rc.ins
theorem ahead_spec {P : Program} {m : Nat} {s : S} : ∀ {reads : List (Nat × Rec)}, aheadOk P base m s reads = true → ∀ i rc, (i, rc) ∈ reads → ¬ m.testBit i = true → sameRead P base rc s = true
  | [], h, i, rc, hm, hn => by cases hm
  | (j, r) :: l, h, i, rc, hm, hn => by
    simp only [aheadOk, Bool.and_eq_true] at h
    rcases List.mem_cons.1 hm with e | hm
    · injection e with e1 e2
      subst e1; subst e2
      simp only [Bool.not_eq_true] at hn
      rw [hn] at h
      exact h.1
    · exact ahead_spec h.2 i rc hm hn
theorem snoc_get {α : Type} (l : List α) (x : α) (i : Nat) : (l ++ [x])[i]? = if i < l.length then l[i]? else if i = l.length then some x else none := by
  by_cases h : i < l.length
  · rw [if_pos h, List.getElem?_append_left h]
  · rw [if_neg h, List.getElem?_append_right (by omega)]
    by_cases e : i = l.length
    · rw [if_pos e, e]; simp
    · rw [if_neg e, List.getElem?_eq_none (by simp; omega)]
theorem get_lt {α : Type} {l : List α} {i : Nat} {x : α} (h : l[i]? = some x) : i < l.length := by
  rcases Nat.lt_or_ge i l.length with h1 | h1
  · exact h1
  · rw [List.getElem?_eq_none h1] at h; cases h
theorem envAt_snoc (pre : List Tr) (e e' : Env) (t : Tr) (ht : t.e = e) (i : Nat) (hi : i ≤ pre.length) : envAt (pre ++ [t]) e' i = envAt pre e i := by
  unfold envAt
  rw [snoc_get]
  by_cases h : i < pre.length
  · rw [if_pos h, List.getElem?_eq_getElem h]
  · rw [if_neg h, if_pos (by omega), List.getElem?_eq_none (by omega)]
    exact ht
theorem envAt_last (pre : List Tr) (e' : Env) (t : Tr) : envAt (pre ++ [t]) e' (pre.length + 1) = e' := by
  unfold envAt
  rw [List.getElem?_eq_none (by simp)]
theorem Made.snoc {P : Program} {pre : List Tr} {c k : Nat} {ob : AObj} (h : Made P base pre c k ob) (t : Tr) (hc : c ≤ pre.length) : Made P base (pre ++ [t]) c k ob := by
  obtain ⟨⟨u, hu, hf⟩, hno⟩ := h
  refine ⟨⟨u, by rw [snoc_get, if_pos (get_lt hu)]; exact hu, hf⟩, fun j x hj hx ha => ?_⟩
  rw [snoc_get, if_pos (by omega)] at hx
  exact hno j x hj hx ha
theorem Made.next {P : Program} {pre : List Tr} {k : Nat} {ob : AObj} (h : Made P base pre pre.length k ob) (t : Tr) (hn : t.acts P → k ∉ t.ins.map (·.1)) : Made P base (pre ++ [t]) (pre.length + 1) k ob := by
  have b' := h.snoc t (Nat.le_refl _)
  refine ⟨b'.1, fun j u hj hu ha => ?_⟩
  rw [snoc_get] at hu
  split at hu
  · rename_i hlt; exact h.2 j u hlt hu ha
  · split at hu
    · injection hu with hu; subst hu; exact hn ha
    · cases hu
theorem RdL.snoc {P : Program} {pre : List Tr} {c : Nat} {u : Tr} {l : List (Nat × AObj)} (h : RdL P base pre c u l) (t : Tr) (hc : c ≤ pre.length) : RdL P base (pre ++ [t]) c u l := ⟨h.1, fun k ob hk => ⟨(h.2 k ob hk).1, (h.2 k ob hk).2.snoc t hc⟩⟩
theorem RdL.next {P : Program} {pre : List Tr} {u : Tr} {l : List (Nat × AObj)} (h : RdL P base pre pre.length u l) (t : Tr) (hn : t.acts P → ∀ k, k ∈ l.map (·.1) → k ∉ t.ins.map (·.1)) : RdL P base (pre ++ [t]) (pre.length + 1) u l :=
  ⟨h.1, fun k ob hk => ⟨(h.2 k ob hk).1, (h.2 k ob hk).2.next t fun ha => hn ha k (List.mem_map.2 ⟨_, hk, rfl⟩)⟩⟩
theorem Facts.snoc {e0 e e' : Env} {pre : List Tr} (h : Facts p call F base L M e0 pre e) (t : Tr) (ht : t.e = e) (ho : L[pre.length]? = some t.o) (hs : StepF p call F base L pre.length t e')
    (hb : t.reads p.P → ∀ (c : Nat) (u : Tr), pre[c]? = some u → u.acts p.P → (∀ (j : Nat) (u' : Tr), c ≤ j → pre[j]? = some u' → u'.acts p.P → ¬ (msk M pre.length).testBit j = true) → evRead p.P t.e.eval t.o (insL base t.ins u.e.s) = some t.v)
    (ha : t.acts p.P → ∀ (i : Nat) (u : Tr), pre[i]? = some u → u.reads p.P → ¬ (msk M pre.length).testBit i = true → ∃ l, RdL p.P base (pre ++ [t]) (pre.length + 1) u l ∧ evRead p.P u.e.eval u.o (insL base l e'.s) = some u.v)
    (hin : (t.ins.map (·.1)).Nodup ∧ ∀ k ob, (k, ob) ∈ t.ins → k < pre.length ∧ (msk M pre.length).testBit k = true ∧ Made p.P base pre pre.length k ob) : Facts p call F base L M e0 (pre ++ [t]) e' := by
  refine ⟨fun i u hi => ?_, ?_, fun i u hi => ?_, fun i u hi hr c x hc hx hxa hno => ?_, fun i u j x hi hr hij hj hxa hno => ?_, fun i u hi => ?_⟩
  · rw [snoc_get] at hi
    split at hi
    · exact h.ops i u hi
    · split at hi
      · rename_i e1; injection hi with hi; subst hi; rw [e1]; exact ho
      · cases hi
  · rw [envAt_snoc pre e e' t ht 0 (Nat.zero_le _)]; exact h.zero
  · rw [snoc_get] at hi
    split at hi
    · rename_i hlt
      rw [envAt_snoc pre e e' t ht (i + 1) (by omega)]
      exact h.step i u hi
    · split at hi
      · rename_i e1; injection hi with hi; subst hi; rw [e1, envAt_last]; exact hs
      · cases hi
  · have hlc : c < pre.length := by
      have := get_lt hi
      simp only [List.length_append, List.length_cons, List.length_nil] at this
      omega
    rw [snoc_get, if_pos hlc] at hx
    rw [snoc_get] at hi
    split at hi
    · rename_i hlt
      exact h.back i u hi hr c x hc hx hxa fun j u' hcj hji hj => hno j u' hcj hji (by rw [snoc_get, if_pos (by omega)]; exact hj)
    · split at hi
      · rename_i e1
        injection hi with hi; subst hi; subst e1
        exact hb hr c x hx hxa fun j u' hcj hj => hno j u' hcj (get_lt hj) (by rw [snoc_get, if_pos (get_lt hj)]; exact hj)
      · cases hi
  · rw [snoc_get] at hj
    split at hj
    · rename_i hlt
      rw [snoc_get, if_pos (by omega)] at hi
      rw [envAt_snoc pre e e' t ht (j + 1) (by omega)]
      obtain ⟨l, h1, h2⟩ := h.ahead i u j x hi hr hij hj hxa hno
      exact ⟨l, h1.snoc t (by omega), h2⟩
    · split at hj
      · rename_i e1
        injection hj with hj; subst hj; subst e1
        rw [snoc_get, if_pos hij] at hi
        rw [envAt_last]
        exact ha hxa i u hi hr hno
      · cases hj
  · rw [snoc_get] at hi
    split at hi
    · obtain ⟨a, b⟩ := h.ins i u hi
      exact ⟨a, fun k ob hk => ⟨(b k ob hk).1, (b k ob hk).2.1, (b k ob hk).2.2.snoc t (by omega)⟩⟩
    · split at hi
      · rename_i e1
        injection hi with hi; subst hi; subst e1
        obtain ⟨a, b⟩ := hin
        exact ⟨a, fun k ob hk => ⟨(b k ob hk).1, (b k ob hk).2.1, (b k ob hk).2.2.snoc _ (Nat.le_refl _)⟩⟩
      · cases hi
theorem HP.same {P : Program} {hist : List (Nat × S)} {pre : List Tr} (h : HP P base hist pre) (t : Tr) (ht : ¬ t.acts P) : HP P base hist (pre ++ [t]) := by
  intro rc hb c u hc hu hno
  rw [snoc_get] at hc
  split at hc
  · exact h rc hb c u hc hu fun j u' hcj hj hu' => hno j u' hcj (by rw [snoc_get, if_pos (get_lt hj)]; exact hj) hu'
  · split at hc
    · injection hc with hc; subst hc; exact absurd hu ht
    · cases hc
theorem HP.act {P : Program} {hist : List (Nat × S)} {pre : List Tr} (h : HP P base hist pre) (t : Tr) (ht : t.acts P) : HP P base ((pre.length, t.e.s) :: hist) (pre ++ [t]) := by
  intro rc hb c u hc hu hno
  have hl : ¬ rc.m.testBit pre.length = true := hno pre.length t (by have := get_lt hc; simp only [List.length_append, List.length_cons, List.length_nil] at this; omega) (by rw [snoc_get, if_neg (by omega), if_pos rfl]) ht
  simp only [backOk, Bool.not_eq_true] at hb hl
  rw [hl] at hb
  simp only [cond_false, Bool.and_eq_true] at hb
  rw [snoc_get] at hc
  split at hc
  · exact h rc hb.2 c u hc hu fun j u' hcj hj hu' => hno j u' hcj (by rw [snoc_get, if_pos (get_lt hj)]; exact hj) hu'
  · split at hc
    · injection hc with hc; subst hc; exact same_spec hb.1
    · cases hc
theorem RP.same {P : Program} {reads : List (Nat × Rec)} {pre : List Tr} (h : RP P base reads pre) (t : Tr) (ht : ¬ t.reads P) (ha : ¬ t.acts P) : RP P base reads (pre ++ [t]) := by
  intro i u hi hu
  rw [snoc_get] at hi
  split at hi
  · obtain ⟨rc, h1, h2, h3, h4, h5⟩ := h i u hi hu
    exact ⟨rc, h1, h2, h3, h4, by rw [List.length_append]; exact h5.next t fun a => absurd a ha⟩
  · split at hi
    · injection hi with hi; subst hi; exact absurd hu ht
    · cases hi
theorem RP.read {P : Program} {reads : List (Nat × Rec)} {pre : List Tr} (h : RP P base reads pre) (t : Tr) (k : Nat) (ha : ¬ t.acts P) (hl : RdL P base pre pre.length t t.ins) : RP P base ((pre.length, ⟨t.o, t.e, k, t.v, t.ins⟩) :: reads) (pre ++ [t]) := by
  intro i u hi hu
  rw [snoc_get] at hi
  split at hi
  · obtain ⟨rc, h1, h2, h3, h4, h5⟩ := h i u hi hu
    exact ⟨rc, List.mem_cons.2 (.inr h1), h2, h3, h4, by rw [List.length_append]; exact h5.next t fun a => absurd a ha⟩
  · split at hi
    · rename_i e1
      injection hi with hi; subst hi; subst e1
      exact ⟨_, List.mem_cons.2 (.inl rfl), rfl, rfl, rfl, by rw [List.length_append]; exact hl.next t fun a => absurd a ha⟩
    · cases hi
theorem Pn.same {P : Program} {pre : List Tr} {pend : List (Nat × AObj)} (h : Pn P base pre pend) (t : Tr) (ht : ¬ t.acts P) : Pn P base (pre ++ [t]) pend := by
  refine ⟨h.nodup, fun k ob hk => ?_⟩
  obtain ⟨a, b⟩ := h.made k ob hk
  have b' := b.snoc t (Nat.le_refl _)
  refine ⟨by rw [List.length_append]; omega, b'.1, fun j u hj hu ha => ?_⟩
  rw [snoc_get] at hu
  split at hu
  · rename_i hlt; exact b.2 j u hlt hu ha
  · split at hu
    · injection hu with hu; subst hu; exact absurd ha ht
    · cases hu
theorem Pn.new {P : Program} {pre : List Tr} {pend : List (Nat × AObj)} (h : Pn P base pre pend) (t : Tr) (ht : t.flo) (ob : AObj) (ho : evAlloc P t.e.eval t.o (base + pre.length) = some (t.v, ob)) (hlt : ∀ (j : Nat) (u : Tr), pre[j]? = some u → u.acts P → ∀ k ob, (k, ob) ∈ u.ins → k < j) : Pn P base (pre ++ [t]) ((pre.length, ob) :: pend) := by
  have hna : ¬ t.acts P := fun ha => by have := ha.2.2; rw [ht.2] at this; cases this
  have h' := h.same t hna
  refine ⟨?_, fun k o hk => ?_⟩
  · rw [List.map_cons, List.nodup_cons]
    refine ⟨fun hm => ?_, h.nodup⟩
    obtain ⟨⟨k, o⟩, hk, e⟩ := List.mem_map.1 hm
    have := (h.made k o hk).1
    simp only at e
    omega
  · rw [List.mem_cons] at hk
    rcases hk with hk | hk
    · injection hk with h1 h2
      subst h1; subst h2
      refine ⟨by simp, ⟨t, by rw [snoc_get, if_neg (by omega), if_pos rfl], ht, ho⟩, fun j u hj hu ha hm => ?_⟩
      rw [snoc_get] at hu
      split at hu
      · obtain ⟨⟨k, o⟩, hk, e⟩ := List.mem_map.1 hm
        have h1 := hlt j u hu ha k o hk
        have h2 := get_lt hu
        simp only at e
        omega
      · split at hu
        · injection hu with hu; subst hu; exact hna ha
        · cases hu
    · exact h'.made k o hk
theorem pick_mem {m : Nat} {b : Bool} {l : List (Nat × AObj)} {x : Nat × AObj} : x ∈ pick m b l ↔ x ∈ l ∧ m.testBit x.1 = b := by unfold pick; rw [List.mem_filter]; simp
theorem pick_nodup {m : Nat} {b : Bool} {l : List (Nat × AObj)} (h : (l.map (·.1)).Nodup) : ((pick m b l).map (·.1)).Nodup := h.sublist ((List.filter_sublist).map _)
theorem RP.act {P : Program} {reads : List (Nat × Rec)} {pre : List Tr} {pend : List (Nat × AObj)} (h : RP P base reads pre) (t : Tr) (ht : ¬ t.reads P) (m : Nat) (hi : t.ins = pick m true pend) : RP P base (dropIns m reads) (pre ++ [t]) := by
  intro i u hu hr
  rw [snoc_get] at hu
  split at hu
  · obtain ⟨rc, h1, h2, h3, h4, h5⟩ := h i u hu hr
    refine ⟨{ rc with ins := pick m false rc.ins }, List.mem_map.2 ⟨_, h1, rfl⟩, h2, h3, h4, ?_⟩
    rw [List.length_append]
    have h6 : RdL P base pre pre.length u (pick m false rc.ins) := ⟨pick_nodup h5.1, fun k ob hk => h5.2 k ob (pick_mem.1 hk).1⟩
    refine h6.next t fun _ k hk hm => ?_
    rw [hi] at hm
    obtain ⟨⟨k1, o1⟩, a1, e1⟩ := List.mem_map.1 hk
    obtain ⟨⟨k2, o2⟩, a2, e2⟩ := List.mem_map.1 hm
    have b1 := (pick_mem.1 a1).2
    have b2 := (pick_mem.1 a2).2
    simp only at e1 e2 b1 b2
    subst e1; subst e2
    rw [b1] at b2; cases b2
  · split at hu
    · injection hu with hu; subst hu; exact absurd hr ht
    · cases hu
/-- reads that an act does not wait for are what they were behind it. -/
theorem RP.ahead {P : Program} {reads : List (Nat × Rec)} {pre : List Tr} {m : Nat} {s : S} (h : RP P base reads pre) (hb : aheadOk P base m s reads = true) {i : Nat} {t : Tr} (ht : pre[i]? = some t) (hr : t.reads P) (hn : ¬ m.testBit i = true) : ∃ l, RdL P base pre pre.length t l ∧ evRead P t.e.eval t.o (insL base l s) = some t.v := by
  obtain ⟨rc, h1, h2, h3, h4, h5⟩ := h i t ht hr
  have := same_spec (ahead_spec hb i rc h1 hn)
  rw [h2, h3, h4] at this
  exact ⟨_, h5, this⟩
theorem Pn.act {P : Program} {pre : List Tr} {pend : List (Nat × AObj)} (h : Pn P base pre pend) (t : Tr) (m : Nat) (hi : t.ins = pick m true pend) : Pn P base (pre ++ [t]) (pick m false pend) := by
  refine ⟨pick_nodup h.nodup, fun k ob hk => ?_⟩
  obtain ⟨hk1, hk2⟩ := pick_mem.1 hk
  obtain ⟨a, b⟩ := h.made k ob hk1
  have b' := b.snoc t (Nat.le_refl _)
  refine ⟨by rw [List.length_append]; omega, b'.1, fun j u hj hu ha => ?_⟩
  rw [snoc_get] at hu
  split at hu
  · rename_i hlt; exact b.2 j u hlt hu ha
  · split at hu
    · injection hu with hu; subst hu
      rw [hi]
      intro hm
      obtain ⟨⟨k', o'⟩, hk', e⟩ := List.mem_map.1 hm
      have := (pick_mem.1 hk').2
      simp only at e this
      subst e
      rw [this] at hk2; cases hk2
    · cases hu
/-- which operation panics; what waits for it. -/
def PI (P : Program) (M : T Nat) (pre : List Tr) (pn : Option (Nat × Value × S)) : Prop :=
  match pn with
  | none => ∀ (j : Nat) (u : Tr), pre[j]? = some u → u.pan = none ∧ u.dead = false
  | some (i, v, s) => ∃ t, pre[i]? = some t ∧ t.acts P ∧ t.pan = some (v, s) ∧ ∀ (j : Nat) (u : Tr), pre[j]? = some u → (j = i ∨ u.pan = none) ∧ (u.dead = true → (msk M j).testBit i = true)
theorem PI.snoc {P : Program} {pre : List Tr} {pn : Option (Nat × Value × S)} (h : PI P M pre pn) (t : Tr) (ht : t.pan = none) (hd : t.dead = true → deadIn pn (msk M pre.length) = true) : PI P M (pre ++ [t]) pn := by
  cases pn with
  | none =>
    intro j u hj
    rw [snoc_get] at hj
    split at hj
    · exact h j u hj
    · split at hj
      · injection hj with hj; subst hj
        refine ⟨ht, ?_⟩
        cases hdd : t.dead with
        | false => rfl
        | true => have := hd hdd; cases this
      · cases hj
  | some x =>
    obtain ⟨i, v, s⟩ := x
    obtain ⟨t0, h1, h2, h3, h4⟩ := h
    refine ⟨t0, by rw [snoc_get, if_pos (get_lt h1)]; exact h1, h2, h3, fun j u hj => ?_⟩
    rw [snoc_get] at hj
    split at hj
    · exact h4 j u hj
    · split at hj
      · rename_i e1
        injection hj with hj; subst hj; subst e1
        exact ⟨.inr ht, fun hdd => hd hdd⟩
      · cases hj
theorem PI.pan {P : Program} {pre : List Tr} (h : PI P M pre none) (t : Tr) (v : Value) (s : S) (ha : t.acts P) (ht : t.pan = some (v, s)) (hd : t.dead = false) : PI P M (pre ++ [t]) (some (pre.length, v, s)) := by
  refine ⟨t, by rw [snoc_get, if_neg (by omega), if_pos rfl], ha, ht, fun j u hj => ?_⟩
  rw [snoc_get] at hj
  split at hj
  · obtain ⟨a, b⟩ := h j u hj
    exact ⟨.inr a, fun hdd => by rw [b] at hdd; cases hdd⟩
  · split at hj
    · rename_i e1
      injection hj with hj; subst hj
      exact ⟨.inl e1, fun hdd => by rw [hd] at hdd; cases hdd⟩
    · cases hj
/-- a pass that comes to an end leaves these facts. -/
theorem pass_ok {e0 : Env} {x : Out} : ∀ (r : List Oper) (pre : List Tr) (e : Env) (hist : List (Nat × S)) (reads : List (Nat × Rec)) (pend : List (Nat × AObj)) (pn : Option (Nat × Value × S)), L.drop pre.length = r → Facts p call F base L M e0 pre e → HP p.P base hist pre → RP p.P base reads pre → Pn p.P base pre pend → PI p.P M pre pn →
    evDraw p call F base L M r pre.length e hist reads pend pn = x → x ≠ .bad → ∃ tr e1 lf pf, tr.length = pre.length + r.length ∧ Facts p call F base L M e0 tr e1 ∧ Pn p.P base tr lf ∧ PI p.P M tr pf ∧ x = endD e1 base lf pf
  | [], pre, e, hist, reads, pend, pn, hr, hf, hh, hrp, hpn, hpi, h, hx => by
    simp only [evDraw] at h
    subst h
    exact ⟨pre, e, pend, pn, by simp, hf, hpn, hpi, rfl⟩
  | o :: r, pre, e, hist, reads, pend, pn, hr, hf, hh, hrp, hpn, hpi, h, hx => by
    have ho : L[pre.length]? = some o := by
      have : (L.drop pre.length)[0]? = some o := by rw [hr]; rfl
      simpa using this
    have hr' : ∀ t : Tr, L.drop (pre ++ [t]).length = r := fun t => by
      rw [List.length_append, List.length_cons, List.length_nil, ← List.tail_drop, hr]; rfl
    have fin : ∀ (t : Tr) (e' : Env) (hist' : List (Nat × S)) (reads' : List (Nat × Rec)) (pend' : List (Nat × AObj)) (pn' : Option (Nat × Value × S)), Facts p call F base L M e0 (pre ++ [t]) e' → HP p.P base hist' (pre ++ [t]) → RP p.P base reads' (pre ++ [t]) → Pn p.P base (pre ++ [t]) pend' → PI p.P M (pre ++ [t]) pn' → evDraw p call F base L M r (pre.length + 1) e' hist' reads' pend' pn' = x → ∃ tr e1 lf pf, tr.length = pre.length + (o :: r).length ∧ Facts p call F base L M e0 tr e1 ∧ Pn p.P base tr lf ∧ PI p.P M tr pf ∧ x = endD e1 base lf pf := by
      intro t e' hist' reads' pend' pn' f1 f2 f3 f5 f6 f4
      obtain ⟨tr, e1, lf, pf, h1, h2, h3⟩ := pass_ok r (pre ++ [t]) e' hist' reads' pend' pn' (hr' t) f1 f2 f3 f5 f6 (by rw [List.length_append]; exact f4) hx
      exact ⟨tr, e1, lf, pf, by rw [h1]; simp; omega, h2, h3⟩
    have dd : ∀ (t : Tr), t.dead = false → t.dead = true → deadIn pn (msk M pre.length) = true := fun t h1 h2 => by rw [h1] at h2; cases h2
    simp only [evDraw] at h
    cases hdd : deadIn pn ((M.get pre.length).getD 0) with
    | true =>
      simp only [hdd, cond_true] at h
      let t : Tr := ⟨o, e, false, undef, fl p.P F pre.length o, [], true, none⟩
      have na : ¬ t.acts p.P := fun ha => by cases ha.1
      have nr : ¬ t.reads p.P := fun ha => by cases ha.1
      have nf : ¬ t.flo := fun ha => by cases ha.1
      exact fin t _ hist reads pend pn (hf.snoc t rfl ho ⟨fun hb => (by cases hb), rfl, fun _ => ⟨rfl, rfl⟩, fun hb => (by cases hb), fun hb => (by cases hb), fun hb => (by cases hb), fun ha => absurd ha na, fun ha => absurd ha nf, fun ha => absurd ha na⟩ (fun hb => absurd hb nr) (fun hb => absurd hb na) ⟨List.nodup_nil, fun k ob hk => by cases hk⟩) (hh.same t na) (hrp.same t nr na) (hpn.same t na) (hpi.snoc t rfl fun _ => hdd) h
    | false =>
    simp only [hdd, cond_false] at h
    cases hw : wantd L e o.guard with
    | false =>
      simp only [hw, cond_false] at h
      let t : Tr := ⟨o, e, false, undef, fl p.P F pre.length o, [], false, none⟩
      have na : ¬ t.acts p.P := fun ha => by cases ha.1
      have nr : ¬ t.reads p.P := fun ha => by cases ha.1
      have nf : ¬ t.flo := fun ha => by cases ha.1
      exact fin t _ hist reads pend pn (hf.snoc t rfl ho ⟨fun _ => hw.symm, rfl, fun _ => ⟨rfl, rfl⟩, fun hb => (by cases hb), fun hb => (by cases hb), fun hb => (by cases hb), fun ha => absurd ha na, fun ha => absurd ha nf, fun ha => absurd ha na⟩ (fun hb => absurd hb nr) (fun hb => absurd hb na) ⟨List.nodup_nil, fun k ob hk => by cases hk⟩) (hh.same t na) (hrp.same t nr na) (hpn.same t na) (hpi.snoc t rfl (dd t rfl)) h
    | true =>
      simp only [hw, cond_true] at h
      cases hok : opsOk p.G o with
      | false => simp only [hok, cond_false] at h; exact absurd h.symm hx
      | true =>
      simp only [hok, cond_true] at h
      cases hfl : fl p.P F pre.length o with
      | true =>
        simp only [hfl, cond_true] at h
        have hk : kind p.P o = 2 := by unfold fl at hfl; rw [Bool.and_eq_true, beq_eq, decide_eq_true_eq] at hfl; exact hfl.2
        cases hv : evAlloc p.P e.eval o (base + pre.length) with
        | none => simp only [hv] at h; exact absurd h.symm hx
        | some x =>
          obtain ⟨v, ob⟩ := x
          simp only [hv] at h
          let t : Tr := ⟨o, e, true, v, true, [], false, none⟩
          have na : ¬ t.acts p.P := fun ha => by have := ha.2.2; cases this
          have nr : ¬ t.reads p.P := fun ha => by have := ha.2; simp only [t, hk] at this; cases this
          exact fin t _ hist reads _ pn (hf.snoc t rfl ho ⟨fun _ => hw.symm, hfl.symm, fun hb => (by cases hb), fun _ => hok, fun _ hb => (by simp only [t, hk] at hb; cases hb), fun _ hb => (by simp only [t, hk] at hb; cases hb), fun ha => absurd ha na, fun _ => ⟨ob, hv, rfl⟩, fun ha => absurd ha na⟩ (fun hb => absurd hb nr) (fun hb => absurd hb na) ⟨List.nodup_nil, fun k ob hk => by cases hk⟩) (hh.same t na) (hrp.same t nr na)
            (hpn.new t ⟨rfl, rfl⟩ ob hv fun j u hu ha k q hk => ((hf.ins j u hu).2 k q hk).1) (hpi.snoc t rfl (dd t rfl)) h
      | false =>
      simp only [hfl, cond_false] at h
      have hins : (∀ t : Tr, t.ins = pick ((M.get pre.length).getD 0) true pend → (t.ins.map (·.1)).Nodup ∧ ∀ k ob, (k, ob) ∈ t.ins → k < pre.length ∧ (msk M pre.length).testBit k = true ∧ Made p.P base pre pre.length k ob) := fun t ht => by
        rw [ht]
        exact ⟨pick_nodup hpn.nodup, fun k ob hk => ⟨(hpn.made k ob (pick_mem.1 hk).1).1, (pick_mem.1 hk).2, (hpn.made k ob (pick_mem.1 hk).1).2⟩⟩
      rcases kind_lt p.P o with hk | hk | hk
      · simp only [hk] at h
        cases hv : evOp p call e.eval o e.s with
        | panic v s => simp only [hv] at h; exact absurd h.symm hx
        | defer d => simp only [hv] at h; exact absurd h.symm hx
        | recover => simp only [hv] at h; exact absurd h.symm hx
        | bad => simp only [hv] at h; exact absurd h.symm hx
        | val v s =>
          simp only [hv] at h
          let t : Tr := ⟨o, e, true, v, false, [], false, none⟩
          have na : ¬ t.acts p.P := fun ha => by have := ha.2.1; simp only [t, hk] at this; cases this
          have nr : ¬ t.reads p.P := fun ha => by have := ha.2; simp only [t, hk] at this; cases this
          have nf : ¬ t.flo := fun ha => by have := ha.2; cases this
          have hp : evPure p.P e.eval o = some v := by
            unfold evOp at hv
            simp only [hk] at hv
            cases hp : evPure p.P e.eval o with
            | none => simp only [hp] at hv; cases hv
            | some u => simp only [hp] at hv; injection hv with h1 h2; rw [h1]
          exact fin t _ hist reads pend pn (hf.snoc t rfl ho ⟨fun _ => hw.symm, hfl.symm, fun hb => (by cases hb), fun _ => hok, fun _ _ => ⟨hp, rfl⟩, fun _ hb => (by simp only [t, hk] at hb; cases hb), fun ha => absurd ha na, fun ha => absurd ha nf, fun ha => absurd ha na⟩ (fun hb => absurd hb nr) (fun hb => absurd hb na) ⟨List.nodup_nil, fun k ob hk => by cases hk⟩) (hh.same t na) (hrp.same t nr na) (hpn.same t na) (hpi.snoc t rfl (dd t rfl)) h
      · simp only [hk] at h
        cases hv : evOp p call e.eval o (insL base (pick ((M.get pre.length).getD 0) true pend) e.s) with
        | panic v s => simp only [hv] at h; exact absurd h.symm hx
        | defer d => simp only [hv] at h; exact absurd h.symm hx
        | recover => simp only [hv] at h; exact absurd h.symm hx
        | bad => simp only [hv] at h; exact absurd h.symm hx
        | val v s =>
          simp only [hv] at h
          let t : Tr := ⟨o, e, true, v, false, pick ((M.get pre.length).getD 0) true pend, false, none⟩
          have na : ¬ t.acts p.P := fun ha => by have := ha.2.1; simp only [t, hk] at this; cases this
          have nf : ¬ t.flo := fun ha => by have := ha.2; cases this
          have hp : evRead p.P e.eval o (insL base (pick ((M.get pre.length).getD 0) true pend) e.s) = some v := by
            unfold evOp at hv
            simp only [hk] at hv
            cases hp : evRead p.P e.eval o (insL base (pick ((M.get pre.length).getD 0) true pend) e.s) with
            | none => simp only [hp] at hv; cases hv
            | some u => simp only [hp] at hv; injection hv with h1 h2; rw [h1]
          cases hb : backOk p.P base ⟨o, e, (M.get pre.length).getD 0, v, pick ((M.get pre.length).getD 0) true pend⟩ hist with
          | false => simp only [hb, cond_false] at h; exact absurd h.symm hx
          | true =>
            simp only [hb, cond_true] at h
            exact fin t _ hist _ pend pn (hf.snoc t rfl ho ⟨fun _ => hw.symm, hfl.symm, fun hb => (by cases hb), fun _ => hok, fun _ hb => (by simp only [t, hk] at hb; cases hb), fun _ _ => ⟨hp, rfl⟩, fun ha => absurd ha na, fun ha => absurd ha nf, fun ha => absurd ha na⟩ (fun _ c u hc hu hno => hh _ hb c u hc hu hno) (fun hb => absurd hb na) (hins t rfl)) (hh.same t na) (hrp.read t _ na ⟨(hins t rfl).1, fun k ob hk => ⟨hk, ((hins t rfl).2 k ob hk).2.2⟩⟩) (hpn.same t na) (hpi.snoc t rfl (dd t rfl)) h
      · simp only [hk] at h
        cases pn with
        | some y => simp only [Option.isSome_some, cond_true] at h; exact absurd h.symm hx
        | none =>
        simp only [Option.isSome_none, cond_false] at h
        cases hv : evOp p call e.eval o (insL base (pick ((M.get pre.length).getD 0) true pend) e.s) with
        | defer d => simp only [hv] at h; exact absurd h.symm hx
        | recover => simp only [hv] at h; exact absurd h.symm hx
        | bad => simp only [hv] at h; exact absurd h.symm hx
        | panic v s =>
          simp only [hv] at h
          let t : Tr := ⟨o, e, true, undef, false, pick ((M.get pre.length).getD 0) true pend, false, some (v, s)⟩
          have nr : ¬ t.reads p.P := fun ha => by have := ha.2; simp only [t, hk] at this; cases this
          have nf : ¬ t.flo := fun ha => by have := ha.2; cases this
          cases hb : aheadOk p.P base ((M.get pre.length).getD 0) e.s (dropIns ((M.get pre.length).getD 0) reads) with
          | false => simp only [hb, cond_false] at h; exact absurd h.symm hx
          | true =>
            simp only [hb, cond_true] at h
            exact fin t _ _ _ _ _ (hf.snoc t rfl ho ⟨fun _ => hw.symm, hfl.symm, fun hb => (by cases hb), fun _ => hok, fun _ hb => (by simp only [t, hk] at hb; cases hb), fun _ hb => (by simp only [t, hk] at hb; cases hb), fun _ hb => (by cases hb), fun ha => absurd ha nf, fun _ v2 s2 hb => (by injection hb with hb; injection hb with h1 h2; subst h1; subst h2; exact ⟨hv, rfl, rfl⟩)⟩ (fun hb => absurd hb nr) (fun _ i u hi hu hno => by
                rw [put_s]
                have hq := (hrp.act t nr _ rfl).ahead hb (i := i) (t := u) (by rw [snoc_get, if_pos (get_lt hi)]; exact hi) hu hno
                rw [List.length_append] at hq
                exact hq)
              (hins t rfl)) (hh.act t ⟨rfl, hk, rfl⟩) (hrp.act t nr _ rfl) (hpn.act t _ rfl) (hpi.pan t v s ⟨rfl, hk, rfl⟩ rfl rfl) h
        | val v s =>
          simp only [hv] at h
          let t : Tr := ⟨o, e, true, v, false, pick ((M.get pre.length).getD 0) true pend, false, none⟩
          have nr : ¬ t.reads p.P := fun ha => by have := ha.2; simp only [t, hk] at this; cases this
          have nf : ¬ t.flo := fun ha => by have := ha.2; cases this
          cases hb : aheadOk p.P base ((M.get pre.length).getD 0) s (dropIns ((M.get pre.length).getD 0) reads) with
          | false => simp only [hb, cond_false] at h; exact absurd h.symm hx
          | true =>
            simp only [hb, cond_true] at h
            exact fin t _ _ _ _ none (hf.snoc t rfl ho ⟨fun _ => hw.symm, hfl.symm, fun hb => (by cases hb), fun _ => hok, fun _ hb => (by simp only [t, hk] at hb; cases hb), fun _ hb => (by simp only [t, hk] at hb; cases hb), fun _ _ => ⟨s, hv, rfl⟩, fun ha => absurd ha nf, fun _ _ _ hb => (by cases hb)⟩ (fun hb => absurd hb nr) (fun _ i u hi hu hno => by
                rw [put_s]
                have hq := (hrp.act t nr _ rfl).ahead hb (i := i) (t := u) (by rw [snoc_get, if_pos (get_lt hi)]; exact hi) hu hno
                rw [List.length_append] at hq
                exact hq)
              (hins t rfl)) (hh.act t ⟨rfl, hk, rfl⟩) (hrp.act t nr _ rfl) (hpn.act t _ rfl) (hpi.snoc t rfl (dd t rfl)) h
end
end Go.Ev

/- the heap's moves: a new block, cells read, cells written, a block that becomes another name's. -/
import Derived.Test.YtgeklgnjnjpofaaGreatDoorEvBase
set_option linter.unusedSimpArgs false
set_option linter.unusedVariables false
namespace Go.Ev
open Go Go.RowKit
def Mu.up (μ : Mu) (n : Nat) (t : Tgt) : Mu := fun m => if m = n then some t else μ m
theorem Mu.up_same (μ : Mu) (n : Nat) (t : Tgt) : μ.up n t n = some t := by simp [Mu.up]
theorem Mu.up_mono {μ : Mu} {n : Nat} {t : Tgt} (h : μ n = none) : ∀ m u, μ m = some u → μ.up n t m = some u := by
  intro m u hm
  unfold Mu.up
  by_cases e : m = n
  · subst e; rw [h] at hm; cases hm
  · rw [if_neg e, hm]
theorem Mu.up_other {μ : Mu} {n m : Nat} {t : Tgt} (h : m ≠ n) : μ.up n t m = μ m := by simp [Mu.up, h]
 noncomputable def S.new (s : S) (o : AObj) : S := { heap := s.heap.put s.next o, next := s.next + 1 }
theorem new_get (s : S) (o : AObj) (n : Nat) : (s.new o).heap.get n = if n = s.next then some o else s.heap.get n := put_get _ _ _ _
theorem WR.live {μ : Mu} {s : S} {w : World} (h : WR μ s w) {n : Nat} {o : AObj} (e : s.heap.get n = some o) : n < s.next := by
  obtain ⟨t, ht, _⟩ := h.obj n o e
  rcases Nat.lt_or_ge n s.next with h1 | h1
  · exact h1
  · rw [h.fresh n h1] at ht; cases ht
theorem OR.some {μ : Mu} {t : Tgt} {o : AObj} {x : Option Obj} (h : OR μ t o x) : ∃ y, x = some y := by
  cases o with
  | cells n c e es opn fz => obtain ⟨cs, f, a, _⟩ := h; exact ⟨_, a⟩
  | map es => obtain ⟨xs, cl, a, _⟩ := h; exact ⟨_, a⟩
theorem WR.lt {μ : Mu} {s : S} {w : World} (h : WR μ s w) {n : Nat} {o : AObj} {t : Tgt} (e : s.heap.get n = some o) (ht : μ n = some t) : t.b < w.heap.size := by
  obtain ⟨u, hu, ho⟩ := h.obj n o e
  rw [ht] at hu; injection hu with hu; subst hu
  obtain ⟨y, hy⟩ := ho.some
  rcases Nat.lt_or_ge t.b w.heap.size with h1 | h1
  · exact h1
  · rw [Array.getElem?_eq_none h1] at hy; cases hy
/-- a new block. -/
theorem WR.alloc {μ : Mu} {s : S} {w : World} (h : WR μ s w) (o : AObj) (x : Obj) (t : Tgt) (d : Nat) (hb : t.b = w.heap.size) (ho : OR (μ.up s.next t) t o (some x)) :
    WR (μ.up s.next t) (s.new o) { w with heap := w.heap.push x, drawn := d } ∧ Fr μ s w (μ.up s.next t) (s.new o) { w with heap := w.heap.push x, drawn := d } := by
  have hm : ∀ m u, μ m = some u → μ.up s.next t m = some u := Mu.up_mono (h.fresh _ (Nat.le_refl _))
  have old : ∀ b, b < w.heap.size → (w.heap.push x)[b]? = w.heap[b]? := fun b hb => by rw [Array.getElem?_push, if_neg (by omega)]
  have new : (w.heap.push x)[w.heap.size]? = some x := by simp
  refine ⟨⟨fun n hn => ?_, fun n p hp => ?_, fun n m p q u v hp hq hu hv huv => ?_⟩, rfl, rfl, rfl, ?_, hm, fun b hb' _ => old b hb', fun b hb' hi => ?_, Nat.le_succ _, fun n hn e => by rw [Mu.up_other (by omega)]; exact e, fun n p u hn _ hu => ⟨by rw [new_get, if_neg (by have := h.live hn; omega)]; exact hn, old _ (h.lt hn hu)⟩⟩
  · have hn' : s.next + 1 ≤ n := hn
    rw [Mu.up_other (by omega)]
    exact h.fresh n (by omega)
  · rw [new_get] at hp
    by_cases e : n = s.next
    · rw [if_pos e] at hp; injection hp with hp; subst hp
      refine ⟨t, by rw [e]; exact Mu.up_same _ _ _, ?_⟩
      show OR _ t o (w.heap.push x)[t.b]?
      rw [hb, new]; exact ho
    · rw [if_neg e] at hp
      obtain ⟨u, hu, hou⟩ := h.obj n p hp
      refine ⟨u, hm _ _ hu, ?_⟩
      show OR _ u p (w.heap.push x)[u.b]?
      rw [old _ (h.lt hp hu)]; exact hou.mono hm
  · rw [new_get] at hp hq
    by_cases e : n = s.next
    · by_cases e' : m = s.next
      · omega
      · rw [if_neg e'] at hq
        rw [e, Mu.up_same] at hu; injection hu with hu; subst hu
        obtain ⟨y, hy, _⟩ := h.obj m q hq
        have : v = y := by have := hm _ _ hy; rw [hv] at this; injection this
        subst this
        have := h.lt hq hy
        omega
    · rw [if_neg e] at hp
      obtain ⟨y, hy, _⟩ := h.obj n p hp
      have e1 : u = y := by have := hm _ _ hy; rw [hu] at this; injection this
      subst e1
      by_cases e' : m = s.next
      · rw [e', Mu.up_same] at hv; injection hv with hv; subst hv
        have := h.lt hp hy
        omega
      · rw [if_neg e'] at hq
        obtain ⟨z, hz, _⟩ := h.obj m q hq
        have e2 : v = z := by have := hm _ _ hz; rw [hv] at this; injection this
        subst e2
        exact h.inj n m p q _ _ hp hq hy hz huv
  · simp
  · obtain ⟨n, p, u, hp, hu, hub⟩ := hi
    rw [new_get] at hp
    by_cases e : n = s.next
    · rw [e, Mu.up_same] at hu; injection hu with hu; subst hu
      omega
    · rw [if_neg e] at hp
      rw [Mu.up_other e] at hu
      exact ⟨n, p, u, hp, hu, hub⟩
 noncomputable def S.turn (s : S) (n : Nat) (o : AObj) : S := { s with heap := s.heap.put n o }
theorem turn_get (s : S) (o : AObj) (n m : Nat) : (s.turn n o).heap.get m = if m = n then some o else s.heap.get m := put_get _ _ _ _
theorem set_other (w : World) (b c : Nat) (x : Obj) (h : b ≠ c) : (w.heap.setIfInBounds c x)[b]? = w.heap[b]? := by rw [Array.getElem?_setIfInBounds]; rw [if_neg (Ne.symm h)]
theorem set_same (w : World) (c : Nat) (x : Obj) (h : c < w.heap.size) : (w.heap.setIfInBounds c x)[c]? = some x := by rw [Array.getElem?_setIfInBounds]; simp [h]
/-- a block turned. -/
theorem WR.turn {μ : Mu} {s : S} {w : World} (h : WR μ s w) {n : Nat} {o : AObj} {t : Tgt} (hn : s.heap.get n = some o) (hz : o.fz = false) (ht : μ n = some t) (p : AObj) (x : Obj) (d : Nat) (ho : OR μ t p (some x)) :
    WR μ (s.turn n p) { w with heap := w.heap.setIfInBounds t.b x, drawn := d } ∧ Fr μ s w μ (s.turn n p) { w with heap := w.heap.setIfInBounds t.b x, drawn := d } := by
  have hlt := h.lt hn ht
  refine ⟨⟨h.fresh, fun m q hq => ?_, fun m k q r u v hq hr hu hv huv => ?_⟩, rfl, rfl, rfl, ?_, fun _ _ h => h, fun b hb hi => ?_, fun b hb hi => ?_, Nat.le_refl _, fun _ _ h => h, fun m q u hq hqz hu => by
      have hne : m ≠ n := fun e => by subst e; rw [hn] at hq; injection hq with hq; subst hq; rw [hz] at hqz; cases hqz
      exact ⟨by rw [turn_get, if_neg hne]; exact hq, set_other _ _ _ _ (fun eb => hne (h.inj m n q o u t hq hn hu ht eb))⟩⟩
  · rw [turn_get] at hq
    by_cases e : m = n
    · rw [if_pos e] at hq; injection hq with hq; subst hq
      refine ⟨t, by rw [e]; exact ht, ?_⟩
      show OR μ t p (w.heap.setIfInBounds t.b x)[t.b]?
      rw [set_same _ _ _ hlt]; exact ho
    · rw [if_neg e] at hq
      obtain ⟨u, hu, hou⟩ := h.obj m q hq
      refine ⟨u, hu, ?_⟩
      show OR μ u q (w.heap.setIfInBounds t.b x)[u.b]?
      rw [set_other _ _ _ _ (fun eb => e (h.inj m n q o u t hq hn hu ht eb))]; exact hou
  · rw [turn_get] at hq hr
    have a : ∃ q', s.heap.get m = some q' := by
      by_cases e : m = n
      · exact ⟨o, by rw [e]; exact hn⟩
      · rw [if_neg e] at hq; exact ⟨q, hq⟩
    have b : ∃ r', s.heap.get k = some r' := by
      by_cases e : k = n
      · exact ⟨o, by rw [e]; exact hn⟩
      · rw [if_neg e] at hr; exact ⟨r, hr⟩
    obtain ⟨q', hq'⟩ := a
    obtain ⟨r', hr'⟩ := b
    exact h.inj m k q' r' u v hq' hr' hu hv huv
  · simp
  · show (w.heap.setIfInBounds t.b x)[b]? = _
    exact set_other _ _ _ _ (fun e => hi ⟨n, o, t, hn, ht, e.symm⟩)
  · obtain ⟨m, q, u, hq, hu, hub⟩ := hi
    rw [turn_get] at hq
    by_cases e : m = n
    · exact ⟨n, o, u, hn, by rw [← e]; exact hu, hub⟩
    · rw [if_neg e] at hq
      exact ⟨m, q, u, hq, hu, hub⟩
/-- a name goes; a new one takes its block. -/
 noncomputable def S.move (s : S) (n : Nat) (o : AObj) : S := { heap := (s.heap.del n).put s.next o, next := s.next + 1 }
theorem move_get (s : S) (o : AObj) (n m : Nat) : (s.move n o).heap.get m = if m = s.next then some o else if m = n then none else s.heap.get m := by
  show ((s.heap.del n).put s.next o).get m = _
  rw [put_get, del_get]
theorem WR.move {μ : Mu} {s : S} {w : World} (h : WR μ s w) {n : Nat} {o : AObj} {t : Tgt} (hn : s.heap.get n = some o) (hz : o.fz = false) (ht : μ n = some t) (p : AObj) (x : Obj) (u : Tgt) (d : Nat) (hub : u.b = t.b) (ho : OR (μ.up s.next u) u p (some x)) :
    WR (μ.up s.next u) (s.move n p) { w with heap := w.heap.setIfInBounds t.b x, drawn := d } ∧ Fr μ s w (μ.up s.next u) (s.move n p) { w with heap := w.heap.setIfInBounds t.b x, drawn := d } := by
  have hlt := h.lt hn ht
  have hlv := h.live hn
  have hm : ∀ m v, μ m = some v → μ.up s.next u m = some v := Mu.up_mono (h.fresh _ (Nat.le_refl _))
  refine ⟨⟨fun m hm' => ?_, fun m q hq => ?_, fun m k q r v v' hq hr hv hv' hvv => ?_⟩, rfl, rfl, rfl, ?_, hm, fun b hb hi => ?_, fun b hb hi => ?_, Nat.le_succ _, fun m hm' e => by rw [Mu.up_other (by omega)]; exact e, fun m q v hq hqz hv => by
      have hne : m ≠ n := fun e => by subst e; rw [hn] at hq; injection hq with hq; subst hq; rw [hz] at hqz; cases hqz
      exact ⟨by rw [move_get, if_neg (by have := h.live hq; omega), if_neg hne]; exact hq, set_other _ _ _ _ (fun eb => hne (h.inj m n q o v t hq hn hv ht eb))⟩⟩
  · have : s.next + 1 ≤ m := hm'
    rw [Mu.up_other (by omega)]; exact h.fresh m (by omega)
  · rw [move_get] at hq
    by_cases e : m = s.next
    · rw [if_pos e] at hq; injection hq with hq; subst hq
      refine ⟨u, by rw [e]; exact Mu.up_same _ _ _, ?_⟩
      show OR _ u p (w.heap.setIfInBounds t.b x)[u.b]?
      rw [hub, set_same _ _ _ hlt]; exact ho
    · rw [if_neg e] at hq
      by_cases e' : m = n
      · rw [if_pos e'] at hq; cases hq
      · rw [if_neg e'] at hq
        obtain ⟨v, hv, hov⟩ := h.obj m q hq
        refine ⟨v, hm _ _ hv, ?_⟩
        show OR _ v q (w.heap.setIfInBounds t.b x)[v.b]?
        rw [set_other _ _ _ _ (fun eb => e' (h.inj m n q o v t hq hn hv ht eb))]; exact hov.mono hm
  · rw [move_get] at hq hr
    by_cases e : m = s.next
    · by_cases e' : k = s.next
      · omega
      · rw [if_neg e'] at hr
        by_cases e2 : k = n
        · rw [if_pos e2] at hr; cases hr
        · rw [if_neg e2] at hr
          rw [e, Mu.up_same] at hv; injection hv with hv; subst hv
          rw [Mu.up_other e'] at hv'
          exact absurd (h.inj k n r o v' t hr hn hv' ht (by omega)) e2
    · rw [if_neg e] at hq
      by_cases e2 : m = n
      · rw [if_pos e2] at hq; cases hq
      · rw [if_neg e2] at hq
        rw [Mu.up_other e] at hv
        by_cases e' : k = s.next
        · rw [e', Mu.up_same] at hv'; injection hv' with hv'; subst hv'
          exact absurd (h.inj m n q o v t hq hn hv ht (by omega)) e2
        · rw [if_neg e'] at hr
          by_cases e3 : k = n
          · rw [if_pos e3] at hr; cases hr
          · rw [if_neg e3] at hr
            rw [Mu.up_other e'] at hv'
            exact h.inj m k q r v v' hq hr hv hv' hvv
  · simp
  · show (w.heap.setIfInBounds t.b x)[b]? = _
    exact set_other _ _ _ _ (fun e => hi ⟨n, o, t, hn, ht, e.symm⟩)
  · obtain ⟨m, q, v, hq, hv, hvb⟩ := hi
    rw [move_get] at hq
    by_cases e : m = s.next
    · rw [e, Mu.up_same] at hv; injection hv with hv; subst hv
      exact ⟨n, o, t, hn, ht, by omega⟩
    · rw [if_neg e] at hq
      by_cases e2 : m = n
      · rw [if_pos e2] at hq; cases hq
      · rw [if_neg e2] at hq
        rw [Mu.up_other e] at hv
        exact ⟨m, q, v, hq, hv, hvb⟩
/-- a name goes, and a new one has a new block. -/
theorem WR.moveNew {μ : Mu} {s : S} {w : World} (h : WR μ s w) {n : Nat} (p : AObj) (x : Obj) (u : Tgt) (d : Nat) (hub : u.b = w.heap.size) (ho : OR (μ.up s.next u) u p (some x)) (hn : n < s.next) (hz : ∀ o, s.heap.get n = some o → o.fz = false) :
    WR (μ.up s.next u) (s.move n p) { w with heap := w.heap.push x, drawn := d } ∧ Fr μ s w (μ.up s.next u) (s.move n p) { w with heap := w.heap.push x, drawn := d } := by
  obtain ⟨a, b⟩ := h.alloc p x u d hub ho
  have sub : ∀ m q, (s.move n p).heap.get m = some q → (s.new p).heap.get m = some q := by
    intro m q hq
    rw [move_get] at hq
    rw [new_get]
    by_cases e : m = s.next
    · rw [if_pos e] at hq ⊢; exact hq
    · rw [if_neg e] at hq ⊢
      by_cases e2 : m = n
      · rw [if_pos e2] at hq; cases hq
      · rw [if_neg e2] at hq; exact hq
  exact ⟨⟨a.fresh, fun m q hq => a.obj m q (sub m q hq), fun m k q r v v' hq hr => a.inj m k q r v v' (sub m q hq) (sub k r hr)⟩, b.os, b.tape, b.output, b.size, b.mono, b.keep,
    fun c hc ⟨m, q, v, hq, hv, hvb⟩ => b.orig c hc ⟨m, q, v, sub m q hq, hv, hvb⟩, b.next, b.low, fun m q v hq hqz hv => by
      have hne : m ≠ n := fun e => by subst e; rw [hz q hq] at hqz; cases hqz
      exact ⟨by rw [move_get, if_neg (by have := h.live hq; omega), if_neg hne]; exact hq, (b.fro m q v hq hqz hv).2⟩⟩
/-- blocks that are made and not yet in the heap. -/
 noncomputable def insL (base : Nat) : List (Nat × AObj) → S → S
  | [], s => s
  | (k, o) :: r, s => insL base r (s.turn (base + k) o)
structure PD (μ : Mu) (s : S) (w : World) (b0 base : Nat) (A : Nat → AObj → Prop) : Prop where
  obj : ∀ k o, A k o → ∃ t, μ (base + k) = some t ∧ OR μ t o w.heap[t.b]? ∧ b0 ≤ t.b ∧ ¬ InR μ s t.b
  inj : ∀ k m o o' t u, A k o → A m o' → μ (base + k) = some t → μ (base + m) = some u → t.b = u.b → k = m
theorem PD.sub {μ : Mu} {s : S} {w : World} {b0 base : Nat} {A B : Nat → AObj → Prop} (h : PD μ s w b0 base A) (hs : ∀ k o, B k o → A k o) : PD μ s w b0 base B :=
  ⟨fun k o hk => h.obj k o (hs k o hk), fun k m o o' t u a b => h.inj k m o o' t u (hs k o a) (hs m o' b)⟩
theorem PD.lt {μ : Mu} {s : S} {w : World} {b0 base : Nat} {A : Nat → AObj → Prop} (h : PD μ s w b0 base A) {k : Nat} {o : AObj} {t : Tgt} (hk : A k o) (ht : μ (base + k) = some t) : t.b < w.heap.size := by
  obtain ⟨u, hu, ho, _⟩ := h.obj k o hk
  rw [ht] at hu; injection hu with hu; subst hu
  obtain ⟨y, hy⟩ := ho.some
  rcases Nat.lt_or_ge t.b w.heap.size with h1 | h1
  · exact h1
  · rw [Array.getElem?_eq_none h1] at hy; cases hy
/-- one of them comes into the heap. -/
theorem PD.ins {μ μ0 : Mu} {s s0 : S} {w w0 : World} {base : Nat} {A : Nat → AObj → Prop} (h : PD μ s w w0.heap.size base A) (hw : WR μ s w) (hf : Fr μ0 s0 w0 μ s w) {k : Nat} {o : AObj} (hk : A k o) :
    WR μ (s.turn (base + k) o) w ∧ Fr μ0 s0 w0 μ (s.turn (base + k) o) w ∧ PD μ (s.turn (base + k) o) w w0.heap.size base (fun m q => A m q ∧ m ≠ k) := by
  obtain ⟨t, ht, ho, hb0, hnl⟩ := h.obj k o hk
  refine ⟨⟨hw.fresh, fun m q hq => ?_, fun m m' q r u v hq hr hu hv huv => ?_⟩, ⟨hf.os, hf.tape, hf.output, hf.size, hf.mono, hf.keep, fun b hb hi => ?_, hf.next, hf.low, fun m q v hq hqz hv => ⟨by
      rw [turn_get, if_neg (fun e => hnl ⟨m, q, t, (hf.fro m q v hq hqz hv).1, by rw [e]; exact ht, rfl⟩)]
      exact (hf.fro m q v hq hqz hv).1, (hf.fro m q v hq hqz hv).2⟩⟩, fun m q ⟨hm, hne⟩ => ?_, fun m m' q q' t u ⟨a, _⟩ ⟨b, _⟩ => h.inj m m' q q' t u a b⟩
  · rw [turn_get] at hq
    by_cases e : m = base + k
    · rw [if_pos e] at hq; injection hq with hq; subst hq
      exact ⟨t, by rw [e]; exact ht, ho⟩
    · rw [if_neg e] at hq; exact hw.obj m q hq
  · rw [turn_get] at hq hr
    by_cases e : m = base + k
    · by_cases e' : m' = base + k
      · omega
      · rw [if_neg e'] at hr
        rw [e, ht] at hu; injection hu with hu; subst hu
        exact absurd ⟨m', r, v, hr, hv, huv.symm⟩ hnl
    · rw [if_neg e] at hq
      by_cases e' : m' = base + k
      · rw [e', ht] at hv; injection hv with hv; subst hv
        exact absurd ⟨m, q, u, hq, hu, huv⟩ hnl
      · rw [if_neg e'] at hr
        exact hw.inj m m' q r u v hq hr hu hv huv
  · obtain ⟨m, q, u, hq, hu, hub⟩ := hi
    rw [turn_get] at hq
    by_cases e : m = base + k
    · rw [e, ht] at hu; injection hu with hu; subst hu
      omega
    · rw [if_neg e] at hq
      exact hf.orig b hb ⟨m, q, u, hq, hu, hub⟩
  · obtain ⟨u, hu, hou, hbu, hnu⟩ := h.obj m q hm
    refine ⟨u, hu, hou, hbu, fun hi => ?_⟩
    obtain ⟨n, r, v, hr, hv, hvb⟩ := hi
    rw [turn_get] at hr
    by_cases e : n = base + k
    · rw [e, ht] at hv; injection hv with hv; subst hv
      exact hne (h.inj m k q o u t hm hk hu ht hvb.symm)
    · rw [if_neg e] at hr
      exact hnu ⟨n, r, v, hr, hv, hvb⟩
theorem PD.insL {μ μ0 : Mu} {s0 : S} {w w0 : World} {base : Nat} : ∀ (l : List (Nat × AObj)) {s : S} {A : Nat → AObj → Prop}, PD μ s w w0.heap.size base A → WR μ s w → Fr μ0 s0 w0 μ s w → (∀ k o, (k, o) ∈ l → A k o) → (l.map (·.1)).Nodup →
    WR μ (insL base l s) w ∧ Fr μ0 s0 w0 μ (Go.Ev.insL base l s) w ∧ PD μ (Go.Ev.insL base l s) w w0.heap.size base (fun m q => A m q ∧ m ∉ l.map (·.1))
  | [], s, A, h, hw, hf, hl, hn => ⟨hw, hf, h.sub fun m q hm => hm.1⟩
  | (k, o) :: l, s, A, h, hw, hf, hl, hn => by
    obtain ⟨h1, h2, h3⟩ := h.ins hw hf (hl k o (by simp))
    rw [List.map_cons, List.nodup_cons] at hn
    obtain ⟨a, b, c⟩ := PD.insL l h3 h1 h2 (fun m q hm => ⟨hl m q (by simp [hm]), fun e => hn.1 (by subst e; exact List.mem_map.2 ⟨(m, q), hm, rfl⟩)⟩) hn.2
    exact ⟨a, b, c.sub fun m q hm => ⟨⟨hm.1, fun e => hm.2 (by rw [e]; simp)⟩, fun e => hm.2 (by rw [List.map_cons]; exact List.mem_cons_of_mem _ e)⟩⟩
/-- what acts leaves them alone. -/
theorem PD.fr {μ μ' : Mu} {s s' : S} {w w' : World} {b0 base : Nat} {A : Nat → AObj → Prop} (h : PD μ s w b0 base A) (hf : Fr μ s w μ' s' w') : PD μ' s' w' b0 base A := by
  refine ⟨fun k o hk => ?_, fun k m o o' t u hk hm ht hu htu => ?_⟩
  · obtain ⟨t, ht, ho, hb, hn⟩ := h.obj k o hk
    have hlt := h.lt hk ht
    exact ⟨t, hf.mono _ _ ht, by rw [hf.keep t.b hlt hn]; exact ho.mono hf.mono, hb, fun hi => hn (hf.orig t.b hlt hi)⟩
  · obtain ⟨t', ht', _⟩ := h.obj k o hk
    obtain ⟨u', hu', _⟩ := h.obj m o' hm
    have e1 := hf.mono _ _ ht'
    have e2 := hf.mono _ _ hu'
    rw [ht] at e1; injection e1 with e1; subst e1
    rw [hu] at e2; injection e2 with e2; subst e2
    exact h.inj k m o o' t u hk hm ht' hu' htu
theorem up_inR {μ : Mu} {s : S} {w : World} (hw : WR μ s w) {n : Nat} {t : Tgt} (hn : μ n = none) (b : Nat) : InR (μ.up n t) s b ↔ InR μ s b := by
  constructor
  · intro ⟨m, q, u, hq, hu, hub⟩
    obtain ⟨v, hv, _⟩ := hw.obj m q hq
    have e := Mu.up_mono (t := t) hn m v hv
    rw [hu] at e; injection e with e; subst e
    exact ⟨m, q, u, hq, hv, hub⟩
  · intro ⟨m, q, u, hq, hu, hub⟩
    exact ⟨m, q, u, hq, Mu.up_mono hn m u hu, hub⟩
/-- a new one. -/
theorem PD.new {μ μ0 : Mu} {s s0 : S} {w w0 : World} {base : Nat} {A : Nat → AObj → Prop} (h : PD μ s w w0.heap.size base A) (hw : WR μ s w) (hf : Fr μ0 s0 w0 μ s w) {i : Nat} {o : AObj} {x : Obj} {t : Tgt} {d : Nat} (hi : μ (base + i) = none) (h0 : s0.next ≤ base) (hlt : base + i < s.next) (hb : t.b = w.heap.size) (ho : OR (μ.up (base + i) t) t o (some x)) :
    WR (μ.up (base + i) t) s { w with heap := w.heap.push x, drawn := d } ∧ Fr μ0 s0 w0 (μ.up (base + i) t) s { w with heap := w.heap.push x, drawn := d } ∧ PD (μ.up (base + i) t) s { w with heap := w.heap.push x, drawn := d } w0.heap.size base (fun k q => A k q ∨ (k = i ∧ q = o)) := by
  have hm : ∀ m u, μ m = some u → μ.up (base + i) t m = some u := Mu.up_mono hi
  have old : ∀ b, b < w.heap.size → (w.heap.push x)[b]? = w.heap[b]? := fun b hb => by rw [Array.getElem?_push, if_neg (by omega)]
  have new : (w.heap.push x)[w.heap.size]? = some x := by simp
  have back : ∀ m q u, s.heap.get m = some q → μ.up (base + i) t m = some u → μ m = some u := by
    intro m q u hq hu
    obtain ⟨v, hv, _⟩ := hw.obj m q hq
    have e := hm m v hv
    rw [hu] at e; injection e with e; subst e; exact hv
  have aback : ∀ m q u, A m q → μ.up (base + i) t (base + m) = some u → μ (base + m) = some u := by
    intro m q u hq hu
    obtain ⟨v, hv, _⟩ := h.obj m q hq
    have e := hm _ v hv
    rw [hu] at e; injection e with e; subst e; exact hv
  refine ⟨⟨fun n hn => ?_, fun n q hq => ?_, fun n m p q u v hp hq hu hv huv => hw.inj n m p q u v hp hq (back n p u hp hu) (back m q v hq hv) huv⟩,
    ⟨hf.os, hf.tape, hf.output, ?_, fun n u hu => hm n u (hf.mono n u hu), fun b hb1 hb2 => ?_, fun b hb1 hb2 => hf.orig b hb1 ((up_inR hw hi b).1 hb2), hf.next, fun n hn e => ?_, fun m q v hq hqz hv => ⟨(hf.fro m q v hq hqz hv).1, (old _ (hw.lt (hf.fro m q v hq hqz hv).1 (hf.mono m v hv))).trans (hf.fro m q v hq hqz hv).2⟩⟩, ⟨fun k q hk => ?_, fun k m q q' u v hk hm' hu hv huv => ?_⟩⟩
  · rw [Mu.up_other (by omega)]; exact hw.fresh n hn
  · obtain ⟨u, hu, hou⟩ := hw.obj n q hq
    refine ⟨u, hm _ _ hu, ?_⟩
    show OR _ u q (w.heap.push x)[u.b]?
    rw [old _ (hw.lt hq hu)]; exact hou.mono hm
  · have := hf.size; simp; omega
  · show (w.heap.push x)[b]? = _
    rw [old b (Nat.lt_of_lt_of_le hb1 hf.size)]; exact hf.keep b hb1 hb2
  · rw [Mu.up_other (by omega)]; exact hf.low n hn e
  · rcases hk with hk | ⟨rfl, rfl⟩
    · obtain ⟨u, hu, hou, hbu, hnu⟩ := h.obj k q hk
      refine ⟨u, hm _ _ hu, ?_, hbu, fun hin => hnu ((up_inR hw hi _).1 hin)⟩
      show OR _ u q (w.heap.push x)[u.b]?
      rw [old _ (h.lt hk hu)]; exact hou.mono hm
    · refine ⟨t, Mu.up_same _ _ _, ?_, by rw [hb]; exact hf.size, fun hin => ?_⟩
      · show OR _ t q (w.heap.push x)[t.b]?
        rw [hb, new]; exact ho
      · obtain ⟨m, r, u, hr, hu, hub⟩ := (up_inR hw hi _).1 hin
        have := hw.lt hr hu
        omega
  · rcases hk with hk | ⟨rfl, rfl⟩
    · rcases hm' with hm' | ⟨rfl, rfl⟩
      · exact h.inj k m q q' u v hk hm' (aback k q u hk hu) (aback m q' v hm' hv) huv
      · rw [Mu.up_same] at hv; injection hv with hv; subst hv
        have := h.lt hk (aback k q u hk hu)
        omega
    · rcases hm' with hm' | ⟨rfl, rfl⟩
      · rw [Mu.up_same] at hu; injection hu with hu; subst hu
        have := h.lt hm' (aback m q' v hm' hv)
        omega
      · rfl
end Go.Ev

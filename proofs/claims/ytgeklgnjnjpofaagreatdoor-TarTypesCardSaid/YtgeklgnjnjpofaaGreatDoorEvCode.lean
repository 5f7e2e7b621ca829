/- code: what the evaluator answers is what the model does. -/
import Derived.Scope
import Derived.Test.YtgeklgnjnjpofaaGreatDoorEvDraw4
set_option linter.unusedVariables false
set_option linter.unusedSimpArgs false
namespace Go.Ev
open Go Go.RowKit
section
variable {p : Par} {call : CallF} {μ : Mu} {F base : Nat}
theorem Reg.first_cut {L : List Oper} {e0 ef : Env} {tr : List Tr} {lf : List (Nat × AObj)} {pf : Option (Nat × Value × S)} (h : Reg p call F base L e0 ef tr lf pf) {D : Nat → Prop} (hD : ∀ j, ¬ D j) : ∃ c, Cut p.P tr D c ∧ (envAt tr ef c).s = e0.s := by
  have go : ∀ k m, tr.length - m = k → m ≤ tr.length → (∀ (j : Nat) (u : Tr), j < m → tr[j]? = some u → ¬ u.acts p.P) → (envAt tr ef m).s = e0.s → ∃ c, Cut p.P tr D c ∧ (envAt tr ef c).s = e0.s := by
    intro k
    induction k with
    | zero =>
      intro m hk hm hno hs
      have hme : m = tr.length := by omega
      subst hme
      refine ⟨_, ⟨Nat.le_refl _, fun j u hj hu ha => absurd ha (hno j u hj hu), fun u hu => ?_, fun j u hj hu => ?_⟩, hs⟩
      · rw [List.getElem?_eq_none (Nat.le_refl _)] at hu; cases hu
      · have := get_lt hu; omega
    | succ k ih =>
      intro m hk hm hno hs
      have hlt2 : m < tr.length := by omega
      have hmt : tr[m]? = some tr[m] := List.getElem?_eq_getElem hlt2
      by_cases ha : (tr[m]).acts p.P
      · exact ⟨m, ⟨hm, fun j u hj hu ha' => absurd ha' (hno j u hj hu), fun u hu => by rw [hmt] at hu; injection hu with hu; subst hu; exact ha, fun j u hj hu ha' hDj => hD j hDj⟩, hs⟩
      · refine ih (m + 1) (by omega) (by omega) (fun j u hj hu => ?_) ?_
        · by_cases e : j = m
          · subst e; rw [hmt] at hu; injection hu with hu; subst hu; exact ha
          · exact hno j u (by omega) hu
        · obtain ⟨s, e1, e2⟩ := h.after hmt
          rw [e1, put_s]
          show s = _
          rw [e2 ha, ← envAt_of (ef := ef) hmt]
          exact hs
  exact go tr.length 0 rfl (Nat.zero_le _) (fun j u h1 h2 => by omega) (by rw [h.facts.zero])
theorem region_ok (hm : p.P.follows .mixedOrders = true) (hc : CallOK p call) (he : ExtOK p) (id : Nat) (ops : Array Oper) (draw : Bool) {Q : Exit → Act → World → Prop} {e : Env} {a : Act} {w : World} (h : Rel p.G μ e a w) (hs : Sat p.G μ e.s w Q (evRegion p call ops draw e)) : (Code.region id ops draw).wp p.P Q a w := by
  unfold evRegion at hs
  cases draw with
  | false =>
    simp only [cond_false] at hs
    exact wp_region_list (ops_ok hc he ops ops.toList e μ a w h hs)
  | true =>
    simp only [cond_true] at hs
    generalize floats p.P ops.toList (masks ops.toList 0 .e) ops.toList 0 = F at hs
    unfold evRegD at hs
    cases hd : drawOk p.P F ops.toList with
    | false => simp only [hd, cond_false] at hs; exact hs.elim
    | true =>
    simp only [hd, cond_true] at hs
    obtain ⟨e1, he1⟩ : ∃ e1, e1 = bif Nat.beq F 0 then e else bump e ops.toList.length := ⟨_, rfl⟩
    rw [← he1] at hs
    have ht1 : e1.t = e.t ∧ e1.nt = e.nt ∧ e1.d = e.d ∧ e1.s.heap = e.s.heap ∧ e.s.next ≤ e1.s.next ∧ (F ≠ 0 → e1.s.next = e.s.next + ops.size) := by
      rw [he1]
      cases hz : Nat.beq F 0 with
      | true =>
        rw [beq_eq, decide_eq_true_eq] at hz
        exact ⟨rfl, rfl, rfl, rfl, Nat.le_refl _, fun hne => absurd hz hne⟩
      | false => exact ⟨rfl, rfl, rfl, rfl, Nat.le_add_right _ _, fun _ => by simp [bump]⟩
    obtain ⟨t1, t2, t3, t4, t5, t6⟩ := ht1
    by_cases hbad : evDraw p call F e.s.next ops.toList (masks ops.toList 0 .e) ops.toList 0 e1 [] [] [] none = .bad
    · rw [hbad] at hs; exact hs.elim
    · obtain ⟨tr, ef', lf, pf, hreg, hxe⟩ := Reg.of_ok hd rfl hbad
      rw [hxe] at hs
      have hno : ∀ j, ¬ Dn (Array.replicate ops.size false) j := by
        intro j
        unfold Dn
        rw [Array.getD_eq_getD_getElem?]
        by_cases hj : j < ops.size
        · rw [Array.getElem?_eq_getElem (by simpa using hj)]; simp
        · rw [Array.getElem?_eq_none (by simpa using hj)]; simp
      obtain ⟨c, hcut, hse⟩ := hreg.first_cut hno
      have hdr : ({ w with drawn := w.drawn + 1 } : World).heap = w.heap := rfl
      have hw1 : WR μ e1.s { w with drawn := w.drawn + 1 } := ⟨fun n hn => h.w.fresh n (by omega), fun n o hn => h.w.obj n o (by rw [← t4]; exact hn), fun n m o q t u hn hm' => h.w.inj n m o q t u (by rw [← t4]; exact hn) (by rw [← t4]; exact hm')⟩
      have hf1 : Fr μ e.s { w with drawn := w.drawn + 1 } μ e1.s { w with drawn := w.drawn + 1 } := ⟨rfl, rfl, rfl, Nat.le_refl _, fun _ _ h => h, fun _ _ _ => rfl, fun b _ ⟨n, o, t, hn, hr⟩ => ⟨n, o, t, by rw [← t4]; exact hn, hr⟩, t5, fun _ _ h => h, fun n o t hn _ _ => ⟨by rw [t4]; exact hn, rfl⟩⟩
      refine wp_region_any hm ?_
      refine any_ok hc he ops hreg (μ0 := μ) (s0 := e.s) (w0 := { w with drawn := w.drawn + 1 }) (Nat.le_refl _) (fun i o hfl hi => ?_) (Q := Q) (fun hpf μ' a' w' hr hf => by subst hpf; exact hs μ' a' w' hr ((Fr.drawn μ e.s w (w.drawn + 1)).trans hf)) (fun i v s hpf μ' a' w' v' h1 h2 h3 h4 h5 => by
        subst hpf
        have hd0 := (hreg.env tr.length (Nat.le_refl _)).2.1
        rw [envAt_end] at hd0
        exact hs μ' a' w' v' h1 (by rw [hd0]; exact h2) h3 h4 ((Fr.drawn μ e.s w (w.drawn + 1)).trans h5)) ops.size (Array.replicate ops.size false) a { w with drawn := w.drawn + 1 } μ c (by simp) ?_ (fun i o _ hD => absurd hD (hno i)) hcut ?_ (by rw [t3]; exact h.d) ?_ h.g ?_ (by rw [hse]; exact Nat.le_refl _) ⟨fun k o hk => absurd hk.1 (hno k), fun k m o o' t u hk => absurd hk.1 (hno k)⟩ (fun k t _ _ _ => h.w.fresh _ (by omega)) (fun i _ _ _ => hno i)
      · rw [t6 (by intro hz; unfold fl at hfl; rw [hz] at hfl; simp at hfl)]; omega
      · unfold cnt; simp
      · exact ⟨by rw [t2]; exact h.t.1, fun i t k _ hD => absurd hD (hno i), fun k _ => by rw [t1]; exact h.t.2 k⟩
      · rw [hse]; exact hw1
      · rw [hse]; exact hf1
/-- a loop that comes to its end. -/
theorem wp_loop_n {P : Program} {c : Code} {Q : Exit → Act → World → Prop} (J : Nat → Act → World → Prop) (h0 : ∀ a w, ¬ J 0 a w) (round : ∀ n a w, J (n + 1) a w → c.wp P (Exit.then (fun a' w' => J n a' w') Q) a w) :
    ∀ n a w, J n a w → (Code.loop c).wp P Q a w := by
  have key : ∀ n a w, J n a w → ∀ (b : Frame) (k : List Item) (cs : List Frame), ∃ e a' w', Q e a' w' ∧ Arrives P (lone (b.at a (.code c :: .inLoop c :: k)) cs w) b k cs e a' w' := by
    intro n
    induction n with
    | zero => intro a w h; exact absurd h (h0 a w)
    | succ n ih =>
      intro a w hI b k cs
      obtain ⟨e, a₁, w₁, hq, harr⟩ := round n a w hI b (.inLoop c :: k) cs
      cases e with
      | normal =>
        obtain ⟨e₂, a₂, w₂, hq₂, harr₂⟩ := ih a₁ w₁ hq b k cs
        exact ⟨e₂, a₂, w₂, hq₂, .of_steps (Steps.trans harr (.one step_inLoop)) harr₂⟩
      | exit id => exact ⟨_, a₁, w₁, hq, .pass (x := .inLoop c) rfl (fun _ _ => .inl (by simp)) harr⟩
      | goto l => exact ⟨_, a₁, w₁, hq, .pass (x := .inLoop c) rfl (fun _ _ => .inl (by simp)) harr⟩
      | ret => exact ⟨_, a₁, w₁, hq, .pass (x := .inLoop c) rfl (fun _ _ => .inl (by simp)) harr⟩
      | panic ch => exact ⟨_, a₁, w₁, hq, .pass (x := .inLoop c) rfl (fun _ _ => .inl (by simp)) harr⟩
      | outgrown => exact ⟨_, a₁, w₁, hq, .pass (x := .inLoop c) rfl (fun _ _ => .inl (by simp)) harr⟩
  intro n a w h b k cs
  obtain ⟨e, a', w', hq, harr⟩ := key n a w h b k cs
  exact ⟨e, a', w', hq, .of_steps (.one step_loop) harr⟩
theorem code_ok (hm : p.P.follows .mixedOrders = true) (hc : CallOK p call) (he : ExtOK p) (N : Nat) : ∀ (c : Code) (Q : Exit → Act → World → Prop) (e : Env) (μ : Mu) (a : Act) (w : World), Rel p.G μ e a w → Sat p.G μ e.s w Q (evCode p call N c e) → c.wp p.P Q a w := by
  intro c
  induction c with
  | skip => intro Q e μ a w h hs; exact wp_skip (hs μ a w h (.refl μ e.s w))
  | label l => intro Q e μ a w h hs; exact wp_label (hs μ a w h (.refl μ e.s w))
  | region id ops draw => intro Q e μ a w h hs; exact region_ok hm hc he id ops draw h hs
  | ret => intro Q e μ a w h hs; exact wp_ret (hs μ a w h (.refl μ e.s w))
  | exit id => intro Q e μ a w h hs; exact wp_exit (hs μ a w h (.refl μ e.s w))
  | seq x y ihx ihy =>
    intro Q e μ a w h hs
    simp only [evCode] at hs
    refine wp_seq (ihx _ e μ a w h ?_)
    cases hx : evCode p call N x e with
    | norm e1 =>
      simp only [hx] at hs
      intro μ' a' w' hr hf
      exact ihy Q e1 μ' a' w' hr (hs.from hf)
    | ret e1 => simp only [hx] at hs; exact hs
    | exit i e1 => simp only [hx] at hs; exact hs
    | panic v e1 => simp only [hx] at hs; exact hs
    | panicD v s1 d1 => simp only [hx] at hs; exact hs
    | bad => simp only [hx] at hs; exact hs.elim
  | cond c x y ihx ihy =>
    intro Q e μ a w h hs
    simp only [evCode] at hs
    cases hok : opOk p.G c with
    | false => simp only [hok, cond_false] at hs; exact hs.elim
    | true =>
      simp only [hok, cond_true] at hs
      have hv := h.eval hok
      split at hs
      · rename_i hb
        rw [hb] at hv
        exact wp_cond_true (bool_inv hv) (ihx Q e μ a w h hs)
      · rename_i hb
        rw [hb] at hv
        exact wp_cond_false (bool_inv hv) (ihy Q e μ a w h hs)
      · exact hs.elim
  | block id x ih =>
    intro Q e μ a w h hs
    simp only [evCode] at hs
    refine wp_block (ih _ e μ a w h ?_)
    cases hx : evCode p call N x e with
    | norm e1 => simp only [hx] at hs; exact hs
    | ret e1 => simp only [hx] at hs; exact hs
    | panic v e1 => simp only [hx] at hs; exact hs
    | panicD v s1 d1 => simp only [hx] at hs; exact hs
    | bad => simp only [hx] at hs; exact hs.elim
    | exit i e1 =>
      simp only [hx, beq_eq] at hs
      intro μ' a' w' hr hf
      show if i = id then Q .normal a' w' else Q (.exit i) a' w'
      by_cases hi : i = id
      · rw [if_pos hi]
        simp only [hi, decide_true, cond_true] at hs
        exact hs μ' a' w' hr hf
      · rw [if_neg hi]
        simp only [hi, decide_false, cond_false] at hs
        exact hs μ' a' w' hr hf
  | scope x ih =>
    intro Q e μ a w h hs
    simp only [evCode] at hs
    refine wp_scope_straight (ih _ e μ a w h ?_)
    cases hx : evCode p call N x e <;> simp only [hx] at hs <;> exact hs
  | loop x ih =>
    intro Q e μ a w h hs
    simp only [evCode] at hs
    refine wp_loop_n (fun n a' w' => ∃ e' μ', Rel p.G μ' e' a' w' ∧ Sat p.G μ' e'.s w' Q (iter n (evCode p call N x) e')) ?_ ?_ N a w ⟨e, μ, h, hs⟩
    · rintro a' w' ⟨e', μ', _, hs'⟩
      exact hs'
    · rintro n a' w' ⟨e', μ', hr, hs'⟩
      simp only [iter] at hs'
      refine ih _ e' μ' a' w' hr ?_
      cases hx : evCode p call N x e' with
      | norm e1 =>
        simp only [hx] at hs'
        intro μ2 a2 w2 hr2 hf2
        exact ⟨e1, μ2, hr2, hs'.from hf2⟩
      | ret e1 => simp only [hx] at hs'; exact hs'
      | exit i e1 => simp only [hx] at hs'; exact hs'
      | panic v e1 => simp only [hx] at hs'; exact hs'
      | panicD v s1 d1 => simp only [hx] at hs'; exact hs'
      | bad => simp only [hx] at hs'; exact hs'.elim
  | _ => intro Q e μ a w h hs; exact hs.elim
end
end Go.Ev

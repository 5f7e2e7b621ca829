/- append(s, x..): what s reads as, it reads as behind it, too (a row of doubles that are known up to NaNs' bits). -/
import Derived.Test.YtfmfikodnpnblaaDoorRateNanS
import Derived.Maps.AppendAt
set_option linter.unusedVariables false
namespace Go.Proofs.YtfmfikodnpnblaaDoor.AppendKeep
open Go.RowKit Go.Proofs Go.Proofs.YtfmfikodnpnblaaDoorW.PrintWords Go.Proofs.YtfmfikodnpnblaaDoor.RateNanS
theorem run_append_keep {P : Program} {w : World} (base : Nat) (t ty e : TypeId) (i : TypeInfo) (z : Value) (size bytes : Nat) (ht : P.underlying t = some (.slice e)) (hi : P.info? e = some i) (hz : i.zero = some z)
    (hsize : i.size = size) (hby : i.bytes = bytes) (hzs : z.cells.size = size) (hsz : 0 < size)
    (v : Value) (n : Nat) (xs : List Value) (hown : w.ownsRow base e size v n xs)
    (a : Addr) (m c : Nat) (news : List Value) (hl : news.length = m * size) (hnews : ∀ j u, news[j]? = some u → w.cell? (a.add j) = some u) (h1 : ∀ u ∈ news, u.oneCell' = true)
    (h63 : n + m ≤ maxLen) (hbytes : (n + m) * bytes ≤ 140737488355328) (hbase : base ≤ w.heap.size) {v' : Value} {w' : World}
    (hrun : (Builtin.append_ #[t, t] ty #[v, .slice (some a) m c]).run P w = .ok v' w') (hown' : w'.ownsRow base e size v' (n + m) (xs ++ news)) :
    ∀ g, v.ownBlock = some g → ∀ j u, xs[j]? = some u → w'.cell? ((⟨g, 0, none⟩ : Addr).add j) = some u := by
  subst hsize
  subst hby
  have hsmall : n + m ≤ 9223372036854775807 := by simp only [maxLen] at h63; omega
  intro g0 hg0 j u hu
  rcases hown.2 with ⟨rfl, rfl⟩ | ⟨g, cap, cur, rfl, hbg, hg, hnc, hcm, hcs, htake⟩
  · simp [Value.ownBlock] at hg0
  · have hgg : g = g0 := by simpa [Value.ownBlock] using hg0
    subst hgg
    by_cases hroom : n + m ≤ cap
    · have hfit : n * i.size + news.length ≤ cur.size := by rw [hl, hcs, ← Nat.add_mul]; exact Nat.mul_le_mul_right _ hroom
      have hr := run_append_room (P := P) w t ty e i ht hi g n cap cur hg a m c news hl hnews h1 hroom hfit
      rw [hr] at hrun
      injection hrun with e1 e2
      subst e1
      have hlt : j < xs.length := (List.getElem?_eq_some_iff.1 hu).1
      exact hown'.cells (g := g) rfl j u (by rw [List.getElem?_append_left hlt]; exact hu)
    · have holds : ∀ j u, xs[j]? = some u → w.cell? ((⟨g, 0, none⟩ : Addr).add j) = some u := hown.cells (g := g) rfl
      have hr := run_append_grow (P := P) w t ty e i z ht hi hz ⟨g, 0, none⟩ n cap xs hown.1 holds a m c news hl hnews (by omega) (by omega) (growslice_fits (by omega) hbytes)
      rw [hr] at hrun
      injection hrun with e1 e2
      subst e2
      have hc := holds j u hu
      have hgl : g < w.heap.size := by
        rcases Nat.lt_or_ge g w.heap.size with h | h
        · exact h
        · rw [Array.getElem?_eq_none h] at hg; cases hg
      refine (World.cell?_alloc_lt w.drew _ _ ?_).trans hc
      unfold Addr.add
      split <;> exact hgl
section
variable {P : Program} {ops : Array Oper} {rest : List Oper} {o : Oper} {a : Act} {Q : Exit → Act → World → Prop}
theorem R_append_keep {w0 W : World} (base : Nat) (hgd : o.guard = none) (s x : Operand) (t e : TypeId) (z : Value) (bytes : Nat)
    (ho : o.op = .call { callee := .builtin .append, args := #[s, x], argTypes := #[t, t] })
    (ht : P.underlying t = some (.slice e)) (hinfo : (P.info? e).map (fun i => (i.zero, i.size, i.bytes)) = some (some z, 1, bytes)) (hz : z.cells.size = 1) (hb0 : 0 < bytes)
    (A0 : Option Addr) (c0 : Nat) (xs ys : List Nat) (A : Option Addr) (m c : Nat) (ok okp : Nat → Prop) (hs : a.eval s = .slice A0 xs.length c0) (hx : a.eval x = .slice A m c)
    (HO : Kd.R floatS e W base ok (.slice A0 xs.length c0) xs) (HR : Kd.C floatS W A m ys) (hokp : ∀ k, okp k → ok k ∧ some k ≠ (Value.slice A0 xs.length c0).ownBlock) (hfresh : ∀ k, W.heap.size ≤ k → ok k)
    (HB : Below base w0 W) (hbase : base ≤ W.heap.size) (hl : (xs.length + m) * bytes ≤ 140737488355328)
    (h : ∀ v1 w1, Kd.R floatS e w1 base ok v1 (xs ++ ys) → Below base w0 w1 → W.grownBy w1 (Value.slice A0 xs.length c0).ownBlock → (v1.ownBlock = (Value.slice A0 xs.length c0).ownBlock ∨ ∃ b, v1.ownBlock = some b ∧ W.heap.size ≤ b) → Kd.C floatS w1 A0 xs.length xs → wpList P ops Q rest (a.put o.dst v1) w1) :
    wpList P ops Q (o :: rest) a W := by
  obtain ⟨i0, hi, hzz⟩ := Option.map_eq_some_iff.1 hinfo
  simp only [Prod.mk.injEq] at hzz
  obtain ⟨hz0, hz1, hz2⟩ := hzz
  have hm : ys.length = m := HR.1
  have hlen : xs.length + m ≤ 140737488355328 := Nat.le_trans (Nat.le_mul_of_pos_right _ hb0) hl
  have hC0 := (Kd.R_reads' HO).2.2
  have hrow : ∀ (w1 : World), (∀ ad, A0 = some ad → ∀ j, j < xs.length → w1.cell? (ad.add j) = W.cell? (ad.add j)) → Kd.C floatS w1 A0 xs.length xs := fun w1 hsame => by
    obtain ⟨g1, g2, g3⟩ := hC0
    refine ⟨g1, g2, fun h0 => ?_⟩
    obtain ⟨ad, e1, hc⟩ := g3 h0
    refine ⟨ad, e1, fun j p hj => ?_⟩
    obtain ⟨cs, k1, k2, k3⟩ := hc j p hj
    refine ⟨cs, k1, k2, fun i u hu => ?_⟩
    have hi0 : i = 0 := by
      have := (List.getElem?_eq_some_iff.1 hu).1
      have h1 : cs.length = 1 := k1
      omega
    subst hi0
    have h2 := k3 0 u hu
    rw [show j * floatS.sz + 0 = j from Nat.mul_one j] at h2 ⊢
    rw [hsame ad e1 j (List.getElem?_eq_some_iff.1 hj).1, h2]
  obtain ⟨hok, inner, hown, hr⟩ := HO
  have hrun : ∃ v1 w1, (Builtin.append_ #[t, t] o.type #[.slice A0 xs.length c0, .slice A m c]).run P W = .ok v1 w1 ∧ Kd.R floatS e w1 base ok v1 (xs ++ ys) ∧ W.grownBy w1 (Value.slice A0 xs.length c0).ownBlock ∧ (v1.ownBlock = (Value.slice A0 xs.length c0).ownBlock ∨ ∃ b, v1.ownBlock = some b ∧ W.heap.size ≤ b) ∧ Kd.C floatS w1 A0 xs.length xs := by
    rcases A with _ | ad
    · have h0 : m = 0 := by
        rcases Nat.eq_zero_or_pos m with h0 | h0
        · exact h0
        · obtain ⟨ad, h, _⟩ := HR.2.2 h0
          cases h
      subst h0
      obtain rfl : ys = [] := List.eq_nil_of_length_eq_zero hm
      refine ⟨.slice A0 xs.length c0, W, ?_, by rw [List.append_nil]; exact ⟨hok, inner, hown, hr⟩, World.grownBy.refl W _, .inl rfl, hC0⟩
      rcases hown.2 with ⟨hv, hn⟩ | ⟨g, cap, cur, hv, _, _, hnc, _⟩
      · rw [hv]; simp [Builtin.append_, run_underlying ht, sizeOf, typeInfo, hi, Builtin.lenOf, Builtin.firstCells]
      · rw [hv]; simp [Builtin.append_, run_underlying ht, sizeOf, typeInfo, hi, Builtin.lenOf, Builtin.firstCells, hnc, storeCells]
    · obtain ⟨news, hnr, hnc⟩ := ReadsRow.inner_ HR
      have hnl : news.length = ys.length := by have := hnr.1; rw [this]; exact Nat.mul_one _
      have hone : ∀ u ∈ news, u.oneCell' = true := by
        intro u hu
        obtain ⟨q, hq, rfl⟩ := List.mem_iff_getElem.1 hu
        have hc := hnr.2 q _ (List.getElem?_eq_getElem (by omega : q < ys.length))
        obtain ⟨b, hb, _⟩ := hc
        have h1 : news[q]? = some (.float .f64 b) := by
          have := congrArg (fun l : List Value => l[0]?) hb
          simp only [List.getElem?_take, List.getElem?_drop] at this
          rw [show q * floatS.sz + 0 = q from Nat.mul_one q] at this
          exact (show 0 < floatS.sz ∧ news[q]? = some (Value.float .f64 b) by simpa using this).2
        rw [List.getElem?_eq_getElem hq] at h1
        injection h1 with h1
        rw [h1]; rfl
      obtain ⟨v1, w1, hrun, h2, hg, _, hat⟩ := run_append_own_at (P := P) W base t o.type e i0 z 1 bytes ht hi hz0 hz1 hz2 hz (by decide) (.slice A0 xs.length c0) xs.length inner hown ad m c news (by omega) hnc hone (by simp only [maxLen]; omega) hl hbase
      have hkeep := run_append_keep (P := P) base t o.type e i0 z 1 bytes ht hi hz0 hz1 hz2 hz (by decide) (.slice A0 xs.length c0) xs.length inner hown ad m c news (by omega) hnc hone (by simp only [maxLen]; omega) hl hbase hrun h2
      have hat' : v1.ownBlock = (Value.slice A0 xs.length c0).ownBlock ∨ ∃ b, v1.ownBlock = some b ∧ W.heap.size ≤ b := by
        rcases hat with hat | hat
        · exact .inl hat
        · exact .inr ⟨_, hat, Nat.le_refl _⟩
      refine ⟨v1, w1, hrun, ⟨fun k hk => ?_, inner ++ news, by rw [List.length_append, hm]; exact h2, Kd.reps_append (hr.imp_ (fun _ _ hq => hq)) (hnr.imp_ (fun _ _ hq => hq))⟩, hg, hat', hrow w1 (fun a0 ha j hj => ?_)⟩
      · rcases hat' with hat | ⟨b, hb, hle⟩
        · exact hok k (hat ▸ hk)
        · rw [hb] at hk
          injection hk with hk
          exact hfresh k (by omega)
      · rcases hown.2 with ⟨hv, hn⟩ | ⟨g, cap, cur, hv, _, _, _, _⟩
        · exfalso; omega
        · injection hv with e1 e2 e3
          have hil : j < inner.length := by have h : inner.length = xs.length * 1 := hown.1; omega
          have c1 := hkeep g (by rw [e1]; simp [Value.ownBlock]) j inner[j] (List.getElem?_eq_getElem hil)
          have c2 := hown.cells (g := g) (by rw [e1]; simp [Value.ownBlock]) j inner[j] (List.getElem?_eq_getElem hil)
          rw [e1] at ha
          injection ha with ha
          subst ha
          rw [c1, c2]
  obtain ⟨v1, w1, hr1, h1, hg, hat, hk⟩ := hrun
  refine wpList_plain hgd fun K hK => ?_
  unfold Oper.wp execOp
  simp only [ho, resolve, invoke, builtin, Sem.run_bind, Sem.run_pure, Result.andThen_ok, List.map_toArray, List.map_cons, List.map_nil, hs, hx, hr1]
  exact hK _ _ (h v1 w1 h1 (HB.grown hg hbase (own_base hown)) hg hat hk)
end
end Go.Proofs.YtfmfikodnpnblaaDoor.AppendKeep

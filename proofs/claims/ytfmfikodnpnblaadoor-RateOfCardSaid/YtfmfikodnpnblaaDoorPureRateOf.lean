/- Of: the program's and the document's come to the same five numbers, but for a NaN's bits. No program here. -/
import Derived.Test.YtfmfikodnpnblaaDoorRateEq
import Derived.Test.YtfmfikodnpnblaaDoorGreatEq
set_option linter.unusedVariables false
namespace Go.Proofs.YtfmfikodnpnblaaDoor.PureRateOf
open Go.RowKit Go.Proofs.YtfmfikodnpnblaaDoorW.PrintWords Go.Proofs.YtfmfikodnpnblaaDoorW.PrintLast Go.Proofs.YtfmfikodnpnblaaDoorW.PrintMore Go.Proofs.YtfmfikodnpnblaaDoor.Base Go.Proofs.YtfmfikodnpnblaaDoor.Flt Go.Proofs.YtfmfikodnpnblaaDoor.FltOk Go.Proofs.YtfmfikodnpnblaaDoor.RateNan Go.Proofs.YtfmfikodnpnblaaDoor.RateEq Go.Proofs.YtfmfikodnpnblaaDoor.GreatEq
open PRateOf1 (S73 z73 rd_T73 rate_Of.l0 rate_Of.l1 rate_Of.f stevedoreref35_Of.l0 stevedoreref35_Of.l1 stevedoreref35_Of.f)
/-- how often each byte is there. -/
def cnts (d c : List Int) : List Int := d.foldl (fun c b => c.set b.toNat (wrap64 (rd c b + 1))) c
def Bytes (d : List Int) : Prop := ∀ b ∈ d, 0 ≤ b ∧ b < 256
theorem cnts_length (d : List Int) : ∀ c, (cnts d c).length = c.length := by
  induction d with
  | nil => intro c; rfl
  | cons b d ih => intro c; exact (ih _).trans (List.length_set ..)
theorem of_l1 (D : List Int) (hD : Bytes D) (hl : D.length ≤ 1000) (x1 x5 x14 x15 : Int) (x6 : List Nat) (x13 : List S73) (k : Nat) (d : Nat) : ∀ (i : Nat) (c : List Int), i + d = D.length → c.length = 256 →
    rate_Of.l1 (d + 1 + k) x1 x5 x6 c x13 x14 x15 D (D.length : Int) i = rate_Of.l0 k x1 x5 x6 (cnts (D.drop i) c) x13 x14 (wrap64 (x15 + 1)) := by
  induction d with
  | zero =>
    intro i c hi hc
    rw [show 0 + 1 + k = k + 1 by omega, rate_Of.l1, if_neg (by omega), List.drop_of_length_le (by omega)]
    rfl
  | succ d ih =>
    intro i c hi hc
    have hlt : i < D.length := by omega
    have hb := hD D[i] (List.getElem_mem hlt)
    rw [show d + 1 + 1 + k = (d + 1 + k) + 1 by omega, rate_Of.l1, if_pos (by omega), if_pos (by omega), if_pos (by omega), RateEq.rd_at hlt, if_pos hb.1, if_pos (by rw [hc]; exact hb.2), wrap_1 hlt (by omega), ih (i + 1) _ (by omega) (by rw [List.length_set]; exact hc), drop_ati hlt]
    rfl
theorem rof_l1 (L : List S73) (j : Nat) (hj : j < L.length) (hD : Bytes L[j].f7) (hl : L[j].f7.length ≤ 1000) (x1 x5 : Int) (x7 : List Nat) (k : Nat) (d : Nat) : ∀ (i : Nat) (c : List Int), i + d = L[j].f7.length → c.length = 256 →
    stevedoreref35_Of.l1 (d + 1 + k) L x1 x5 c x7 j i = stevedoreref35_Of.l0 k L x1 x5 (cnts (L[j].f7.drop i) c) x7 (wrap64 ((j : Int) + 1)) := by
  induction d with
  | zero =>
    intro i c hi hc
    rw [show 0 + 1 + k = k + 1 by omega, stevedoreref35_Of.l1, if_pos (by omega), if_pos (by omega), GreatEq.rd_at hj, if_neg (by omega), List.drop_of_length_le (by omega)]
    rfl
  | succ d ih =>
    intro i c hi hc
    have hlt : i < L[j].f7.length := by omega
    have hb := hD L[j].f7[i] (List.getElem_mem hlt)
    rw [show d + 1 + 1 + k = (d + 1 + k) + 1 by omega, stevedoreref35_Of.l1, if_pos (by omega), if_pos (by omega), GreatEq.rd_at hj, if_pos (by omega), if_pos (by omega), RateEq.rd_at hlt, if_pos hb.1, if_pos (by rw [hc]; exact hb.2), wrap_1 hlt (by omega), ih (i + 1) _ (by omega) (by rw [List.length_set]; exact hc), drop_ati hlt]
    rfl
def step (s : Int × List Nat × List Int) (e : S73) : Int × List Nat × List Int := (wrap64 (s.1 + (e.f7.length : Int)), s.2.1 ++ [e.f5], cnts e.f7 s.2.2)
def all (l : List S73) (s : Int × List Nat × List Int) : Int × List Nat × List Int := l.foldl step s
def wt (l : List S73) : Nat := (l.map fun e => e.f7.length + 2).sum
theorem dropE {l : List S73} {i : Nat} (h : i < l.length) : l.drop i = l[i] :: l.drop (i + 1) := List.drop_eq_getElem_cons h
theorem of_l0 (l : List S73) (hl : Few l) (hb : ∀ e ∈ l, Bytes e.f7) (a : Int) (k : Nat) (d : Nat) : ∀ (i : Nat) (n : Int) (t : List Nat) (c : List Int), i + d = l.length → c.length = 256 → t.length ≤ i →
    rate_Of.l0 (wt (l.drop i) + k) a n t c l (l.length : Int) i = rate_Of.l0 k a (all (l.drop i) (n, t, c)).1 (all (l.drop i) (n, t, c)).2.1 (all (l.drop i) (n, t, c)).2.2 l (l.length : Int) (l.length : Int) := by
  induction d with
  | zero =>
    intro i n t c hi hc ht
    rw [List.drop_of_length_le (by omega), show (i : Int) = (l.length : Int) by omega]
    show rate_Of.l0 (0 + k) _ _ _ _ _ _ _ = _
    rw [Nat.zero_add]
    rfl
  | succ d ih =>
    intro i n t c hi hc ht
    have hlt : i < l.length := by omega
    have hm := List.getElem_mem hlt
    have hw : wt (l.drop i) = l[i].f7.length + 2 + wt (l.drop (i + 1)) := by rw [dropE hlt]; rfl
    have h12 := hl.1
    rw [hw, show l[i].f7.length + 2 + wt (l.drop (i + 1)) + k = (l[i].f7.length + 1 + (wt (l.drop (i + 1)) + k)) + 1 by omega, rate_Of.l0, if_pos (by omega), if_pos (by omega), if_pos (by omega), if_pos (by omega), GreatEq.rd_at hlt]
    have h := of_l1 l[i].f7 (hb _ hm) (hl.2 _ hm).2.2 a (wrap64 (n + (l[i].f7.length : Int))) (l.length : Int) (i : Int) (t ++ [l[i].f5]) l (wt (l.drop (i + 1)) + k) l[i].f7.length 0 c (by omega) hc
    rw [List.drop_zero] at h
    refine h.trans ?_
    rw [show wrap64 ((i : Int) + 1) = ((i + 1 : Nat) : Int) by unfold wrap64; omega, ih (i + 1) _ _ _ (by omega) ((cnts_length _ _).trans hc) (by rw [List.length_append]; show t.length + 1 ≤ i + 1; omega), dropE hlt]
    rfl
theorem rof_l0 (l : List S73) (hl : Few l) (hb : ∀ e ∈ l, Bytes e.f7) (a : Int) (k : Nat) (d : Nat) : ∀ (i : Nat) (n : Int) (t : List Nat) (c : List Int), i + d = l.length → c.length = 256 → t.length ≤ i →
    stevedoreref35_Of.l0 (wt (l.drop i) + k) l a n c t i = stevedoreref35_Of.l0 k l a (all (l.drop i) (n, t, c)).1 (all (l.drop i) (n, t, c)).2.2 (all (l.drop i) (n, t, c)).2.1 (l.length : Int) := by
  induction d with
  | zero =>
    intro i n t c hi hc ht
    rw [List.drop_of_length_le (by omega), show (i : Int) = (l.length : Int) by omega]
    show stevedoreref35_Of.l0 (0 + k) _ _ _ _ _ _ = _
    rw [Nat.zero_add]
    rfl
  | succ d ih =>
    intro i n t c hi hc ht
    have hlt : i < l.length := by omega
    have hm := List.getElem_mem hlt
    have hw : wt (l.drop i) = l[i].f7.length + 2 + wt (l.drop (i + 1)) := by rw [dropE hlt]; rfl
    have h12 := hl.1
    rw [hw, show l[i].f7.length + 2 + wt (l.drop (i + 1)) + k = (l[i].f7.length + 1 + (wt (l.drop (i + 1)) + k)) + 1 by omega, stevedoreref35_Of.l0, if_pos (by omega), if_pos (by omega), if_pos (by omega), GreatEq.rd_at hlt]
    have h := rof_l1 l i hlt (hb _ hm) (hl.2 _ hm).2.2 a (wrap64 (n + (l[i].f7.length : Int))) (t ++ [l[i].f5]) (wt (l.drop (i + 1)) + k) l[i].f7.length 0 c (by omega) hc
    rw [List.drop_zero] at h
    refine h.trans ?_
    rw [show wrap64 ((i : Int) + 1) = ((i + 1 : Nat) : Int) by unfold wrap64; omega, ih (i + 1) _ _ _ (by omega) ((cnts_length _ _).trans hc) (by rw [List.length_append]; show t.length + 1 ≤ i + 1; omega), dropE hlt]
    rfl
theorem all_facts (l : List S73) : ∀ s : Int × List Nat × List Int, (all l s).2.1.length = s.2.1.length + l.length ∧ (all l s).2.2.length = s.2.2.length := by
  induction l with
  | nil => intro s; exact ⟨rfl, rfl⟩
  | cons e l ih =>
    intro s
    obtain ⟨h1, h2⟩ := ih (step s e)
    refine ⟨?_, h2.trans (cnts_length _ _)⟩
    show (all l (step s e)).2.1.length = _
    rw [h1]
    show (s.2.1 ++ [e.f5]).length + l.length = s.2.1.length + (l.length + 1)
    rw [List.length_append]
    show s.2.1.length + 1 + l.length = _
    omega
def sv (n a : Int) : Nat := if fvalid .sub 4607182418800017408 (ratio a n) = true then fop .sub 4607182418800017408 (ratio a n) else qnan
def five (a : Int) (s : Int × List Nat × List Int) : Nat × Nat × Nat × Nat × Nat := (ratio s.1 a, sv s.1 a, meanF s.2.1, spreadF s.2.1, bitsF s.2.2)
theorem of_f (l : List S73) (hl : Few l) (hb : ∀ e ∈ l, Bytes e.f7) (a : Int) (k : Nat) : rate_Of.f (wt l + (k + 5001)) l a = some (five a (all l (0, [], List.replicate 256 0))) := by
  have h12 := hl.1
  obtain ⟨f1, f2⟩ := all_facts l (0, [], List.replicate 256 0)
  unfold rate_Of.f
  rw [if_pos (by omega)]
  have h := of_l0 l hl hb a (k + 5001) l.length 0 0 [] (List.replicate 256 0) (by omega) (by rw [List.length_replicate]) (by simp)
  rw [List.drop_zero] at h
  refine h.trans ?_
  generalize all l (0, [], List.replicate 256 0) = s at f1 f2 ⊢
  have ht : s.2.1.length ≤ 12 := by rw [f1]; show 0 + l.length ≤ 12; omega
  have hc : s.2.2.length = 256 := f2.trans List.length_replicate
  rw [rate_Of.l0, if_neg (by omega)]
  show Option.bind (some (ratio s.1 a)) _ = _
  rw [Option.bind_some]
  show Option.bind (some (ratio a s.1)) _ = _
  rw [Option.bind_some, mean_f _ (by omega) _ (by omega), spread_f _ (by omega) _ (by omega), bits_f _ (by omega) _ (by omega)]
  unfold five sv
  split <;> rfl
theorem rof_f (l : List S73) (hl : Few l) (hb : ∀ e ∈ l, Bytes e.f7) (a : Int) (k : Nat) : stevedoreref35_Of.f (wt l + (k + 5001)) l a = some (five a (all l (0, [], List.replicate 256 0))) := by
  have h12 := hl.1
  obtain ⟨f1, f2⟩ := all_facts l (0, [], List.replicate 256 0)
  unfold stevedoreref35_Of.f
  rw [if_pos (by omega)]
  have h := rof_l0 l hl hb a (k + 5001) l.length 0 0 [] (List.replicate 256 0) (by omega) (by rw [List.length_replicate]) (by simp)
  rw [List.drop_zero] at h
  refine h.trans ?_
  generalize all l (0, [], List.replicate 256 0) = s at f1 f2 ⊢
  have ht : s.2.1.length ≤ 12 := by rw [f1]; show 0 + l.length ≤ 12; omega
  have hc : s.2.2.length = 256 := f2.trans List.length_replicate
  rw [stevedoreref35_Of.l0, if_neg (by omega)]
  show Option.bind (some (ratio s.1 a)) _ = _
  rw [Option.bind_some]
  show Option.bind (some (ratio a s.1)) _ = _
  rw [Option.bind_some, rmean_f _ (by omega) _ (by omega), rspread_f _ (by omega) _ (by omega), rbits_f _ (by omega) _ (by omega)]
  unfold five sv
  split <;> rfl
/-- two numbers that are one number but for a NaN's bits are the same. -/
theorem sign_ok {b : Nat} (h : Ok_ b) : ∃ s, PRateOf1.stevedoreref35_sign.f b = some s := by
  unfold PRateOf1.stevedoreref35_sign.f
  split
  · exact ⟨_, rfl⟩
  · split
    · split
      · exact ⟨_, rfl⟩
      · rename_i h1 h2 h3
        exfalso
        refine h3 ?_
        have key0 : key 0 = some 0 := by decide +kernel
        rcases h with ⟨s, m, i, e⟩ | ⟨s, e⟩
        · show (Ieee.Format.div Ieee.double 4607182418800017408 b).isSome = true
          have e1 : Ieee.double.read 4607182418800017408 = .number false 4503599627370496 (-52) := by decide +kernel
          unfold Ieee.Format.div
          rw [e1, e]
          show (Option.map Ieee.double.write (if m = 0 then if (4503599627370496 : Nat) = 0 then none else some _ else some _)).isSome = true
          split
          · rw [if_neg (by decide)]; rfl
          · rfl
        · show (Ieee.Format.div Ieee.double 4607182418800017408 b).isSome = true
          have e1 : Ieee.double.read 4607182418800017408 = .number false 4503599627370496 (-52) := by decide +kernel
          unfold Ieee.Format.div
          rw [e1, e]
          rfl
    · exact ⟨_, rfl⟩
theorem same_sm {a b r : Nat} (ha : Sm a r) (hb : Sm b r) : PRateOf1.stevedoreref35_SameFloat.f a b = some true := by
  have nan : ∀ {a b : Nat}, key a = none → key b = none → PRateOf1.stevedoreref35_SameFloat.f a b = some true := fun {a b} h1 h2 => by
    have o1 : FloatKind.f64.format.order a a = none := order_nan (.inl h1)
    have o2 : FloatKind.f64.format.order b b = none := order_nan (.inl h2)
    unfold PRateOf1.stevedoreref35_SameFloat.f
    rw [o1, o2]
    rfl
  have one : ∀ b : Nat, PRateOf1.stevedoreref35_SameFloat.f b b = some true := fun b => by
    cases hk : key b with
    | none => exact nan hk hk
    | some x =>
      have o1 : FloatKind.f64.format.order b b = some .eq := by
        show Ieee.double.order b b = _
        rw [order_key hk hk, cmp_eq rfl]
      have hok : Ok_ b := by
        unfold key at hk
        rcases read_cases b with ⟨s, t, e⟩ | ⟨s, e⟩ | ⟨s, m, i, e, _⟩
        · rw [e] at hk; cases hk
        · exact .inr ⟨s, e⟩
        · exact .inl ⟨s, m, i, e⟩
      obtain ⟨s, hs⟩ := sign_ok hok
      unfold PRateOf1.stevedoreref35_SameFloat.f
      rw [o1, hs]
      simp
  rcases ha with rfl | ⟨ha, hr⟩
  · rcases hb with rfl | ⟨hb, hr⟩
    · exact one _
    · exact nan hr hb
  · rcases hb with rfl | ⟨hb, _⟩
    · exact nan ha hr
    · exact nan ha hb
end Go.Proofs.YtfmfikodnpnblaaDoor.PureRateOf

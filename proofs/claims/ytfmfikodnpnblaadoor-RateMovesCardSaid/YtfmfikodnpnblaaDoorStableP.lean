/- Insertion of elements that come in the order of their places: as with the places' order. No program here. -/
import Derived.Test.YtfmfikodnpnblaaDoorSymMerge
set_option linter.unusedVariables false
set_option linter.unusedSectionVars false
namespace Go.Proofs.YtfmfikodnpnblaaDoor.StableP
open Go.Sort Go.Proofs.YtfmfikodnpnblaaDoor.SymMerge
variable {α : Type} [Inhabited α] {lt : α → α → Bool} {ix : α → Nat}
theorem insInner_perm (a : Nat) : ∀ (j : Nat) (d : Array α), a ≤ j → j < d.size → PermIn a (j + 1) d (insInner lt a j d) := by
  intro j
  induction j with
  | zero => intro d h1 h2; rw [insInner]; exact permIn_refl _ _ _
  | succ j ih =>
    intro d h1 h2
    rw [insInner]
    split
    · rename_i hc
      have ha : a ≤ j := by
        rw [Bool.and_eq_true] at hc
        have := of_decide_eq_true hc.1
        omega
      have h3 := ih (swp d (j + 1) j) ha (by rw [size_swp]; omega)
      exact permIn_trans _ _ _ _ _ (swp_permIn _ _ _ _ _ (by omega) (by omega) (by omega) (by omega) (by omega)) (permIn_mono _ _ _ _ _ _ (Nat.le_refl _) (by omega) (by rw [size_swp]; omega) h3)
    · exact permIn_refl _ _ _
theorem insInner_lx (a : Nat) : ∀ (j : Nat) (d : Array α), j < d.size → (∀ u, a ≤ u → u < j → ix d[u]! < ix d[j]!) → insInner lt a j d = insInner (lx lt ix) a j d := by
  intro j
  induction j with
  | zero => intro d _ _; rw [insInner, insInner]
  | succ j ih =>
    intro d h1 h2
    rw [insInner, insInner]
    by_cases ha : j + 1 > a
    · rw [lx_cross (h2 j (by omega) (by omega))]
      have hs := ih (swp d (j + 1) j) (by rw [size_swp]; omega) (fun u g1 g2 => by
        rw [swp_other d (j + 1) j u (by omega) (by omega), swp_right d (j + 1) j (by omega)]
        exact h2 u g1 (by omega))
      rw [hs]
    · rw [decide_eq_false ha, Bool.false_and, Bool.false_and]
      rfl
theorem insOuter_lx (a b : Nat) : ∀ (n i : Nat) (d : Array α), b - i ≤ n → a < i → b ≤ d.size → (∀ u v, a ≤ u → u < v → i ≤ v → v < b → ix d[u]! < ix d[v]!) → insOuter lt a b i d = insOuter (lx lt ix) a b i d := by
  intro n
  induction n with
  | zero =>
    intro i d h1 _ _ _
    rw [insOuter, if_neg (by omega), insOuter, if_neg (by omega)]
  | succ n ih =>
    intro i d h1 h2 h3 h4
    by_cases hi : i < b
    · have hp := insInner_perm (lt := lt) a i d (by omega) (by omega)
      rw [insOuter, if_pos hi, ih (i + 1) _ (by omega) (by omega) (by rw [hp.1]; exact h3) (fun u v g1 g2 g3 g4 => ?_), insInner_lx a i d (by omega) (fun u g1 g2 => h4 u i g1 g2 (Nat.le_refl _) hi)]
      · conv => rhs; rw [insOuter, if_pos hi]
      · rw [hp.2.1 v (Or.inr (by omega))]
        rcases Nat.lt_or_ge u (i + 1) with k | k
        · exact permIn_all d _ a (i + 1) (fun x => ix x < ix d[v]!) (by omega) hp (fun w f1 f2 => h4 w v f1 (by omega) (by omega) g4) u g1 k
        · rw [hp.2.1 u (Or.inr (by omega))]
          exact h4 u v g1 g2 (by omega) g4
    · rw [insOuter, if_neg hi, insOuter, if_neg hi]
/-- insertion of elements in their places' order. -/
theorem ins_done (hS : SWO lt) (d : Array α) {a b : Nat} (hab : a ≤ b) (hb : b ≤ d.size) (h : ∀ u v, a ≤ u → u < v → v < b → ix d[u]! < ix d[v]!) :
    PermIn a b d (insertionSort lt d a b) ∧ SortedIn (lx lt ix) a b (insertionSort lt d a b) := by
  have e : insertionSort lt d a b = insertionSort (lx lt ix) d a b := insOuter_lx a b (b - (a + 1)) (a + 1) d (by omega) (by omega) hb (fun u v g1 g2 _ g4 => h u v g1 g2 g4)
  rw [e]
  exact insertionSort_holds (lx_swo hS) d a b hab hb
/-- the blocks of twenty. -/
def stt (lt : α → α → Bool) (d : Array α) : Nat → Array α
  | 0 => d
  | t + 1 => insertionSort lt (stt lt d t) (20 * t) (20 * t + 20)
def blocks (lt : α → α → Bool) (d : Array α) (n : Nat) : Array α := insertionSort lt (stt lt d (n / 20)) (20 * (n / 20)) n
theorem ins_same (d : Array α) (a : Nat) : insertionSort lt d a a = d := by unfold insertionSort; rw [insOuter, if_neg (by omega)]
/-- up to twenty elements. -/
theorem blocks_one (hS : SWO lt) {d : Array α} {n : Nat} (hn : n ≤ 20) (hd : d.size = n) (h : ∀ u v, u < v → v < n → ix d[u]! < ix d[v]!) : PermIn 0 n d (blocks lt d n) ∧ SortedIn (lx lt ix) 0 n (blocks lt d n) := by
  rcases Nat.lt_or_ge n 20 with g | g
  · have e : blocks lt d n = insertionSort lt d 0 n := by unfold blocks; rw [show n / 20 = 0 by omega]; rfl
    rw [e]
    exact ins_done hS d (by omega) (by omega) (fun u v _ g2 g3 => h u v g2 g3)
  · obtain rfl : n = 20 := by omega
    have e : blocks lt d 20 = insertionSort lt d 0 20 := by unfold blocks; exact ins_same _ _
    rw [e]
    exact ins_done hS d (by omega) (by omega) (fun u v _ g2 g3 => h u v g2 g3)
/-- up to forty. -/
theorem blocks_two (hS : SWO lt) {d : Array α} {n : Nat} (h20 : 20 < n) (hn : n ≤ 40) (hd : d.size = n) (h : ∀ u v, u < v → v < n → ix d[u]! < ix d[v]!) : PermIn 0 n d (blocks lt d n) ∧ Pre lt ix (blocks lt d n) 0 20 n := by
  have e : blocks lt d n = insertionSort lt (insertionSort lt d 0 20) 20 n := by
    rcases Nat.lt_or_ge n 40 with g | g
    · unfold blocks; rw [show n / 20 = 1 by omega]; rfl
    · obtain rfl : n = 40 := by omega
      unfold blocks; exact ins_same _ _
  rw [e]
  obtain ⟨p1, s1⟩ := ins_done (ix := ix) hS d (show 0 ≤ 20 by omega) (by omega) (fun u v _ g2 g3 => h u v g2 (by omega))
  generalize insertionSort lt d 0 20 = d1 at *
  have hup : ∀ v, 20 ≤ v → d1[v]! = d[v]! := fun v hv => p1.2.1 v (Or.inr hv)
  obtain ⟨p2, s2⟩ := ins_done (ix := ix) hS d1 (show 20 ≤ n by omega) (by rw [p1.1]; omega) (fun u v g1 g2 g3 => by rw [hup u g1, hup v (by omega)]; exact h u v g2 g3)
  generalize insertionSort lt d1 20 n = d2 at *
  refine ⟨permIn_trans _ _ _ _ _ (permIn_mono _ _ _ _ _ _ (Nat.le_refl _) (by omega) (by omega) p1) (permIn_mono _ _ _ _ _ _ (by omega) (Nat.le_refl _) (by rw [p1.1]; omega) p2), fun i j g1 g2 g3 => ?_, s2, fun i j g1 g2 g3 g4 => ?_⟩
  · rw [p2.2.1 i (Or.inl (by omega)), p2.2.1 j (Or.inl (by omega))]
    exact s1 i j g1 g2 g3
  · rw [p2.2.1 i (Or.inl (by omega))]
    refine permIn_all d1 d2 20 n (fun x => ix d1[i]! < ix x) (by rw [p1.1]; omega) p2 (fun j f1 f2 => ?_) j g3 g4
    rw [hup j f1]
    exact permIn_all d d1 0 20 (fun x => ix x < ix d[j]!) (by omega) p1 (fun i k1 k2 => h i j (by omega) f2) i g1 g2
end Go.Proofs.YtfmfikodnpnblaaDoor.StableP

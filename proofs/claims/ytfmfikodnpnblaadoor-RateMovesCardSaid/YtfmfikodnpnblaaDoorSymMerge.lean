/- The stable sort's merge, plainly: what turning two blocks and the two searches come to. No program here. -/
import Derived.Sort.LotA
set_option linter.unusedVariables false
set_option linter.unusedSimpArgs false
set_option linter.unusedSectionVars false
namespace Go.Proofs.YtfmfikodnpnblaaDoor.SymMerge
open Go.Sort
variable {α : Type} [Inhabited α]
/-! ### turning two blocks -/
/-- where place k's element lay, the blocks [a, m) and [m, b) turned. -/
def rho (a m b k : Nat) : Nat := if k < a ∨ b ≤ k then k else if k < a + (b - m) then k + (m - a) else k - (b - m)
def Rotd (a m b : Nat) (d d' : Array α) : Prop := d'.size = d.size ∧ ∀ k, d'[k]! = d[rho a m b k]!
theorem Rotd.left (a b : Nat) (d : Array α) : Rotd a a b d d := ⟨rfl, fun k => by
  congr 1
  unfold rho
  split
  · rfl
  · split
    · omega
    · omega⟩
theorem Rotd.right (a b : Nat) (d : Array α) : Rotd a b b d d := ⟨rfl, fun k => by
  congr 1
  unfold rho
  split
  · rfl
  · split
    · omega
    · omega⟩
theorem swp_get3 (d : Array α) {i j : Nat} (hi : i < d.size) (hj : j < d.size) (k : Nat) : (swp d i j)[k]! = d[if k = i then j else if k = j then i else k]! := by
  by_cases h1 : k = i
  · rw [if_pos h1, h1]
    by_cases h2 : i = j
    · rw [← h2]; exact swp_right d i i hi
    · exact swp_left d i j hi h2
  · rw [if_neg h1]
    by_cases h2 : k = j
    · rw [if_pos h2, h2]; exact swp_right d i j hj
    · rw [if_neg h2]; exact swp_other d i j k h1 h2
/-- the blocks [a, a + n) and [b, b + n) exchanged, the first i places of it. -/
def sig (a b i k : Nat) : Nat := if a ≤ k ∧ k < a + i then k - a + b else if b ≤ k ∧ k < b + i then k - b + a else k
def Exch (a b i : Nat) (d d' : Array α) : Prop := d'.size = d.size ∧ ∀ k, d'[k]! = d[sig a b i k]!
theorem Exch.zero (a b : Nat) (d : Array α) : Exch a b 0 d d := ⟨rfl, fun k => by congr 1; unfold sig; rw [if_neg (by omega), if_neg (by omega)]⟩
theorem Exch.step {a b i : Nat} {d d' : Array α} (h : Exch a b i d d') (hab : a + i < b) (hs : b + i < d.size) : Exch a b (i + 1) d (swp d' (a + i) (b + i)) := by
  refine ⟨by rw [size_swp]; exact h.1, fun k => ?_⟩
  rw [swp_get3 d' (by rw [h.1]; omega) (by rw [h.1]; omega), h.2]
  congr 1
  unfold sig
  repeat' split
  all_goals omega
theorem Exch.rot_eq {m i : Nat} {d d' : Array α} (h : Exch (m - i) m i d d') (hi : i ≤ m) : Rotd (m - i) m (m + i) d d' := by
  refine ⟨h.1, fun k => ?_⟩
  rw [h.2]
  congr 1
  unfold sig rho
  by_cases h1 : m - i ≤ k ∧ k < m - i + i
  · rw [if_pos h1, if_neg (by omega), if_pos (by omega)]; omega
  · rw [if_neg h1]
    by_cases h2 : m ≤ k ∧ k < m + i
    · rw [if_pos h2, if_neg (by omega), if_neg (by omega)]; omega
    · rw [if_neg h2, if_pos (by omega)]
theorem Exch.rot_gt {m i j : Nat} {d d' T : Array α} (h : Exch (m - i) m j d d') (hi : i ≤ m) (hj : j < i) (hT : Rotd (m - (i - j)) m (m + j) d' T) : Rotd (m - i) m (m + j) d T := by
  refine ⟨hT.1.trans h.1, fun k => ?_⟩
  rw [hT.2, h.2]
  congr 1
  unfold rho
  by_cases h1 : k < m - i ∨ m + j ≤ k
  · rw [if_pos h1, if_pos (by omega)]
    unfold sig; rw [if_neg (by omega), if_neg (by omega)]
  · rw [if_neg h1]
    by_cases h2 : k < m - i + (m + j - m)
    · rw [if_pos h2, if_pos (by omega)]
      unfold sig; rw [if_pos (by omega)]; omega
    · rw [if_neg h2, if_neg (by omega)]
      by_cases h3 : k < m - (i - j) + (m + j - m)
      · rw [if_pos h3]
        unfold sig; rw [if_neg (by omega), if_pos (by omega)]; omega
      · rw [if_neg h3]
        unfold sig; rw [if_neg (by omega), if_neg (by omega)]
theorem Exch.rot_lt {m i j : Nat} {d d' T : Array α} (h : Exch (m - i) (m + j - i) i d d') (hi : i ≤ m) (hj : i < j) (hT : Rotd (m - i) m (m + (j - i)) d' T) : Rotd (m - i) m (m + j) d T := by
  refine ⟨hT.1.trans h.1, fun k => ?_⟩
  rw [hT.2, h.2]
  congr 1
  unfold rho
  by_cases h1 : k < m - i ∨ m + j ≤ k
  · rw [if_pos h1, if_pos (by omega)]
    unfold sig; rw [if_neg (by omega), if_neg (by omega)]
  · rw [if_neg h1]
    by_cases h2 : m + (j - i) ≤ k
    · rw [if_pos (Or.inr h2), if_neg (by omega)]
      unfold sig; rw [if_neg (by omega), if_pos (by omega)]; omega
    · rw [if_neg (by omega)]
      by_cases h3 : k < m - i + (m + (j - i) - m)
      · rw [if_pos h3, if_pos (by omega)]
        unfold sig
        by_cases h4 : k < m - i + 0
        · omega
        · by_cases h5 : m + j - i ≤ k + (m - (m - i))
          · omega
          · rw [if_neg (by omega), if_neg (by omega)]
      · rw [if_neg h3]
        unfold sig
        by_cases h4 : k < m - i + (m + j - m)
        · rw [if_pos h4, if_pos (by omega)]; omega
        · omega
/-- one element moved to the right, to the left. -/
theorem Rotd.push {a k : Nat} {d d' : Array α} (h : Rotd a (a + 1) (k + 1) d d') (hk : a ≤ k) (hs : k + 1 < d.size) : Rotd a (a + 1) (k + 2) d (swp d' k (k + 1)) := by
  refine ⟨by rw [size_swp]; exact h.1, fun t => ?_⟩
  rw [swp_get3 d' (by rw [h.1]; omega) (by rw [h.1]; omega), h.2]
  congr 1
  unfold rho
  repeat' split
  all_goals omega
theorem Rotd.pull {k m : Nat} {d d' : Array α} (h : Rotd (k + 1) m (m + 1) d d') (hk : k < m) (hs : m < d.size) : Rotd k m (m + 1) d (swp d' (k + 1) k) := by
  refine ⟨by rw [size_swp]; exact h.1, fun t => ?_⟩
  rw [swp_get3 d' (by rw [h.1]; omega) (by rw [h.1]; omega), h.2]
  congr 1
  unfold rho
  repeat' split
  all_goals omega
/-! ### a search by halves -/
def Bs (q : Nat → Bool) (lo hi i j : Nat) : Prop := lo ≤ i ∧ i ≤ j ∧ j ≤ hi ∧ (i = lo ∨ q (i - 1) = true) ∧ (j = hi ∨ q j = false)
theorem Bs.start {q : Nat → Bool} {lo hi : Nat} (h : lo ≤ hi) : Bs q lo hi lo hi := ⟨Nat.le_refl _, h, Nat.le_refl _, .inl rfl, .inl rfl⟩
theorem Bs.up {q : Nat → Bool} {lo hi i j h : Nat} (hb : Bs q lo hi i j) (h1 : i ≤ h) (h2 : h < j) (hq : q h = true) : Bs q lo hi (h + 1) j := by
  obtain ⟨a, b, c, e, f⟩ := hb
  exact ⟨by omega, by omega, c, .inr hq, f⟩
theorem Bs.down {q : Nat → Bool} {lo hi i j h : Nat} (hb : Bs q lo hi i j) (h1 : i ≤ h) (h2 : h < j) (hq : q h = false) : Bs q lo hi i h := by
  obtain ⟨a, b, c, e, f⟩ := hb
  exact ⟨a, h1, by omega, e, .inr hq⟩
/-! ### the order with places -/
variable (lt : α → α → Bool) (ix : α → Nat)
def lx (x y : α) : Bool := lt x y || (!lt y x && decide (ix x < ix y))
variable {lt} {ix}
theorem lx_false {x y : α} : lx lt ix x y = false ↔ lt x y = false ∧ (lt y x = true ∨ ix y ≤ ix x) := by
  unfold lx
  cases lt x y <;> cases lt y x <;> simp
theorem lx_true {x y : α} : lx lt ix x y = true ↔ lt x y = true ∨ (lt y x = false ∧ ix x < ix y) := by
  unfold lx
  cases lt x y <;> cases lt y x <;> simp
theorem lx_swo (h : SWO lt) : SWO (lx lt ix) where
  irrefl x := lx_false.2 ⟨h.irrefl x, .inr (Nat.le_refl _)⟩
  trans x y z h1 h2 := by
    rw [lx_true] at *
    rcases h1 with h1 | ⟨h1, g1⟩ <;> rcases h2 with h2 | ⟨h2, g2⟩
    · exact .inl (h.trans _ _ _ h1 h2)
    · left
      rcases hz : lt x z with _ | _
      · have := h.ntrans x z y hz h2; rw [h1] at this; cases this
      · rfl
    · left
      rcases hz : lt x z with _ | _
      · have := h.ntrans y x z h1 hz; rw [h2] at this; cases this
      · rfl
    · right
      exact ⟨h.ntrans z y x h2 h1, by omega⟩
  ntrans x y z h1 h2 := by
    rw [lx_false] at *
    obtain ⟨a1, b1⟩ := h1
    obtain ⟨a2, b2⟩ := h2
    refine ⟨h.ntrans _ _ _ a1 a2, ?_⟩
    rcases hz : lt z x with _ | _
    · right
      rcases b1 with b1 | b1
      · have := h.ntrans z x y hz a1
        rcases b2 with b2 | b2
        · rw [this] at b2; cases b2
        · have hh := h.ntrans _ _ _ a2 hz
          rw [b1] at hh; cases hh
      · rcases b2 with b2 | b2
        · have := h.ntrans z x y hz a1
          rw [this] at b2; cases b2
        · omega
    · exact .inl rfl
/-- a later place's element against an earlier one's: the places decide nothing. -/
theorem lx_cross {x y : α} (h : ix x < ix y) : lx lt ix y x = lt y x := by
  unfold lx
  rw [decide_eq_false (show ¬ ix y < ix x by omega), Bool.and_false, Bool.or_false]
/-- what a merge is given: two sorted blocks, the left one's elements of earlier places. -/
structure Pre (lt : α → α → Bool) (ix : α → Nat) (d : Array α) (a m b : Nat) : Prop where
  left : SortedIn (lx lt ix) a m d
  right : SortedIn (lx lt ix) m b d
  ahead : ∀ i j, a ≤ i → i < m → m ≤ j → j < b → ix d[i]! < ix d[j]!
theorem Pre.cross {d : Array α} {a m b i j : Nat} (h : Pre lt ix d a m b) (h1 : a ≤ i) (h2 : i < m) (h3 : m ≤ j) (h4 : j < b) : lx lt ix d[j]! d[i]! = lt d[j]! d[i]! := lx_cross (h.ahead i j h1 h2 h3 h4)
theorem sorted_le {d : Array α} {a b i j : Nat} (hS : SWO lt) (h : SortedIn (lx lt ix) a b d) (h1 : a ≤ i) (h2 : i ≤ j) (h3 : j < b) : lx lt ix d[j]! d[i]! = false := by
  rcases Nat.lt_or_ge i j with g | g
  · exact h i j h1 g h3
  · obtain rfl : i = j := by omega
    exact (lx_swo hS).irrefl _
/-- x less than y, y not above z: x less than z. -/
theorem lt_le {x y z : α} (hS : SWO lt) (h1 : lx lt ix x y = true) (h2 : lx lt ix z y = false) : lx lt ix x z = true := by
  rcases hz : lx lt ix x z with _ | _
  · have := (lx_swo (ix := ix) hS).ntrans x z y hz h2; rw [h1] at this; cases this
  · rfl
theorem le_lt {x y z : α} (hS : SWO lt) (h1 : lx lt ix y x = false) (h2 : lx lt ix y z = true) : lx lt ix x z = true := by
  rcases hz : lx lt ix x z with _ | _
  · have := (lx_swo (ix := ix) hS).ntrans y x z h1 hz; rw [h2] at this; cases this
  · rfl
theorem le_of_lt {x y : α} (hS : SWO lt) (h : lx lt ix x y = true) : lx lt ix y x = false := (lx_swo hS).asymmA h
/-- [a, m) sorted where the middle of it was turned: four blocks. -/
structure Four (lt : α → α → Bool) (ix : α → Nat) (d : Array α) (a s m e b : Nat) : Prop where
  pre : Pre lt ix d a m b
  hs : a ≤ s ∧ s ≤ m ∧ m ≤ e ∧ e ≤ b
  /-- the left's end is above the right's beginning -/
  down : ∀ i j, s ≤ i → i < m → m ≤ j → j < e → lx lt ix d[j]! d[i]! = true
  /-- the left's beginning is not above the right's end -/
  up : ∀ i j, a ≤ i → i < s → e ≤ j → j < b → lx lt ix d[j]! d[i]! = false
section
variable {d d' : Array α} {a s m e b : Nat}
theorem rho_1 {k : Nat} (h : Four lt ix d a s m e b) (h2 : k < s) : rho s m e k = k := by unfold rho; rw [if_pos (Or.inl h2)]
theorem rho_2 {k : Nat} (h : Four lt ix d a s m e b) (h1 : s ≤ k) (h2 : k < s + (e - m)) : rho s m e k = k + (m - s) := by have := h.hs; unfold rho; rw [if_neg (by omega), if_pos h2]
theorem rho_3 {k : Nat} (h : Four lt ix d a s m e b) (h1 : s + (e - m) ≤ k) (h2 : k < e) : rho s m e k = k - (e - m) := by have := h.hs; unfold rho; rw [if_neg (by omega), if_neg (by omega)]
theorem rho_4 {k : Nat} (h : Four lt ix d a s m e b) (h1 : e ≤ k) : rho s m e k = k := by unfold rho; rw [if_pos (Or.inr h1)]
/-- the left half behind the turn: two sorted blocks. -/
theorem Four.preL (h : Four lt ix d a s m e b) (hr : Rotd s m e d d') : Pre lt ix d' a s (s + (e - m)) := by
  have hh := h.hs
  refine ⟨fun i j h1 h2 h3 => ?_, fun i j h1 h2 h3 => ?_, fun i j h1 h2 h3 h4 => ?_⟩
  · rw [hr.2, hr.2, rho_1 h h3, rho_1 h (by omega)]
    exact h.pre.left i j h1 h2 (by omega)
  · rw [hr.2, hr.2, rho_2 h (by omega) h3, rho_2 h h1 (by omega)]
    exact h.pre.right _ _ (by omega) (by omega) (by omega)
  · rw [hr.2, hr.2, rho_1 h h2, rho_2 h h3 h4]
    exact h.pre.ahead _ _ (by omega) (by omega) (by omega) (by omega)
theorem Four.preR (h : Four lt ix d a s m e b) (hr : Rotd s m e d d') : Pre lt ix d' (s + (e - m)) e b := by
  have hh := h.hs
  refine ⟨fun i j h1 h2 h3 => ?_, fun i j h1 h2 h3 => ?_, fun i j h1 h2 h3 h4 => ?_⟩
  · rw [hr.2, hr.2, rho_3 h (by omega) h3, rho_3 h h1 (by omega)]
    exact h.pre.left _ _ (by omega) (by omega) (by omega)
  · rw [hr.2, hr.2, rho_4 h (by omega), rho_4 h h1]
    exact h.pre.right _ _ (by omega) (by omega) (by omega)
  · rw [hr.2, hr.2, rho_3 h h1 h2, rho_4 h h3]
    exact h.pre.ahead _ _ (by omega) (by omega) (by omega) (by omega)
/-- nothing of the right half is less than anything of the left half. -/
theorem Four.halves (hS : SWO lt) (h : Four lt ix d a s m e b) (hr : Rotd s m e d d') {i j : Nat} (h1 : a ≤ i) (h2 : i < s + (e - m)) (h3 : s + (e - m) ≤ j) (h4 : j < b) : lx lt ix d'[j]! d'[i]! = false := by
  have hh := h.hs
  rw [hr.2, hr.2]
  rcases Nat.lt_or_ge i s with g1 | g1
  · rw [rho_1 h g1]
    rcases Nat.lt_or_ge j e with g2 | g2
    · rw [rho_3 h h3 g2]
      exact sorted_le hS h.pre.left (by omega) (by omega) (by omega)
    · rw [rho_4 h g2]
      exact h.up _ _ h1 g1 g2 h4
  · rw [rho_2 h g1 h2]
    rcases Nat.lt_or_ge j e with g2 | g2
    · rw [rho_3 h h3 g2]
      exact le_of_lt hS (h.down _ _ (by omega) (by omega) (by omega) (by omega))
    · rw [rho_4 h g2]
      exact sorted_le hS h.pre.right (by omega) (by omega) (by omega)
end
theorem Pre.one_left {d : Array α} {a b : Nat} (hS : SWO lt) (h : Pre lt ix d a a b) : SortedIn (lx lt ix) a b d := h.right
theorem Pre.one_right {d : Array α} {a b : Nat} (hS : SWO lt) (h : Pre lt ix d a b b) : SortedIn (lx lt ix) a b d := h.left
/-- two sorted halves, nothing of the right less than anything of the left: sorted. -/
theorem sorted_join {d : Array α} {a c b : Nat} (h1 : SortedIn (lx lt ix) a c d) (h2 : SortedIn (lx lt ix) c b d) (h : ∀ i j, a ≤ i → i < c → c ≤ j → j < b → lx lt ix d[j]! d[i]! = false) : SortedIn (lx lt ix) a b d := by
  intro i j g1 g2 g3
  rcases Nat.lt_or_ge j c with k | k
  · exact h1 i j g1 g2 k
  · rcases Nat.lt_or_ge i c with k2 | k2
    · exact h i j g1 k2 k g3
    · exact h2 i j k2 g2 g3
/-- both halves put in order among themselves. -/
theorem halves_done {d1 d2 d3 : Array α} {a c b : Nat} (hac : a ≤ c) (hcb : c ≤ b) (hb : b ≤ d1.size) (p1 : PermIn a c d1 d2) (s1 : SortedIn (lx lt ix) a c d2) (p2 : PermIn c b d2 d3) (s2 : SortedIn (lx lt ix) c b d3)
    (h : ∀ i j, a ≤ i → i < c → c ≤ j → j < b → lx lt ix d1[j]! d1[i]! = false) : PermIn a b d1 d3 ∧ SortedIn (lx lt ix) a b d3 := by
  refine ⟨permIn_trans _ _ _ _ _ (permIn_mono _ _ _ _ _ _ (Nat.le_refl _) hcb hb p1) (permIn_mono _ _ _ _ _ _ hac (Nat.le_refl _) (by rw [p1.1]; exact hb) p2), sorted_join (fun i j g1 g2 g3 => ?_) s2 (fun i j g1 g2 g3 g4 => ?_)⟩
  · rw [p2.2.1 j (Or.inl (by omega)), p2.2.1 i (Or.inl (by omega))]
    exact s1 i j g1 g2 g3
  · rw [p2.2.1 i (Or.inl g2)]
    have e1 : ∀ j, c ≤ j → j < b → lx lt ix d2[j]! d2[i]! = false := by
      intro j g3 g4
      rw [p1.2.1 j (Or.inr g3)]
      exact permIn_all d1 d2 a c (fun x => lx lt ix d1[j]! x = false) (by omega) p1 (fun i g1 g2 => h i j g1 g2 g3 g4) i g1 g2
    exact permIn_all d2 d3 c b (fun x => lx lt ix x d2[i]! = false) (by rw [p1.1]; exact hb) p2 e1 j g3 g4
/-! ### the three searches -/
/-- one element at the left. -/
theorem four_left {d : Array α} {a b i : Nat} (hS : SWO lt) (h : Pre lt ix d a (a + 1) b) (hab : a + 1 ≤ b) (hb : Bs (fun k => lt d[k]! d[a]!) (a + 1) b i i) :
    Four lt ix d a a (a + 1) i b ∧ ∀ j, i ≤ j → j < b → lx lt ix d[j]! d[a]! = false := by
  obtain ⟨b1, _, b2, b3, b4⟩ := hb
  refine ⟨⟨h, ⟨Nat.le_refl _, by omega, b1, b2⟩, fun k j g1 g2 g3 g4 => ?_, fun k j g1 g2 => by omega⟩, fun j g1 g2 => ?_⟩
  · obtain rfl : k = a := by omega
    rcases b3 with b3 | b3
    · omega
    · refine le_lt hS (sorted_le hS h.right g3 (show j ≤ i - 1 by omega) (by omega)) ?_
      rw [h.cross (Nat.le_refl _) (by omega) (by omega) (by omega)]
      exact b3
  · rcases b4 with b4 | b4
    · omega
    · refine (lx_swo hS).ntrans _ _ _ (sorted_le hS h.right (show a + 1 ≤ i by omega) g1 g2) ?_
      rw [h.cross (Nat.le_refl _) (by omega) (by omega) (by omega)]
      exact b4
theorem done_left {d d' : Array α} {a b i : Nat} (hS : SWO lt) (h : Four lt ix d a a (a + 1) i b) (hu : ∀ j, i ≤ j → j < b → lx lt ix d[j]! d[a]! = false) (hr : Rotd a (a + 1) i d d') : SortedIn (lx lt ix) a b d' := by
  have hh := h.hs
  refine sorted_join (h.preL hr).right ?_ (fun x y g1 g2 g3 g4 => h.halves hS hr g1 g2 g3 g4)
  refine sorted_join (h.preR hr).left (h.preR hr).right fun x y g1 g2 g3 g4 => ?_
  rw [hr.2, hr.2, rho_4 h g3, rho_3 h g1 g2, show x - (i - (a + 1)) = a by omega]
  exact hu y g3 g4
/-- one element at the right. -/
theorem four_right {d : Array α} {a m i : Nat} (hS : SWO lt) (h : Pre lt ix d a m (m + 1)) (ham : a ≤ m) (hb : Bs (fun k => !lt d[m]! d[k]!) a m i i) :
    Four lt ix d a i m (m + 1) (m + 1) ∧ ∀ k, a ≤ k → k < i → lx lt ix d[m]! d[k]! = false := by
  obtain ⟨b1, _, b2, b3, b4⟩ := hb
  refine ⟨⟨h, ⟨b1, b2, by omega, Nat.le_refl _⟩, fun k j g1 g2 g3 g4 => ?_, fun k j g1 g2 g3 g4 => by omega⟩, fun k g1 g2 => ?_⟩
  · obtain rfl : j = m := by omega
    rcases b4 with b4 | b4
    · omega
    · refine lt_le hS (y := d[i]!) ?_ (sorted_le hS h.left b1 g1 g2)
      rw [h.cross b1 (by omega) (Nat.le_refl _) (by omega)]
      simpa using b4
  · rcases b3 with b3 | b3
    · omega
    · refine (lx_swo hS).ntrans _ d[i - 1]! _ ?_ (sorted_le hS h.left g1 (show k ≤ i - 1 by omega) (by omega))
      rw [h.cross (by omega) (by omega) (Nat.le_refl _) (by omega)]
      simpa using b3
theorem done_right {d d' : Array α} {a m i : Nat} (hS : SWO lt) (h : Four lt ix d a i m (m + 1) (m + 1)) (hu : ∀ k, a ≤ k → k < i → lx lt ix d[m]! d[k]! = false) (hr : Rotd i m (m + 1) d d') : SortedIn (lx lt ix) a (m + 1) d' := by
  have hh := h.hs
  refine sorted_join (c := i + (m + 1 - m)) ?_ (h.preR hr).left (fun x y g1 g2 g3 g4 => h.halves hS hr g1 g2 g3 g4)
  refine sorted_join (h.preL hr).left (h.preL hr).right fun x y g1 g2 g3 g4 => ?_
  rw [hr.2, hr.2, rho_2 h g3 g4, rho_1 h g2, show y + (m - i) = m by omega]
  exact hu x g1 g2
/-- the middle: start and end. -/
theorem four_mid {d : Array α} {a m b lo hi s : Nat} (hS : SWO lt) (h : Pre lt ix d a m b) (ham : a < m) (hmb : m < b) (hlo : lo = if (a + b) / 2 < m then (a + b) / 2 + m - b else a) (hhi : hi = if (a + b) / 2 < m then (a + b) / 2 else m)
    (hb : Bs (fun c => !lt d[(a + b) / 2 + m - 1 - c]! d[c]!) lo hi s s) : Four lt ix d a s m ((a + b) / 2 + m - s) b ∧ s + ((a + b) / 2 + m - s - m) = (a + b) / 2 ∧ s ≤ (a + b) / 2 := by
  obtain ⟨b1, _, b2, b3, b4⟩ := hb
  obtain ⟨c, hc⟩ : ∃ c, (a + b) / 2 = c := ⟨_, rfl⟩
  have hc1 : 2 * c ≤ a + b ∧ a + b ≤ 2 * c + 1 := by omega
  simp only [hc] at b3 b4 hlo hhi ⊢
  have hlo' : a ≤ lo ∧ (lo = a ∧ m ≤ c ∨ lo + b = c + m ∧ c < m) := by split at hlo <;> omega
  have hhi' : hi ≤ m ∧ hi ≤ c ∧ (hi = m ∧ m ≤ c ∨ hi = c ∧ c < m) := by split at hhi <;> omega
  refine ⟨⟨h, ⟨by omega, by omega, by omega, by omega⟩, fun i j g1 g2 g3 g4 => ?_, fun i j g1 g2 g3 g4 => ?_⟩, by omega, by omega⟩
  · rcases b4 with b4 | b4
    · omega
    · refine lt_le hS (y := d[s]!) (le_lt hS (sorted_le hS h.right g3 (show j ≤ c + m - 1 - s by omega) (by omega)) ?_) (sorted_le hS h.left (by omega) g1 g2)
      rw [h.cross (by omega) (by omega) (by omega) (by omega)]
      simpa using b4
  · rcases b3 with b3 | b3
    · omega
    · refine (lx_swo hS).ntrans _ d[s - 1]! _ ((lx_swo hS).ntrans _ d[c + m - 1 - (s - 1)]! _ (sorted_le hS h.right (by omega) (by omega) g4) ?_) (sorted_le hS h.left g1 (show i ≤ s - 1 by omega) (by omega))
      rw [h.cross (by omega) (by omega) (by omega) (by omega)]
      simpa using b3
/-! ### the middle's end -/
section
variable {d d1 d2 d3 : Array α} {a s m e b c : Nat}
theorem Pre.congr (h : Pre lt ix d1 c e b) (hh : ∀ i, c ≤ i → d2[i]! = d1[i]!) (hce : c ≤ e) : Pre lt ix d2 c e b := by
  refine ⟨fun i j h1 h2 h3 => ?_, fun i j h1 h2 h3 => ?_, fun i j h1 h2 h3 h4 => ?_⟩
  · rw [hh i h1, hh j (by omega)]; exact h.left i j h1 h2 h3
  · rw [hh i (by omega), hh j (by omega)]; exact h.right i j h1 h2 h3
  · rw [hh i h1, hh j (by omega)]; exact h.ahead i j h1 h2 h3 h4
theorem Four.preL' (h : Four lt ix d a s m e b) (hr : Rotd s m e d d1) (hc : s + (e - m) = c) : Pre lt ix d1 a s c := by subst hc; exact h.preL hr
theorem Four.preR' (h : Four lt ix d a s m e b) (hr : Rotd s m e d d1) (hc : s + (e - m) = c) (p2 : PermIn a c d1 d2) : Pre lt ix d2 c e b := by
  have hh := h.hs
  subst hc
  exact (h.preR hr).congr (fun i hi => p2.2.1 i (Or.inr hi)) (by omega)
theorem Four.leftDone (h : Four lt ix d a s m e b) (hr : Rotd s m e d d1) (hc : s + (e - m) = c) (hs : s = a ∨ s = c) : SortedIn (lx lt ix) a c d1 := by
  rcases hs with g | g
  · have := (h.preL' hr hc).right
    rw [g] at this; exact this
  · have := (h.preL' hr hc).left
    rw [g] at this; exact this
theorem Four.rightDone (h : Four lt ix d a s m e b) (hr : Rotd s m e d d1) (hc : s + (e - m) = c) (p2 : PermIn a c d1 d2) (hs : e = c ∨ e = b) : SortedIn (lx lt ix) c b d2 := by
  rcases hs with g | g
  · have := (h.preR' hr hc p2).right
    rw [g] at this; exact this
  · have := (h.preR' hr hc p2).left
    rw [g] at this; exact this
theorem mid_done (hS : SWO lt) (h : Four lt ix d a s m e b) (hc : s + (e - m) = c) (hb : b ≤ d.size) (hr : Rotd s m e d d1) (hp : PermIn s e d d1) (p2 : PermIn a c d1 d2) (s2 : SortedIn (lx lt ix) a c d2) (p3 : PermIn c b d2 d3) (s3 : SortedIn (lx lt ix) c b d3) :
    PermIn a b d d3 ∧ SortedIn (lx lt ix) a b d3 := by
  have hh := h.hs
  have q := halves_done (by omega) (by omega) (by rw [hp.1]; exact hb) p2 s2 p3 s3 (fun i j g1 g2 g3 g4 => by subst hc; exact h.halves hS hr g1 g2 g3 g4)
  exact ⟨permIn_trans _ _ _ _ _ (permIn_mono _ _ _ _ _ _ hh.1 hh.2.2.2 hb hp) q.1, q.2⟩
end
end Go.Proofs.YtfmfikodnpnblaaDoor.SymMerge

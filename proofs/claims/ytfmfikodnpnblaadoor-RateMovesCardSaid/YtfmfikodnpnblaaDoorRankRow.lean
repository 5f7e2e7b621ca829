/- cmp.Compare at doubles; rate.Rank's own comparison. -/
import Derived.Test.YtfmfikodnpnblaaDoorRankStable
import Derived.Deep.QuietTactic
import Derived.WalkKit
import Derived.Sort.OwnSortedInts
set_option linter.unusedVariables false
set_option linter.unusedSimpArgs false
namespace Go.Proofs.YtfmfikodnpnblaaDoor.RankCmp
open Go.Shelf Go.RowKit Go.Lib Go.Sort Go.Proofs Go.Proofs.YtfmfikodnpnblaaDoorW.PrintWords Go.Proofs.YtfmfikodnpnblaaDoor.Flt
def nanB (x : Nat) : Bool := FloatKind.f64.format.order x x != some .eq
def cmpF (x y : Nat) : Int := if nanB x = true then (if nanB y = true then 0 else -1) else if nanB y = true then 1 else if (FloatKind.f64.format.order x y == some .lt) = true then -1 else if (FloatKind.f64.format.order x y == some .gt) = true then 1 else 0
set_option maxRecDepth 100000 in
theorem isNaN (x : Nat) (w : World) : Calls Tryd.prog 83 #[.float .f64 x] w fun e w' => e = .returned (.bool (nanB x)) ∧ w' = w := by
  go_enter Tryd.func83, Tryd.ntmps83
  go_wp2
  go_ret
  exact ⟨rfl, rfl⟩
set_option maxRecDepth 100000 in
theorem cmpCalls (x y : Nat) (w : World) : Calls Tryd.prog 52 #[.float .f64 x, .float .f64 y] w fun e w' => e = .returned (.int .i64 (cmpF x y)) ∧ w' = w := by
  unfold cmpF
  obtain ⟨nx, hx⟩ : ∃ b, nanB x = b := ⟨_, rfl⟩
  obtain ⟨ny, hy⟩ : ∃ b, nanB y = b := ⟨_, rfl⟩
  obtain ⟨l, hl⟩ : ∃ b, (FloatKind.f64.format.order x y == some .lt) = b := ⟨_, rfl⟩
  obtain ⟨g, hg⟩ : ∃ b, (FloatKind.f64.format.order x y == some .gt) = b := ⟨_, rfl⟩
  have cx : ∀ w, Calls Tryd.prog 83 #[.float .f64 x] w fun e w' => e = .returned (.bool nx) ∧ w' = w := fun w => by rw [← hx]; exact isNaN x w
  have cy : ∀ w, Calls Tryd.prog 83 #[.float .f64 y] w fun e w' => e = .returned (.bool ny) ∧ w' = w := fun w => by rw [← hy]; exact isNaN y w
  rw [hx, hy, hl, hg]
  clear hx hy
  cases nx <;> cases ny <;> cases l <;> cases g <;> simp only [if_true, if_false, Bool.false_eq_true]
  all_goals go_enter Tryd.func52, Tryd.ntmps52
  all_goals go_wp2_with (first | (go_at_call 83; (with_reducible refine (cx _).mono ?_); rintro e w1 ⟨rfl, rfl⟩) | (go_at_call 83; (with_reducible refine (cy _).mono ?_); rintro e w1 ⟨rfl, rfl⟩))
  all_goals go_ret
  all_goals exact ⟨rfl, rfl⟩
set_option maxRecDepth 100000 in
/-- Rank's own comparison of two places. -/
theorem closure (lb loff ln lc Bs : Nat) (W : World) (G : Nat → Nat) (hs : W.cell? ⟨Bs, 0, none⟩ = some (.slice (some ⟨lb, loff, none⟩) ln lc))
    (hc : ∀ t, t < ln → W.cell? ⟨lb, loff + t, none⟩ = some (.float .f64 (G t))) (i j : Nat) (hi : i < ln) (hj : j < ln) :
    Calls Tryd.prog 51 #[.int .i64 i, .int .i64 j, .pointer (some ⟨Bs, 0, none⟩)] W fun e w' => e = .returned (.int .i64 (cmpF (G i) (G j))) ∧ ∃ q, w' = W.drewN q := by
  have ci := hc i hi
  have cj := hc j hj
  obtain ⟨x, hx⟩ : ∃ x, G i = x := ⟨_, rfl⟩
  obtain ⟨y, hy⟩ : ∃ y, G j = y := ⟨_, rfl⟩
  rw [hx] at ci ⊢
  rw [hy] at cj ⊢
  clear hx hy hc
  have iz : (i : Int) < (ln : Int) := by omega
  have jz : (j : Int) < (ln : Int) := by omega
  have cc := fun w => cmpCalls x y w
  go_enter Tryd.func51, Tryd.ntmps51
  go_wp2
  go_quiet ((go_at_call 52; refine Calls.quiet_of_same (cc _)))
  go_wp2
  go_ret
  exact ⟨rfl, nq, rfl⟩
/-! ### places below k + 1 -/
abbrev pl (k : Nat) (x : Fin (k + 1)) : Int := (x.val : Int)
theorem cmpReads (k blk off Bs lb loff lc : Nat) (w : World) (G : Nat → Nat) (hBs : Bs < w.heap.size) (hlb : lb < w.heap.size) (hblk : blk < w.heap.size) (hne : Bs ≠ blk) (hne2 : lb ≠ blk)
    (hs : w.cell? ⟨Bs, 0, none⟩ = some (.slice (some ⟨lb, loff, none⟩) (k + 1) lc)) (hc : ∀ t, t < k + 1 → w.cell? ⟨lb, loff + t, none⟩ = some (.float .f64 (G t))) :
    CmpReads Tryd.prog 51 #[.pointer (some ⟨Bs, 0, none⟩)] (RankSwap.en (pl k)) (fun x y => cmpF (G x.val) (G y.val)) blk off (k + 1) w := by
  intro m os dk hsz x y
  have e : sortWorld (RankSwap.en (pl k)) w blk off m dk os = putRow (RankSwap.en (pl k)) (grow (Sort.ahead w m) os) blk off dk := by
    unfold sortWorld; rw [putRow_grow _ (Sort.ahead w m) _ blk off _ hblk]
  refine closure lb loff (k + 1) lc Bs _ G ?_ (fun t ht => ?_) x.val y.val x.isLt y.isLt
  · rw [e, cell?_putRow_other _ _ blk off dk _ (Or.inl hne), cell?_grow _ _ _ (by show Bs < w.heap.size; exact hBs)]
    exact hs
  · rw [e, cell?_putRow_other _ _ blk off dk _ (Or.inl hne2), cell?_grow _ _ _ (by show lb < w.heap.size; exact hlb)]
    exact hc t ht
/-- the comparison is one of numbers, NaN first. -/
theorem order_int {x y : Nat} {a b : Int} (hx : key x = some a) (hy : key y = some b) : cmpF x y = if a < b then -1 else if b < a then 1 else 0 := by
  have ox : FloatKind.f64.format.order x x = some (compare a a) := order_key hx hx
  have oy : FloatKind.f64.format.order y y = some (compare b b) := order_key hy hy
  have o : FloatKind.f64.format.order x y = some (compare a b) := order_key hx hy
  have nx : nanB x = false := by unfold nanB; rw [ox, cmp_eq rfl]; rfl
  have ny : nanB y = false := by unfold nanB; rw [oy, cmp_eq rfl]; rfl
  unfold cmpF
  rw [nx, ny, if_neg (by decide), if_neg (by decide), o]
  rcases Int.lt_trichotomy a b with h | h | h
  · rw [cmp_lt h, if_pos (by decide), if_pos h]
  · rw [cmp_eq h, if_neg (by decide), if_neg (by decide), if_neg (by omega), if_neg (by omega)]
  · rw [cmp_gt h, if_neg (by decide), if_pos (by decide), if_neg (by omega), if_pos h]
theorem nan_of {x : Nat} (h : key x = none) : nanB x = true := by unfold nanB; rw [show FloatKind.f64.format.order x x = none from order_nan (.inl h)]; rfl
theorem nan_not {x : Nat} {a : Int} (h : key x = some a) : nanB x = false := by
  have ox : FloatKind.f64.format.order x x = some (compare a a) := order_key h h
  unfold nanB; rw [ox, cmp_eq rfl]; rfl
/-- a number's rank among all: NaN first. -/
def kz : Option Int → Option Int → Bool
  | none, none => false
  | none, some _ => true
  | some _, none => false
  | some a, some b => decide (a < b)
theorem lt_kz (x y : Nat) : decide (cmpF x y < 0) = kz (key x) (key y) := by
  cases hx : key x with
  | none =>
    cases hy : key y with
    | none => unfold cmpF; rw [nan_of hx, nan_of hy]; rfl
    | some b => unfold cmpF; rw [nan_of hx, nan_not hy]; rfl
  | some a =>
    cases hy : key y with
    | none => unfold cmpF; rw [nan_not hx, nan_of hy]; rfl
    | some b =>
      rw [order_int hx hy]
      show _ = decide (a < b)
      by_cases h : a < b
      · rw [if_pos h, decide_eq_true h]; rfl
      · rw [if_neg h, decide_eq_false h]
        by_cases h2 : b < a
        · rw [if_pos h2]; rfl
        · rw [if_neg h2]; rfl
theorem swo_kz {β : Type} (f : β → Option Int) : SWO (fun x y : β => kz (f x) (f y)) where
  irrefl x := by cases h : f x <;> simp [kz]
  trans x y z h1 h2 := by
    cases hx : f x <;> cases hy : f y <;> cases hz : f z <;> simp_all [kz]
    omega
  ntrans x y z h1 h2 := by
    cases hx : f x <;> cases hy : f y <;> cases hz : f z <;> simp_all [kz]
    omega
theorem ltOf_is (G : Nat → Nat) (k : Nat) : ltOf (fun x y : Fin (k + 1) => cmpF (G x.val) (G y.val)) = fun x y => kz (key (G x.val)) (key (G y.val)) := by
  funext x y
  exact lt_kz _ _
theorem swo_cmp (G : Nat → Nat) (k : Nat) : SWO (ltOf (fun x y : Fin (k + 1) => cmpF (G x.val) (G y.val))) := by
  rw [ltOf_is]
  exact swo_kz fun x : Fin (k + 1) => key (G x.val)
end Go.Proofs.YtfmfikodnpnblaaDoor.RankCmp
/- rate.Rank: the row of places, before and behind the sort. -/
namespace Go.Proofs.YtfmfikodnpnblaaDoor.RankRow
open Go.Shelf Go.RowKit Go.Lib Go.Sort Go.Proofs Go.Proofs.YtfmfikodnpnblaaDoorW.PrintWords Go.Proofs.YtfmfikodnpnblaaDoor.SymMerge Go.Proofs.YtfmfikodnpnblaaDoor.RankCmp
theorem map_get {α β : Type} [Inhabited α] [Inhabited β] (f : α → β) (d : Array α) {j : Nat} (h : j < d.size) : (d.map f)[j]! = f d[j]! := by
  rw [getElem!_pos _ j (by simpa using h), getElem!_pos d j h]
  simp
theorem putRow_pl (k : Nat) (w : World) (g : Nat) (d : Array (Fin (k + 1))) : putRow (RankSwap.en (pl k)) w g 0 d = putRow (Value.int .i64) w g 0 (d.map (pl k)) := by
  unfold putRow
  congr 1
  funext c
  unfold putCells
  congr 1
  funext j x
  rw [Array.size_map]
  by_cases h : 0 ≤ j ∧ j < 0 + d.size
  · rw [if_pos h, if_pos h, map_get (pl k) d (by omega)]
  · rw [if_neg h, if_neg h]
/-- all places, in their order. -/
def places (k : Nat) : Array (Fin (k + 1)) := Array.ofFn fun x => x
theorem places_size (k : Nat) : (places k).size = k + 1 := by simp [places]
theorem places_get (k : Nat) {j : Nat} (h : j < k + 1) : ((places k)[j]!).val = j := by
  rw [getElem!_pos _ j (by simpa [places] using h)]
  simp [places]
theorem places_up (k : Nat) : ∀ u v, u < v → v < k + 1 → ((places k)[u]!).val < ((places k)[v]!).val := fun u v h1 h2 => by
  rw [places_get k (by omega), places_get k h2]; exact h1
theorem places_list (k : Nat) : (places k).toList.map (pl k) = (List.range (k + 1)).map fun j : Nat => (j : Int) := by
  apply List.ext_getElem
  · simp [places]
  · intro j h1 h2
    simp only [List.getElem_map, List.getElem_range, places, Array.toList_ofFn, List.getElem_ofFn]
/-- r are the places 0 .. k in the order of their numbers, of like ones the lesser place first. -/
def RankOf (G : Nat → Nat) (k : Nat) (r : List Int) : Prop :=
  ∃ d : Array (Fin (k + 1)), r = d.toList.map (pl k) ∧ PermIn 0 (k + 1) (places k) d ∧ SortedIn (lx (ltOf (fun x y : Fin (k + 1) => cmpF (G x.val) (G y.val))) (fun x => x.val)) 0 (k + 1) d
theorem sort_row (k g cap Bs lb loff lc : Nat) (w : World) (base : Nat) (G : Nat → Nat) (hown : w.ownsRow base 3 1 (.slice (some ⟨g, 0, none⟩) (k + 1) cap) (k + 1) (((List.range (k + 1)).map fun j : Nat => (j : Int)).map (Value.int .i64)))
    (hBs : Bs < w.heap.size) (hlb : lb < w.heap.size) (hne : Bs ≠ g) (hne2 : lb ≠ g) (hs : w.cell? ⟨Bs, 0, none⟩ = some (.slice (some ⟨lb, loff, none⟩) (k + 1) lc)) (hc : ∀ t, t < k + 1 → w.cell? ⟨lb, loff + t, none⟩ = some (.float .f64 (G t))) (hk : k + 1 ≤ 40) :
    Calls Tryd.prog 50 #[.slice (some ⟨g, 0, none⟩) (k + 1) cap, .func (.func 51) #[] #[.pointer (some ⟨Bs, 0, none⟩)]] w fun e w' => e = .returned (.tuple #[]) ∧ ∃ r, RankOf G k r ∧ w'.ownsRow base 3 1 (.slice (some ⟨g, 0, none⟩) (k + 1) cap) (k + 1) (r.map (Value.int .i64)) ∧ w.grownBy w' (some g) ∧ base ≤ g := by
  rcases hown.2 with ⟨h, _⟩ | ⟨g', cap', cur, hv, hb, hg, h1, h2, h3, h4⟩
  · cases h
  injection hv with hv1 _ hv3
  injection hv1 with hv1
  injection hv1 with hv1
  subst hv1
  subst hv3
  have hgs : g < w.heap.size := (Array.getElem?_eq_some_iff.1 hg).1
  have hH0 := holds_of_blockI (ss := (List.range (k + 1)).map fun j : Nat => (j : Int)) hg (by rw [List.length_map, List.length_range, ← h4, Nat.mul_one])
  have hH : Holds (RankSwap.en (pl k)) w g 0 (places k) := by
    intro j hj
    rw [places_size] at hj
    have := hH0 j (by simpa using hj)
    rw [getElem!_pos _ j (by simpa using hj)] at this
    simp only [List.getElem_toArray, List.getElem_map, List.getElem_range] at this
    show w.cell? _ = some (.int .i64 (((places k)[j]!).val : Int)) ∧ _
    rw [places_get k hj]
    exact this
  have q := RankStable.sortStable (pl k) (fun x y : Fin (k + 1) => cmpF (G x.val) (G y.val)) (fun x => x.val) 51 #[.pointer (some ⟨Bs, 0, none⟩)] g 0 cap (k + 1) (places k) w
    (enters_of Tryd.func51 (by kernel_rfl) rfl) (cmpReads k g 0 Bs lb loff lc w G hBs hlb hgs hne hne2 hs hc).lays (swo_cmp G k) ⟨RankSwap.en_one _, hH, hgs⟩ (places_size k) hk (places_up k)
  refine q.mono ?_
  rintro e w' ⟨rfl, d, p1, p2, n, os, rfl⟩
  refine ⟨rfl, d.toList.map (pl k), ⟨d, rfl, p1, p2⟩, ?_, ?_, hb⟩
  · have e1 : sortWorld (RankSwap.en (pl k)) w g 0 n d os = grow (putRow (Value.int .i64) (Sort.ahead w n) g 0 (d.toList.map (pl k)).toArray) os := by
      unfold sortWorld
      rw [putRow_pl, show d.map (pl k) = (d.toList.map (pl k)).toArray from by rw [← Array.toList_map]]
    rw [e1]
    have hl : (d.toList.map (pl k)).length = k + 1 := by rw [List.length_map, Array.length_toList, p1.1, places_size]
    have := ownsRow_sortedI (base := base) (n := n) (os := os) (ss := List.replicate (k + 1) (0 : Int)) (ts := d.toList.map (pl k)) (by rw [hl, List.length_replicate]) hb hg (by rw [List.length_replicate]; exact h1) h2 h3
    rw [List.length_replicate] at this
    exact this
  · unfold sortWorld
    rw [putRow_pl]
    exact grownBy_sortedI _
end Go.Proofs.YtfmfikodnpnblaaDoor.RankRow

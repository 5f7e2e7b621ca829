/- zipdir's reader: number, walked by hand. -/
import Derived.Test.YtfnicahlnpngkaaExtraNum
import Derived.WalkMore
import Derived.BigQuiet
import Derived.Deep.QuietTactic
import Derived.Deep.Slices
import Derived.StillTailTactics
import Derived.Laws.CopyOwn
set_option linter.unusedVariables false
set_option linter.unusedSimpArgs false
namespace Go.Proofs.Ytfnicahlnpngkaa.ZipRd
open Go.RowKit Go.Proofs.YtfnicahlnpngkaaW.PrintWords Go.Proofs.YtfnicahlnpngkaaW.PrintLast Go.Proofs.YtfnicahlnpngkaaW.PrintMore Go.Proofs.Ytfnicahlnpngkaa.Base Go.Proofs.Ytfnicahlnpngkaa.NumRead Go.Proofs.Ytfnicahlnpngkaa.ExtraNum
/-- the reader's next number: the number, the place behind it, is it wrong. -/
def nx (l : List Int) (at_ : Int) (bad : Bool) (n : Int) : Int × Int × Bool := match bad, exNum l at_ n with
  | false, some v => (v, at_ + n, false)
  | _, _ => (0, at_, true)
def Rd (w : World) (R : Nat) (A : Option Addr) (c : Nat) (l : List Int) (at_ : Int) (bad : Bool) : Prop := w.heap[R]? = some (.cells #[.slice A l.length c, .int .i64 at_, .bool bad] 108 (0, 0))
theorem exNum_in {l : List Int} {a k v : Int} (h : exNum l a k = some v) : 0 ≤ v ∧ v ≤ 4611686018427387904 ∧ 0 ≤ a ∧ 1 ≤ k ∧ k ≤ 8 ∧ a + k ≤ (l.length : Int) := by
  unfold exNum at h
  split at h
  · rename_i hh
    injection h with h
    have := rdNum_range l a k (fun i => k - 1 - i)
    refine ⟨by omega, by omega, ?_⟩
    have h2 := hh.1
    unfold rdNum at h2
    split at h2
    · simp at h2
    · split at h2
      · simp at h2
      · omega
  · cases h
theorem grown_set {a w : World} {g : Nat} (h : a.grownBy w (some g)) (o : Nat) (u : Value) : a.grownBy (w.setCell ⟨g, o, none⟩ u) (some g) :=
  ⟨h.os, h.tape, h.output, by simpa [World.setCell] using h.size, fun i hi hne => (Below.heap_setCell w ⟨g, o, none⟩ u i (by rintro rfl; exact hne rfl)).trans (h.block i hi hne)⟩
set_option maxHeartbeats 4000000 in
set_option maxRecDepth 100000 in
theorem number_ (R : Nat) (A : Option Addr) (c : Nat) (l : List Int) (at_ : Int) (bad : Bool) (n : Int) (w : World) (hR : Rd w R A c l at_ bad) (hC : Kd.C (Kd.int .u8) w A l.length l) (hc : l.length ≤ c) (hl : l.length ≤ 140737488355328) :
    Calls Try.prog 78 #[.pointer (some ⟨R, 0, none⟩), .int .i64 n] w fun e w' => e = .returned (.int .i64 (nx l at_ bad n).1) ∧ Rd w' R A c l (nx l at_ bad n).2.1 (nx l at_ bad n).2.2 ∧ w.grownBy w' (some R) := by
  have hRl : R < w.heap.size := blk_lt hR
  have h0 : w.drew.cell? ⟨R, 0, none⟩ = some (.slice A l.length c) := (blk_cell (w := w.drew) hR 0).trans rfl
  have h1 : w.drew.cell? ⟨R, 1, none⟩ = some (.int .i64 at_) := (blk_cell (w := w.drew) hR 1).trans rfl
  have hcl := num_Little.calls A c l at_ n (rdNum l at_ n (fun i => n - 1 - i)).1 (rdNum l at_ n (fun i => n - 1 - i)).2 w.drew hC hc (by unfold num_Little.f; rw [if_pos hl])
  have hrr := rdNum_range l at_ n (fun i => n - 1 - i)
  have hnx : nx l at_ bad n = nx l at_ bad n := rfl
  generalize he : rdNum l at_ n (fun i => n - 1 - i) = r at hcl hrr
  obtain ⟨v, e⟩ := r
  have HC := Aside0.mk hcl
  have HR := Aside0.mk hR
  have HE := Aside0.mk he
  clear hcl he hR hC hnx
  go_enter Try.func78, Try.ntmps78
  go_wp2
  refine start_ (n := 15) (S := (fun w' => w'.cell? ⟨R, 0, none⟩ = some (.slice A l.length c) ∧ w'.cell? ⟨R, 1, none⟩ = some (.int .i64 at_))) (ds := []) #[false, false, false, false, false, false, false, false, false, false, false, false, false, false, false] (by kernel_rfl) rfl rfl ⟨h0, h1⟩ (fun hHeld => ?_)
  refine pure_ (i := 0) (N := (some 8)) (v := ?_) (a' := ?_) #[true, false, false, false, false, false, false, false, false, false, false, false, false, false, false] rfl rfl (by kernel_rfl) (fun _ _ _ h => h) (Or.inl ⟨by rfl, ?_⟩) ?_ ?_
  rotate_left
  · intro w'
    go_simp
    with_reducible rfl
  rotate_left
  · simp only [Act.put, List.setIfInBounds_toArray, List.set_cons_zero, List.set_cons_succ, i64_w, i32_w]
    rfl
  refine pure_ (i := 1) (N := (some 9)) (v := ?_) (a' := ?_) #[true, true, false, false, false, false, false, false, false, false, false, false, false, false, false] rfl rfl (by kernel_rfl) (fun _ _ _ h => h) (Or.inl ⟨by rfl, ?_⟩) ?_ ?_
  rotate_left
  · intro w'
    go_simp
    with_reducible rfl
  rotate_left
  · simp only [Act.put, List.setIfInBounds_toArray, List.set_cons_zero, List.set_cons_succ, i64_w, i32_w]
    rfl
  refine pure_ (i := 2) (N := (some 10)) (v := ?_) (a' := ?_) #[true, true, true, false, false, false, false, false, false, false, false, false, false, false, false] rfl rfl (by kernel_rfl) (fun _ _ _ h => h) (Or.inl ⟨by rfl, ?_⟩) ?_ ?_
  rotate_left
  · intro w'
    go_simp
    with_reducible rfl
  rotate_left
  · simp only [Act.put, List.setIfInBounds_toArray, List.set_cons_zero, List.set_cons_succ, i64_w, i32_w]
    rfl
  refine pure_ (i := 4) (N := (some 12)) (v := ?_) (a' := ?_) #[true, true, true, false, true, false, false, false, false, false, false, false, false, false, false] rfl rfl (by kernel_rfl) (fun _ _ _ h => h) (Or.inl ⟨by rfl, ?_⟩) ?_ ?_
  rotate_left
  · intro w'
    go_simp
    with_reducible rfl
  rotate_left
  · simp only [Act.put, List.setIfInBounds_toArray, List.set_cons_zero, List.set_cons_succ, i64_w, i32_w]
    rfl
  refine pure_ (i := 5) (N := (some 13)) (v := ?_) (a' := ?_) #[true, true, true, false, true, true, false, false, false, false, false, false, false, false, false] rfl rfl (by kernel_rfl) (fun _ _ _ h => h) (Or.inl ⟨by rfl, ?_⟩) ?_ ?_
  rotate_left
  · intro w'
    go_simp
    with_reducible rfl
  rotate_left
  · simp only [Act.put, List.setIfInBounds_toArray, List.set_cons_zero, List.set_cons_succ, i64_w, i32_w]
    rfl
  refine pure_ (i := 6) (N := (some 14)) (v := ?_) (a' := ?_) #[true, true, true, false, true, true, true, false, false, false, false, false, false, false, false] rfl rfl (by kernel_rfl) (fun _ _ _ h => h) (Or.inl ⟨by rfl, ?_⟩) ?_ ?_
  rotate_left
  · intro w'
    go_simp
    with_reducible rfl
  rotate_left
  · simp only [Act.put, List.setIfInBounds_toArray, List.set_cons_zero, List.set_cons_succ, i64_w, i32_w]
    rfl
  refine pure_ (i := 8) (N := (some 16)) (v := ?_) (a' := ?_) #[true, true, true, false, true, true, true, false, true, false, false, false, false, false, false] rfl rfl (by kernel_rfl) (fun _ _ _ h => h) (Or.inl ⟨by rfl, ?_⟩) ?_ ?_
  rotate_left
  · intro w'
    go_simp
    with_reducible rfl
  rotate_left
  · simp only [Act.put, List.setIfInBounds_toArray, List.set_cons_zero, List.set_cons_succ, i64_w, i32_w]
    rfl
  refine take_ (i := 3) (N := (some 11)) (v := ?_) (a' := ?_) #[true, true, true, true, true, true, true, false, true, false, false, false, false, false, false] rfl rfl (by kernel_rfl) (fun _ _ _ h => h) (Or.inl ⟨by rfl, ?_⟩) hHeld ?_ ?_
  rotate_left
  · intro w' hS'
    obtain ⟨s0, s1⟩ := hS'
    go_simp
    with_reducible rfl
  rotate_left
  · simp only [Act.put, List.setIfInBounds_toArray, List.set_cons_zero, List.set_cons_succ, i64_w, i32_w]
    rfl
  refine take_ (i := 7) (N := (some 15)) (v := ?_) (a' := ?_) #[true, true, true, true, true, true, true, true, true, false, false, false, false, false, false] rfl rfl (by kernel_rfl) (fun _ _ _ h => h) (Or.inl ⟨by rfl, ?_⟩) hHeld ?_ ?_
  rotate_left
  · intro w' hS'
    obtain ⟨s0, s1⟩ := hS'
    go_simp
    with_reducible rfl
  rotate_left
  · simp only [Act.put, List.setIfInBounds_toArray, List.set_cons_zero, List.set_cons_succ, i64_w, i32_w]
    rfl
  refine one_ (i := 9) (N := (some 17)) #[true, true, true, true, true, true, true, true, true, true, false, false, false, false, false] rfl rfl (by kernel_rfl) (by decide) (fun K hK => ?_)
  refine goes_ Try.func35 (by kernel_rfl) rfl #[.slice A l.length c, .int .i64 at_, .int .i64 n] (by rfl) rfl rfl (by simp only [List.map_toArray, List.map_cons, List.map_nil]; rfl) ?_
  with_reducible refine (HC.out.mono ?_)
  rintro e w1 ⟨rfl, hb⟩
  have HB := Aside0.mk hb
  clear hb
  refine ⟨_, rfl, ?_⟩
  refine hK.out _ _ ⟨(HB.out.cell (by exact hRl)).trans hHeld.1, (HB.out.cell (by exact hRl)).trans hHeld.2⟩ (fun hHeld => ?_)
  clear hK K
  refine norm_ (a' := ?_) ?_ ?_
  rotate_left
  · show Act.put _ (some 17) _ = _
    simp only [Act.put, List.setIfInBounds_toArray, List.set_cons_zero, List.set_cons_succ]
    rfl
  refine pure_ (i := 10) (N := (some 7)) (v := ?_) (a' := ?_) #[true, true, true, true, true, true, true, true, true, true, true, false, false, false, false] rfl rfl (by kernel_rfl) (fun _ _ _ h => h) (Or.inl ⟨by rfl, ?_⟩) ?_ ?_
  rotate_left
  · intro w'
    go_simp
    with_reducible rfl
  rotate_left
  · simp only [Act.put, List.setIfInBounds_toArray, List.set_cons_zero, List.set_cons_succ, i64_w, i32_w]
    rfl
  refine pure_ (i := 11) (N := (some 18)) (v := ?_) (a' := ?_) #[true, true, true, true, true, true, true, true, true, true, true, true, false, false, false] rfl rfl (by kernel_rfl) (fun _ _ _ h => h) (Or.inl ⟨by rfl, ?_⟩) ?_ ?_
  rotate_left
  · intro w'
    go_simp
    with_reducible rfl
  rotate_left
  · simp only [Act.put, List.setIfInBounds_toArray, List.set_cons_zero, List.set_cons_succ, i64_w, i32_w]
    rfl
  refine pure_ (i := 12) (N := (some 19)) (v := ?_) (a' := ?_) #[true, true, true, true, true, true, true, true, true, true, true, true, true, false, false] rfl rfl (by kernel_rfl) (fun _ _ _ h => h) (Or.inl ⟨by rfl, ?_⟩) ?_ ?_
  rotate_left
  · intro w'
    go_simp
    with_reducible rfl
  rotate_left
  · simp only [Act.put, List.setIfInBounds_toArray, List.set_cons_zero, List.set_cons_succ, i64_w, i32_w]
    rfl
  refine pure_ (i := 13) (N := (some 5)) (v := ?_) (a' := ?_) #[true, true, true, true, true, true, true, true, true, true, true, true, true, true, false] rfl rfl (by kernel_rfl) (fun _ _ _ h => h) (Or.inl ⟨by rfl, ?_⟩) ?_ ?_
  rotate_left
  · intro w'
    go_simp
    with_reducible rfl
  rotate_left
  · simp only [Act.put, List.setIfInBounds_toArray, List.set_cons_zero, List.set_cons_succ, i64_w, i32_w]
    rfl
  refine pure_ (i := 14) (N := (some 6)) (v := ?_) (a' := ?_) #[true, true, true, true, true, true, true, true, true, true, true, true, true, true, true] rfl rfl (by kernel_rfl) (fun _ _ _ h => h) (Or.inl ⟨by rfl, ?_⟩) ?_ ?_
  rotate_left
  · intro w'
    go_simp
    with_reducible rfl
  rotate_left
  · simp only [Act.put, List.setIfInBounds_toArray, List.set_cons_zero, List.set_cons_succ, i64_w, i32_w]
    rfl
  refine done_ (by kernel_rfl) ?_
  have hb1 : Below w.heap.size w w1 := ⟨HB.out.os, HB.out.tape, HB.out.output, HB.out.size, HB.out.block⟩
  have hR1 : w1.heap[R]? = some (.cells #[.slice A l.length c, .int .i64 at_, .bool bad] 108 (0, 0)) := blk_below HR.out hb1
  have g0 : w1.cell? ⟨R, 0, none⟩ = some (.slice A l.length c) := (blk_cell hR1 0).trans rfl
  have g1 : w1.cell? ⟨R, 1, none⟩ = some (.int .i64 at_) := (blk_cell hR1 1).trans rfl
  have g2 : w1.cell? ⟨R, 2, none⟩ = some (.bool bad) := (blk_cell hR1 2).trans rfl
  have f1 : w1.frozen? ⟨R, 1, none⟩ = false := blk_frozen hR1 1
  have f2 : w1.frozen? ⟨R, 2, none⟩ = false := blk_frozen hR1 2
  have hgr : w.grownBy w1 (some R) := ⟨hb1.os, hb1.tape, hb1.output, hb1.size, fun k hk _ => hb1.block k hk⟩
  have hR2 := Aside0.mk hR1
  by_cases hok : e = 0 ∧ v ≤ 4611686018427387904
  · obtain ⟨rfl, hv⟩ := hok
    have hex : exNum l at_ n = some v := by unfold exNum; rw [HE.out, if_pos ⟨rfl, hv⟩]
    have hin := exNum_in hex
    have b1 : decide (4611686018427387904 < v) = false := decide_eq_false (by omega)
    cases bad with
    | true =>
      have hnx : nx l at_ true n = (0, at_, true) := rfl
      have HN := Aside0.mk hnx
      clear hnx hex hR1
      go_wp2
      go_ret
      rw [HN.out]
      exact ⟨rfl, hR2.out, hgr⟩
    | false =>
      have hnx : nx l at_ false n = (v, at_ + n, false) := by unfold nx; rw [hex]
      have HN := Aside0.mk hnx
      have hw1 : IntKind.i64.wrap (at_ + n) = at_ + n := by rw [wi64]; exact wrap64_id (by omega) (by omega)
      have hw2 : wrap64 v = v := wrap64_id (by omega) (by omega)
      have HW := Aside0.mk hw2
      clear hnx hex hR1 hw2
      go_wp2
      go_ret
      rw [HN.out]
      refine ⟨by first | rfl | rw [HW.out], ?_, grown_set hgr _ _⟩
      exact (blk_set hR2.out 1 _).trans rfl
  · have hex : exNum l at_ n = none := by unfold exNum; rw [HE.out, if_neg hok]
    have hnx : nx l at_ bad n = (0, at_, true) := by unfold nx; rw [hex]; cases bad <;> rfl
    have HN := Aside0.mk hnx
    have hS : (w1.setCell ⟨R, 2, none⟩ (.bool true)).heap[R]? = some (.cells #[.slice A l.length c, .int .i64 at_, .bool true] 108 (0, 0)) := (blk_set hR2.out 2 _).trans rfl
    have HS := Aside0.mk hS
    have hcs : (w1.setCell ⟨R, 2, none⟩ (.bool true)).cell? ⟨R, 2, none⟩ = some (.bool true) := (blk_cell hS 2).trans rfl
    by_cases he0 : e = 0
    · subst he0
      have b1 : decide (4611686018427387904 < v) = true := decide_eq_true (by have h : ¬ v ≤ 4611686018427387904 := fun h => hok ⟨rfl, h⟩; omega)
      clear hnx hex hR1 hS hok
      go_wp2
      go_ret
      rw [HN.out]
      exact ⟨rfl, HS.out, grown_set hgr _ _⟩
    · have b1 : (e != 0) = true := bne_iff_ne.2 he0
      clear hnx hex hR1 hS hok he0
      go_wp2
      go_ret
      rw [HN.out]
      exact ⟨rfl, HS.out, grown_set hgr _ _⟩
end Go.Proofs.Ytfnicahlnpngkaa.ZipRd
/- zipdir's reader: numbers, walked by hand. -/
namespace Go.Proofs.Ytfnicahlnpngkaa.ZipNums
open Go.RowKit Go.Proofs.YtfnicahlnpngkaaW.PrintWords Go.Proofs.YtfnicahlnpngkaaW.PrintLast Go.Proofs.YtfnicahlnpngkaaW.PrintMore Go.Proofs.Ytfnicahlnpngkaa.Base Go.Proofs.Ytfnicahlnpngkaa.NumRead Go.Proofs.Ytfnicahlnpngkaa.ExtraNum Go.Proofs.Ytfnicahlnpngkaa.ZipRd
def nxi (l : List Int) (at_ : Int) (bad : Bool) (n : Int) : Nat → List Int × Int × Bool
  | 0 => ([], at_, bad)
  | i + 1 => ((nxi l at_ bad n i).1 ++ [(nx l (nxi l at_ bad n i).2.1 (nxi l at_ bad n i).2.2 n).1], (nx l (nxi l at_ bad n i).2.1 (nxi l at_ bad n i).2.2 n).2.1, (nx l (nxi l at_ bad n i).2.1 (nxi l at_ bad n i).2.2 n).2.2)
theorem nxi_len (l : List Int) (at_ : Int) (bad : Bool) (n : Int) : ∀ i, (nxi l at_ bad n i).1.length = i
  | 0 => rfl
  | i + 1 => by rw [nxi, List.length_append, nxi_len l at_ bad n i]; rfl
/-- numbers stored, one behind the other. -/
def poke : List (Addr × Int) → World → World
  | [], w => w
  | (p, v) :: r, w => poke r (w.setCell p (.int .i64 v))
theorem poke_app : ∀ (x y : List (Addr × Int)) (w : World), poke (x ++ y) w = poke y (poke x w)
  | [], _, _ => rfl
  | (p, v) :: r, y, w => by rw [List.cons_append, poke, poke, poke_app r y]
theorem set_heap {w1 w2 : World} {g : Nat} (h : w1.heap[g]? = w2.heap[g]?) (p : Addr) (u : Value) : (w1.setCell p u).heap[g]? = (w2.setCell p u).heap[g]? := by
  simp only [World.setCell, Array.getElem?_modify, h]
theorem poke_far : ∀ (x : List (Addr × Int)) (w : World) (g : Nat), (∀ q ∈ x, q.1.block ≠ g) → (poke x w).heap[g]? = w.heap[g]?
  | [], _, _, _ => rfl
  | (p, v) :: r, w, g, h => by
    rw [poke, poke_far r _ g (fun q hq => h q (List.mem_cons_of_mem _ hq))]
    exact Below.heap_setCell w p _ g (fun e => h (p, v) (List.mem_cons_self) e.symm)
theorem set_blk {w : World} {b : Nat} {cs : Array Value} {t : TypeId} (h : w.heap[b]? = some (.cells cs t (0, 0))) (p : Addr) (u : Value) : ∃ cs', (w.setCell p u).heap[b]? = some (.cells cs' t (0, 0)) ∧ cs'.size = cs.size := by
  by_cases e : b = p.block
  · subst e
    cases hs : p.spot with
    | none => exact ⟨cs.setIfInBounds p.off u, by simp [World.setCell, Array.getElem?_modify, h, hs], by simp⟩
    | some x => exact ⟨cs, by simp [World.setCell, Array.getElem?_modify, h, hs], rfl⟩
  · exact ⟨cs, (Below.heap_setCell w p u b e).trans h, rfl⟩
theorem poke_blk : ∀ (x : List (Addr × Int)) (w : World) (b : Nat) (cs : Array Value) (t : TypeId), w.heap[b]? = some (.cells cs t (0, 0)) → ∃ cs', (poke x w).heap[b]? = some (.cells cs' t (0, 0)) ∧ cs'.size = cs.size
  | [], _, _, cs, _, h => ⟨cs, h, rfl⟩
  | (p, v) :: r, w, b, cs, t, h => by
    obtain ⟨c1, h1, e1⟩ := set_blk h p (.int .i64 v)
    obtain ⟨c2, h2, e2⟩ := poke_blk r _ b c1 t h1
    exact ⟨c2, h2, e2.trans e1⟩
theorem below_of {w0 wr w' : World} {g : Nat} (hb : Below w0.heap.size w0 wr) (hg : wr.grownBy w' (some g)) (h : w0.heap.size ≤ g) : Below w0.heap.size w0 w' :=
  ⟨hg.os.trans hb.os, hg.tape.trans hb.tape, hg.output.trans hb.output, Nat.le_trans hb.size hg.size, fun k hk => (hg.block k (Nat.lt_of_lt_of_le hk hb.size) (by intro e; injection e with e; omega)).trans (hb.block k hk)⟩
/-- what is behind: the numbers stored in their places, the reader's block aside. -/
structure Nums (w0 w w' : World) (R : Nat) (A : Option Addr) (c : Nat) (l : List Int) (ps : List Addr) (st : List Int × Int × Bool) : Prop where
  rd : Rd w' R A c l st.2.1 st.2.2
  sz : w.heap.size ≤ w'.heap.size
  low : Below w0.heap.size w0 w'
  all : ∀ g, g < w.heap.size → g ≠ R → w'.heap[g]? = (poke (ps.zip st.1) w).heap[g]?
theorem zip_snoc (ps : List Addr) (vs : List Int) (i : Nat) (v : Int) (hi : i < ps.length) (hv : vs.length = i) : (ps.take (i + 1)).zip (vs ++ [v]) = (ps.take i).zip vs ++ [(ps[i], v)] := by
  rw [List.take_succ_eq_append_getElem hi, List.zip_append (by rw [List.length_take, hv]; omega)]
  rfl
def Good (w0 w : World) (R tb : Nat) (ps : List Addr) : Prop := ∀ p ∈ ps, w0.heap.size ≤ p.block ∧ p.block ≠ R ∧ p.block ≠ tb ∧ p.spot = none ∧ ∃ cs t, w.heap[p.block]? = some (.cells cs t (0, 0)) ∧ p.off < cs.size
set_option maxHeartbeats 4000000 in
set_option maxRecDepth 100000 in
theorem numbers_ (w0 : World) (R : Nat) (A : Option Addr) (c : Nat) (l : List Int) (at_ : Int) (bad : Bool) (n : Int) (ps : List Addr) (tb tc : Nat) (w : World) (hR : Rd w R A c l at_ bad) (hC : Kd.C (Kd.int .u8) w0 A l.length l) (hc : l.length ≤ c) (hl : l.length ≤ 140737488355328)
    (hB : Below w0.heap.size w0 w) (h0 : w0.heap.size ≤ R) (ht : w.heap[tb]? = some (.cells (ps.map fun p => Value.pointer (some p)).toArray 110 (0, 0))) (htR : tb ≠ R) (hps : Good w0 w R tb ps) (hm : ps.length ≤ 1000) :
    Calls Try.prog 67 #[.pointer (some ⟨R, 0, none⟩), .int .i64 n, .slice (some ⟨tb, 0, none⟩) ps.length tc] w fun e w' => e = .returned (.tuple #[]) ∧ Nums w0 w w' R A c l ps (nxi l at_ bad n ps.length) := by
  have hN0 : Nums w0 w w R A c l (ps.take 0) (nxi l at_ bad n 0) := ⟨hR, Nat.le_refl _, hB, fun g _ _ => rfl⟩
  have HN0 := Aside0.mk hN0
  have HT := Aside0.mk ht
  have HP := Aside0.mk hps
  have HTL := Aside0.mk (blk_lt ht)
  have HRL := Aside0.mk (blk_lt hR)
  clear hN0 ht hps hR
  go_enter Try.func67, Try.ntmps67
  go_wp2
  go_loopg [10] (ps.length + 1) (fun kq v10 wr => ∃ i : Nat, v10 = .int .i64 (i : Int) ∧ Aside0 (i ≤ ps.length ∧ ps.length + 1 ≤ kq + i) ∧ Aside0 (Nums w0 w wr R A c l (ps.take i) (nxi l at_ bad n i)))
  case atStart => exact ⟨0, rfl, ⟨by omega, by omega⟩, HN0⟩
  case round =>
    clear HN0
    obtain ⟨i, rfl, HX, HN⟩ := hrel
    by_cases hlt : i < ps.length
    · have hz : (i : Int) < (ps.length : Int) := by omega
      have n0 : 0 ≤ (i : Int) := by omega
      obtain ⟨q1, q2, q3, q4, cs, t, q5, q6⟩ := HP.out ps[i] (List.getElem_mem hlt)
      have hvl := nxi_len l at_ bad n i
      have hfar : ∀ q ∈ (ps.take i).zip (nxi l at_ bad n i).1, q.1.block ≠ tb := fun q hq => by
        obtain ⟨a, b⟩ := q
        exact (HP.out a (List.mem_of_mem_take (List.of_mem_zip hq).1)).2.2.1
      have htb : wr.heap[tb]? = some (.cells (ps.map fun p => Value.pointer (some p)).toArray 110 (0, 0)) := by rw [HN.out.all tb HTL.out htR, poke_far _ _ _ hfar]; exact HT.out
      have hc1 : wr.cell? ⟨tb, i, none⟩ = some (.pointer (some ps[i])) := by rw [blk_cell htb]; simp [hlt]
      have CN := Aside0.mk (number_ R A c l (nxi l at_ bad n i).2.1 (nxi l at_ bad n i).2.2 n wr HN.out.rd (Kd.C_below hC HN.out.low) hc hl)
      obtain ⟨p, hp⟩ : ∃ p, ps[i] = p := ⟨_, rfl⟩
      rw [hp] at q1 q2 q3 q4 q5 q6 hc1
      obtain ⟨pb, po, sp⟩ := p
      obtain rfl : sp = none := q4
      obtain ⟨st, hst⟩ : ∃ st, nx l (nxi l at_ bad n i).2.1 (nxi l at_ bad n i).2.2 n = st := ⟨_, rfl⟩
      rw [hst] at CN
      have HST := Aside0.mk hst
      have HPP := Aside0.mk hp
      have hpb : pb < w.heap.size := blk_lt q5
      have CK : Aside0 (∀ w1, wr.grownBy w1 (some R) → (∃ u, w1.cell? ⟨pb, po, none⟩ = some u) ∧ w1.frozen? ⟨pb, po, none⟩ = false) := ⟨fun w1 hg => by
        obtain ⟨cs', hk, hs⟩ := poke_blk ((ps.take i).zip (nxi l at_ bad n i).1) w pb cs t q5
        have e1 : wr.heap[pb]? = some (.cells cs' t (0, 0)) := (HN.out.all pb hpb q2).trans hk
        have e2 : w1.heap[pb]? = some (.cells cs' t (0, 0)) := (hg.block pb (Nat.lt_of_lt_of_le hpb HN.out.sz) (by intro e; injection e with e; exact q2 e)).trans e1
        refine ⟨⟨cs'[po]'(by rw [hs]; exact q6), ?_⟩, blk_frozen e2 _⟩
        rw [blk_cell e2]; exact Array.getElem?_eq_getElem _⟩
      clear hst hp hvl hfar htb
      go_wp2_with (go_at_call 78; (with_reducible refine (CN.out).mono ?_); rintro e w1 ⟨rfl, hrd, hg⟩; obtain ⟨⟨u_, k1⟩, k2⟩ := CK.out w1 hg; have HRD := Aside0.mk hrd; have HG := Aside0.mk hg; clear hrd hg)
      go_roundg (gk - 1)
      case measure => have := HX.out; omega
      case rel =>
        refine ⟨i + 1, by go_num, ⟨by omega, by have := HX.out; omega⟩, ⟨⟨?_, ?_, ?_, fun g hg hgR => ?_⟩⟩⟩
        · rw [nxi, HST.out]
          exact (Below.heap_setCell _ _ _ _ (fun e => q2 e.symm)).trans HRD.out
        · exact Nat.le_trans HN.out.sz (Nat.le_trans HG.out.size (by simp [World.setCell]))
        · exact (below_of HN.out.low HG.out h0).setCell q1 _
        · rw [nxi]
          simp only
          rw [zip_snoc ps _ i _ hlt (nxi_len l at_ bad n i), poke_app, HPP.out, HST.out]
          refine set_heap ?_ _ _
          exact (HG.out.block g (Nat.lt_of_lt_of_le hg HN.out.sz) (by intro e; injection e with e; exact hgR e)).trans (HN.out.all g hg hgR)
    · have hz : ¬ (i : Int) < (ps.length : Int) := by omega
      have hi : i = ps.length := by have := HX.out; omega
      subst hi
      rw [List.take_length] at HN
      go_wp2
      go_end0
      exact ⟨rfl, HN.out⟩
end Go.Proofs.Ytfnicahlnpngkaa.ZipNums
/- zipdir's reader: text, walked by hand. -/
namespace Go.Proofs.Ytfnicahlnpngkaa.ZipText
open Go.RowKit Go.Proofs.YtfnicahlnpngkaaW.PrintWords Go.Proofs.YtfnicahlnpngkaaW.PrintLast Go.Proofs.YtfnicahlnpngkaaW.PrintMore Go.Proofs.Ytfnicahlnpngkaa.Base Go.Proofs.Ytfnicahlnpngkaa.NumRead Go.Proofs.Ytfnicahlnpngkaa.ExtraNum Go.Proofs.Ytfnicahlnpngkaa.ZipRd Go.Proofs.Ytfnicahlnpngkaa.ZipNums
def tx (l : List Int) (at_ : Int) (bad : Bool) (n : Int) : ByteArray × Int × Bool := if bad = true ∨ (l.length : Int) - at_ < n then (⟨#[]⟩, at_, true) else (strOfNums ((l.drop at_.toNat).take n.toNat), at_ + n, false)
def dropAt (A : Option Addr) (cp k : Nat) : Option Addr := if cp = k then A else A.map fun x => x.add k
theorem info5 : (Try.prog.info? 5).map (·.size) = some 1 := by kernel_rfl
set_option maxRecDepth 100000 in
theorem sl_mid {A : Option Addr} {n cp a b : Nat} (h1 : a ≤ b) (h2 : b ≤ cp) : ∀ W, (Instr.slice 58 (.slice A n cp) (some (.int .i64 (a : Int))) (some (.int .i64 (b : Int))) none).run Try.prog W = .ok (.slice (dropAt A cp a) (b - a) (cp - a)) W := fun W => by
  have h := run_slice_lh (P := Try.prog) W 58 A n cp Try.underlying58 .i64 .i64 (a : Int) (b : Int) (by omega) (by omega) (by omega)
  rw [h]
  obtain ⟨i, hi, hz⟩ := Option.map_eq_some_iff.1 info5
  simp [sliced, sizeOf, typeInfo, hi, hz, show Try.prog.elem 58 = 5 from by kernel_rfl, dropAt, go_sem]
theorem C_mid {w : World} {A : Option Addr} {l : List Int} {cp a k : Nat} (h : Kd.C (Kd.int .u8) w A l.length l) (hk : a + k ≤ l.length) (hc : l.length ≤ cp) : Kd.C (Kd.int .u8) w (dropAt A cp a) k ((l.drop a).take k) := by
  have hr : ReadsOf (Value.int .u8) (0 : Int) w A l.length l := Kd.reads_of_C (h1 := fun _ => rfl) h
  refine Kd.C_of_reads (d := (0 : Int)) (h1 := fun _ => rfl) ⟨by rw [List.length_take, List.length_drop]; omega, by have := hr.2.1; omega, fun h0 => ?_⟩
  obtain ⟨ad, e, hcc⟩ := hr.2.2 (by omega)
  refine ⟨ad.add a, ?_, fun j hj => ?_⟩
  · unfold dropAt; rw [if_neg (by omega), e]; rfl
  · rw [Go.Deep.add_add, hcc (a + j) (by omega)]
    congr 2
    rw [List.getD_eq_getElem?_getD, List.getD_eq_getElem?_getD, List.getElem?_take_of_lt hj, List.getElem?_drop]
set_option maxHeartbeats 4000000 in
set_option maxRecDepth 100000 in
theorem text_ (R : Nat) (A : Option Addr) (c : Nat) (l : List Int) (at_ : Int) (bad : Bool) (n : Int) (w : World) (hR : Rd w R A c l at_ bad) (hC : Kd.C (Kd.int .u8) w A l.length l) (hc : l.length ≤ c) (hl : l.length ≤ 140737488355328) (ha : bad = false → 0 ≤ at_ ∧ at_ ≤ (l.length : Int)) (hn : 0 ≤ n) (hn2 : n ≤ 4611686018427387904) :
    Calls Try.prog 75 #[.pointer (some ⟨R, 0, none⟩), .int .i64 n] w fun e w' => e = .returned (.string (tx l at_ bad n).1) ∧ Rd w' R A c l (tx l at_ bad n).2.1 (tx l at_ bad n).2.2 ∧ w.grownBy w' (some R) := by
  have hRl : R < w.heap.size := blk_lt hR
  have h0 : w.cell? ⟨R, 0, none⟩ = some (.slice A l.length c) := (blk_cell hR 0).trans rfl
  have h1 : w.cell? ⟨R, 1, none⟩ = some (.int .i64 at_) := (blk_cell hR 1).trans rfl
  have h2 : w.cell? ⟨R, 2, none⟩ = some (.bool bad) := (blk_cell hR 2).trans rfl
  have f1 : w.frozen? ⟨R, 1, none⟩ = false := blk_frozen hR 1
  have f2 : w.frozen? ⟨R, 2, none⟩ = false := blk_frozen hR 2
  have hgr : ∀ m, w.grownBy (w.drewN m) (some R) := fun m => ⟨rfl, rfl, rfl, Nat.le_refl _, fun _ _ _ => rfl⟩
  have HR := Aside0.mk hR
  have HG := Aside0.mk hgr
  clear hR hgr
  cases bad with
  | true =>
    have hx : tx l at_ true n = (⟨#[]⟩, at_, true) := by unfold tx; rw [if_pos (.inl rfl)]
    have HX := Aside0.mk hx
    clear hx ha
    go_enter Try.func75, Try.ntmps75
    go_wp2
    go_quiet (fail)
    go_wp2
    go_ret
    rw [HX.out]
    exact ⟨rfl, (blk_set (w := w.drewN nq) HR.out 2 _).trans rfl, grown_set (HG.out nq) _ _⟩
  | false =>
    obtain ⟨a0, a1⟩ := ha rfl
    by_cases hlt : (l.length : Int) - at_ < n
    · have hx : tx l at_ false n = (⟨#[]⟩, at_, true) := by unfold tx; rw [if_pos (.inr hlt)]
      have HX := Aside0.mk hx
      clear hx ha
      go_enter Try.func75, Try.ntmps75
      go_wp2
      go_quiet (fail)
      go_wp2
      go_ret
      rw [HX.out]
      exact ⟨rfl, (blk_set (w := w.drewN nq) HR.out 2 _).trans rfl, grown_set (HG.out nq) _ _⟩
    · have hx : tx l at_ false n = (strOfNums ((l.drop at_.toNat).take n.toNat), at_ + n, false) := by unfold tx; rw [if_neg (by simp; omega)]
      have HX := Aside0.mk hx
      have hle : at_ + n ≤ (l.length : Int) := by omega
      have hw : IntKind.i64.wrap (at_ + n) = at_ + n := by rw [wi64]; exact wrap64_id (by omega) (by omega)
      have hsl : ∀ W, (Instr.slice 58 (.slice A l.length c) (some (.int .i64 at_)) (some (.int .i64 (at_ + n))) none).run Try.prog W = .ok (.slice (dropAt A c at_.toNat) n.toNat (c - at_.toNat)) W := fun W => by
        have := sl_mid (A := A) (n := l.length) (cp := c) (a := at_.toNat) (b := (at_ + n).toNat) (by omega) (by omega) W
        rw [Int.toNat_of_nonneg a0, Int.toNat_of_nonneg (by omega), show (at_ + n).toNat - at_.toNat = n.toNat by omega] at this
        exact this
      have hcv : ∀ m, (convert 58 9 (.slice (dropAt A c at_.toNat) n.toNat (c - at_.toNat))).run Try.prog (w.drewN m) = .ok (.string (strOfNums ((l.drop at_.toNat).take n.toNat))) (w.drewN m) := fun m =>
        Kd.C_string Try.underlying58 Try.underlying5 Try.underlying9 (C_mid (Kd.C_drewN hC m) (by omega) hc)
      generalize strOfNums ((l.drop at_.toNat).take n.toNat) = S at hcv HX
      have HS := Aside0.mk (fun nq => (blk_set (w := w.drewN nq) HR.out 1 (.int .i64 (at_ + n))).trans rfl)
      clear hx ha
      go_enter Try.func75, Try.ntmps75
      go_wp2
      go_quiet (fail)
      go_wp2
      go_quiet (fail)
      go_wp2
      go_ret
      rw [HX.out]
      exact ⟨rfl, HS.out _, grown_set (HG.out _) _ _⟩
end Go.Proofs.Ytfnicahlnpngkaa.ZipText
/- zipdir's reader: common, walked by hand. -/
namespace Go.Proofs.Ytfnicahlnpngkaa.ZipCom
open Go.RowKit Go.Proofs.YtfnicahlnpngkaaW.PrintWords Go.Proofs.YtfnicahlnpngkaaW.PrintLast Go.Proofs.YtfnicahlnpngkaaW.PrintMore Go.Proofs.Ytfnicahlnpngkaa.Base Go.Proofs.Ytfnicahlnpngkaa.NumRead Go.Proofs.Ytfnicahlnpngkaa.ExtraNum Go.Proofs.Ytfnicahlnpngkaa.ZipRd Go.Proofs.Ytfnicahlnpngkaa.ZipNums Go.Proofs.Ytfnicahlnpngkaa.ZipText
def s1 (l : List Int) (at_ : Int) (bad : Bool) := nxi l at_ bad 2 5
def s2 (l : List Int) (at_ : Int) (bad : Bool) := nxi l (s1 l at_ bad).2.1 (s1 l at_ bad).2.2 4 3
def s3 (l : List Int) (at_ : Int) (bad : Bool) := nxi l (s2 l at_ bad).2.1 (s2 l at_ bad).2.2 2 2
theorem five {vs : List Int} (h : vs.length = 5) : ∃ a b c d e, vs = [a, b, c, d, e] := by
  match vs, h with
  | [a, b, c, d, e], _ => exact ⟨a, b, c, d, e, rfl⟩
theorem three {vs : List Int} (h : vs.length = 3) : ∃ a b c, vs = [a, b, c] := by
  match vs, h with
  | [a, b, c], _ => exact ⟨a, b, c, rfl⟩
theorem two {vs : List Int} (h : vs.length = 2) : ∃ a b, vs = [a, b] := by
  match vs, h with
  | [a, b], _ => exact ⟨a, b, rfl⟩
/-- a block of one number, poked or not. -/
theorem poke1 {w : World} {g : Nat} {v x : Int} {t : TypeId} (h : w.heap[g]? = some (.cells #[.int .i64 v] t (0, 0))) : (w.setCell ⟨g, 0, none⟩ (.int .i64 x)).heap[g]? = some (.cells #[.int .i64 x] t (0, 0)) := (blk_set h 0 _).trans rfl
theorem allocs5 (w : World) (o : Obj) : ∃ Wa, ((((w.alloc o).alloc o).alloc o).alloc o).alloc o = Wa ∧ Wa.heap.size = w.heap.size + 5 ∧ Below w.heap.size w Wa ∧ ∀ i, i < 5 → Wa.heap[w.heap.size + i]? = some o := by
  refine ⟨_, rfl, by simp, ?_, fun i hi => ?_⟩
  · exact below_alloc (below_alloc (below_alloc (below_alloc (below_alloc (Below.refl _ _) _) _) _) _) _
  · match i, hi with
    | 0, _ => exact blk_alloc (blk_alloc (blk_alloc (blk_alloc (blk_new w o) _) _) _) _
    | 1, _ => exact blk_alloc (blk_alloc (blk_alloc (by simpa using blk_new (w.alloc o) o) _) _) _
    | 2, _ => exact blk_alloc (blk_alloc (by simpa using blk_new ((w.alloc o).alloc o) o) _) _
    | 3, _ => exact blk_alloc (by simpa using blk_new (((w.alloc o).alloc o).alloc o) o) _
    | 4, _ => simpa using blk_new ((((w.alloc o).alloc o).alloc o).alloc o) o
theorem Nums.far {w0 w w' : World} {R : Nat} {A : Option Addr} {c : Nat} {l : List Int} {ps : List Addr} {st : List Int × Int × Bool} (h : Nums w0 w w' R A c l ps st) {g : Nat} {o : Obj} (hg : w.heap[g]? = some o) (hR : g ≠ R) (hp : ∀ p ∈ ps, p.block ≠ g) : w'.heap[g]? = some o := by
  rw [h.all g (blk_lt hg) hR, poke_far _ _ _ (fun q hq => by obtain ⟨a, b⟩ := q; exact hp a (List.of_mem_zip hq).1)]
  exact hg
def dateOf (d t : Int) : Int := bits .or .i64 (wrap64 (d * 65536)) t
/-- what is behind: the three rows of numbers, the reader, the member's cells, all else. -/
def ComPost (w0 : World) (R M : Nat) (A : Option Addr) (c : Nat) (l : List Int) (at_ : Int) (bad : Bool) (w : World) (m0 m8 m9 m10 m11 m12 : Value) (e : Ending) (w' : World) : Prop :=
  ∃ a1 a2 a3 a4 a5 b1 b2 b3 c1 c2, (s1 l at_ bad).1 = [a1, a2, a3, a4, a5] ∧ (s2 l at_ bad).1 = [b1, b2, b3] ∧ (s3 l at_ bad).1 = [c1, c2] ∧ e = .returned (.tuple #[.int .i64 c1, .int .i64 c2]) ∧ Rd w' R A c l (s3 l at_ bad).2.1 (s3 l at_ bad).2.2 ∧
    w'.heap[M]? = some (.cells #[m0, .int .i64 a1, .int .i64 a2, .int .i64 a3, .int .i64 (dateOf a5 a4), .int .u32 (b1 % 4294967296), .int .i64 b2, .int .i64 b3, m8, m9, m10, m11, m12] 78 (0, 0)) ∧ Below w0.heap.size w0 w' ∧ w.heap.size ≤ w'.heap.size ∧
    ∀ g, g < w.heap.size → g ≠ R → g ≠ M → w'.heap[g]? = w.heap[g]?
set_option maxHeartbeats 8000000 in
set_option maxRecDepth 100000 in
theorem common_ (w0 : World) (R M : Nat) (A : Option Addr) (c : Nat) (l : List Int) (at_ : Int) (bad : Bool) (w : World) (m0 m1 m2 m3 m4 m5 m6 m7 m8 m9 m10 m11 m12 : Value) (hR : Rd w R A c l at_ bad) (hC : Kd.C (Kd.int .u8) w0 A l.length l) (hc : l.length ≤ c) (hl : l.length ≤ 140737488355328)
    (hB : Below w0.heap.size w0 w) (h0 : w0.heap.size ≤ R) (h0M : w0.heap.size ≤ M) (hRM : R ≠ M) (hM : w.heap[M]? = some (.cells #[m0, m1, m2, m3, m4, m5, m6, m7, m8, m9, m10, m11, m12] 78 (0, 0))) :
    Calls Try.prog 74 #[.pointer (some ⟨R, 0, none⟩), .pointer (some ⟨M, 0, none⟩)] w fun e w' => ComPost w0 R M A c l at_ bad w m0 m8 m9 m10 m11 m12 e w' := by
  have hRl := blk_lt hR
  have hMl := blk_lt hM
  have hBs := hB.size
  obtain ⟨Wa, hWa, hsz, hbW, hnew⟩ := allocs5 w (.cells #[.int .i64 0] 3)
  have hRa : Rd Wa R A c l at_ bad := blk_below hR hbW
  have hMa := blk_below hM hbW
  have hBa : Below w0.heap.size w0 Wa := below_then hB hB.size hbW
  have hC1 : Calls Try.prog 67 #[.pointer (some ⟨R, 0, none⟩), .int .i64 2, .slice (some ⟨Wa.heap.size, 0, none⟩) 5 5] ((Wa.alloc (.cells #[.pointer (some ⟨M, 1, none⟩), .pointer (some ⟨M, 2, none⟩), .pointer (some ⟨M, 3, none⟩), .pointer (some ⟨w.heap.size, 0, none⟩), .pointer (some ⟨w.heap.size + 1, 0, none⟩)] 110)).drew) fun e w' => e = .returned (.tuple #[]) ∧ Nums w0 ((Wa.alloc (.cells #[.pointer (some ⟨M, 1, none⟩), .pointer (some ⟨M, 2, none⟩), .pointer (some ⟨M, 3, none⟩), .pointer (some ⟨w.heap.size, 0, none⟩), .pointer (some ⟨w.heap.size + 1, 0, none⟩)] 110)).drew) w' R A c l [⟨M, 1, none⟩, ⟨M, 2, none⟩, ⟨M, 3, none⟩, ⟨w.heap.size, 0, none⟩, ⟨w.heap.size + 1, 0, none⟩] (s1 l at_ bad) :=
    numbers_ w0 R A c l at_ bad 2 [⟨M, 1, none⟩, ⟨M, 2, none⟩, ⟨M, 3, none⟩, ⟨w.heap.size, 0, none⟩, ⟨w.heap.size + 1, 0, none⟩] Wa.heap.size 5 ((Wa.alloc (.cells #[.pointer (some ⟨M, 1, none⟩), .pointer (some ⟨M, 2, none⟩), .pointer (some ⟨M, 3, none⟩), .pointer (some ⟨w.heap.size, 0, none⟩), .pointer (some ⟨w.heap.size + 1, 0, none⟩)] 110)).drew) (blk_drew (blk_alloc hRa _)) hC hc hl (below_drew (below_alloc hBa _)) h0 (blk_drew (blk_new Wa _)) (by omega) (by
      intro p hp
      have k0 := hnew 0 (by omega)
      have k1 := hnew 1 (by omega)
      have hm : ∃ cs t, (((Wa.alloc (.cells #[.pointer (some ⟨M, 1, none⟩), .pointer (some ⟨M, 2, none⟩), .pointer (some ⟨M, 3, none⟩), .pointer (some ⟨w.heap.size, 0, none⟩), .pointer (some ⟨w.heap.size + 1, 0, none⟩)] 110)).drew)).heap[M]? = some (.cells cs t (0, 0)) ∧ 3 < cs.size := ⟨_, _, blk_drew (blk_alloc hMa _), by simp⟩
      obtain ⟨cs, t, hm1, hm2⟩ := hm
      simp only [List.mem_cons, List.not_mem_nil, or_false] at hp
      rcases hp with rfl | rfl | rfl | rfl | rfl
      · exact ⟨h0M, by show M ≠ R; omega, by show M ≠ _; omega, rfl, cs, t, hm1, by show 1 < _; omega⟩
      · exact ⟨h0M, by show M ≠ R; omega, by show M ≠ _; omega, rfl, cs, t, hm1, by show 2 < _; omega⟩
      · exact ⟨h0M, by show M ≠ R; omega, by show M ≠ _; omega, rfl, cs, t, hm1, by show 3 < _; omega⟩
      · exact ⟨hBs, by show w.heap.size ≠ R; omega, by show w.heap.size ≠ _; omega, rfl, _, _, blk_drew (blk_alloc k0 _), by simp⟩
      · exact ⟨by show _ ≤ w.heap.size + 1; omega, by show w.heap.size + 1 ≠ R; omega, by show w.heap.size + 1 ≠ _; omega, rfl, _, _, blk_drew (blk_alloc k1 _), by simp⟩) (by simp)
  have C1 := Aside0.mk hC1
  have HM := Aside0.mk hMa
  have HN := Aside0.mk hnew
  have HS := Aside0.mk hsz
  have HBW := Aside0.mk hbW
  have HWA := Aside0.mk hWa
  clear hWa hC1 hR hM hRa hMa hBa hnew hsz hbW
  go_enter Try.func74, Try.ntmps74
  go_wp2
  rw [HWA.out]
  refine start_ (n := 12) (S := (fun _ => True)) (ds := []) #[false, false, false, false, false, false, false, false, false, false, false, false] (by kernel_rfl) rfl rfl trivial (fun hHeld => ?_)
  refine pure_ (i := 0) (N := (some 11)) (v := ?_) (a' := ?_) #[true, false, false, false, false, false, false, false, false, false, false, false] rfl rfl (by kernel_rfl) (fun _ _ _ h => h) (Or.inl ⟨by rfl, ?_⟩) ?_ ?_
  rotate_left
  · intro w'
    go_simp
    with_reducible rfl
  rotate_left
  · simp only [Act.put, List.setIfInBounds_toArray, List.set_cons_zero, List.set_cons_succ, i64_w, i32_w]
    rfl
  refine pure_ (i := 1) (N := (some 12)) (v := ?_) (a' := ?_) #[true, true, false, false, false, false, false, false, false, false, false, false] rfl rfl (by kernel_rfl) (fun _ _ _ h => h) (Or.inl ⟨by rfl, ?_⟩) ?_ ?_
  rotate_left
  · intro w'
    go_simp
    with_reducible rfl
  rotate_left
  · simp only [Act.put, List.setIfInBounds_toArray, List.set_cons_zero, List.set_cons_succ, i64_w, i32_w]
    rfl
  refine pure_ (i := 2) (N := (some 13)) (v := ?_) (a' := ?_) #[true, true, true, false, false, false, false, false, false, false, false, false] rfl rfl (by kernel_rfl) (fun _ _ _ h => h) (Or.inl ⟨by rfl, ?_⟩) ?_ ?_
  rotate_left
  · intro w'
    go_simp
    with_reducible rfl
  rotate_left
  · simp only [Act.put, List.setIfInBounds_toArray, List.set_cons_zero, List.set_cons_succ, i64_w, i32_w]
    rfl
  refine pure_ (i := 3) (N := (some 14)) (v := ?_) (a' := ?_) #[true, true, true, true, false, false, false, false, false, false, false, false] rfl rfl (by kernel_rfl) (fun _ _ _ h => h) (Or.inl ⟨by rfl, ?_⟩) ?_ ?_
  rotate_left
  · intro w'
    go_simp
    with_reducible rfl
  rotate_left
  · simp only [Act.put, List.setIfInBounds_toArray, List.set_cons_zero, List.set_cons_succ, i64_w, i32_w]
    rfl
  refine pure_ (i := 4) (N := (some 15)) (v := ?_) (a' := ?_) #[true, true, true, true, true, false, false, false, false, false, false, false] rfl rfl (by kernel_rfl) (fun _ _ _ h => h) (Or.inl ⟨by rfl, ?_⟩) ?_ ?_
  rotate_left
  · intro w'
    go_simp
    with_reducible rfl
  rotate_left
  · simp only [Act.put, List.setIfInBounds_toArray, List.set_cons_zero, List.set_cons_succ, i64_w, i32_w]
    rfl
  refine pure_ (i := 5) (N := (some 16)) (v := ?_) (a' := ?_) #[true, true, true, true, true, true, false, false, false, false, false, false] rfl rfl (by kernel_rfl) (fun _ _ _ h => h) (Or.inl ⟨by rfl, ?_⟩) ?_ ?_
  rotate_left
  · intro w'
    go_simp
    with_reducible rfl
  rotate_left
  · simp only [Act.put, List.setIfInBounds_toArray, List.set_cons_zero, List.set_cons_succ, i64_w, i32_w]
    rfl
  refine pure_ (i := 6) (N := (some 17)) (v := ?_) (a' := ?_) #[true, true, true, true, true, true, true, false, false, false, false, false] rfl rfl (by kernel_rfl) (fun _ _ _ h => h) (Or.inl ⟨by rfl, ?_⟩) ?_ ?_
  rotate_left
  · intro w'
    go_simp
    with_reducible rfl
  rotate_left
  · simp only [Act.put, List.setIfInBounds_toArray, List.set_cons_zero, List.set_cons_succ, i64_w, i32_w]
    rfl
  refine pure_ (i := 7) (N := (some 18)) (v := ?_) (a' := ?_) #[true, true, true, true, true, true, true, true, false, false, false, false] rfl rfl (by kernel_rfl) (fun _ _ _ h => h) (Or.inl ⟨by rfl, ?_⟩) ?_ ?_
  rotate_left
  · intro w'
    go_simp
    with_reducible rfl
  rotate_left
  · simp only [Act.put, List.setIfInBounds_toArray, List.set_cons_zero, List.set_cons_succ, i64_w, i32_w]
    rfl
  refine pure_ (i := 8) (N := (some 19)) (v := ?_) (a' := ?_) #[true, true, true, true, true, true, true, true, true, false, false, false] rfl rfl (by kernel_rfl) (fun _ _ _ h => h) (Or.inl ⟨by rfl, ?_⟩) ?_ ?_
  rotate_left
  · intro w'
    go_simp
    with_reducible rfl
  rotate_left
  · simp only [Act.put, List.setIfInBounds_toArray, List.set_cons_zero, List.set_cons_succ, i64_w, i32_w]
    rfl
  refine pure_ (i := 9) (N := (some 20)) (v := ?_) (a' := ?_) #[true, true, true, true, true, true, true, true, true, true, false, false] rfl rfl (by kernel_rfl) (fun _ _ _ h => h) (Or.inl ⟨by rfl, ?_⟩) ?_ ?_
  rotate_left
  · intro w'
    go_simp
    with_reducible rfl
  rotate_left
  · simp only [Act.put, List.setIfInBounds_toArray, List.set_cons_zero, List.set_cons_succ, i64_w, i32_w]
    rfl
  refine one_ (i := 10) (N := (some 21)) #[true, true, true, true, true, true, true, true, true, true, true, false] rfl rfl (by kernel_rfl) (by decide) (fun K hK => ?_)
  refine value_ (w1 := ?_) (v := ?_) (by rfl) rfl ?_ ?_
  rotate_left 2
  · go_simp
    constructor
    · rfl
    · rfl
  refine hK.out _ _ trivial (fun hHeld => ?_)
  clear hK K
  refine norm_ (a' := ?_) ?_ ?_
  rotate_left
  · show Act.put _ (some 21) _ = _
    simp only [Act.put, List.setIfInBounds_toArray, List.set_cons_zero, List.set_cons_succ]
    rfl
  refine one_ (i := 11) (N := (some 22)) #[true, true, true, true, true, true, true, true, true, true, true, true] rfl rfl (by kernel_rfl) (by decide) (fun K hK => ?_)
  refine goes_ Try.func67 (by kernel_rfl) rfl #[.pointer (some ⟨R, 0, none⟩), .int .i64 2, .slice (some ⟨Wa.heap.size, 0, none⟩) 5 5] (by rfl) rfl rfl (by simp only [List.map_toArray, List.map_cons, List.map_nil]; rfl) ?_
  with_reducible refine (C1.out).mono ?_
  rintro e w2 ⟨rfl, hn1⟩
  have N1 := Aside0.mk hn1
  clear hn1
  refine ⟨_, rfl, ?_⟩
  refine hK.out _ _ trivial (fun hHeld => ?_)
  clear hK K
  refine done_ (by kernel_rfl) ?_
  have hsz := HS.out
  have hN1 := N1.out
  obtain ⟨st1, hst1⟩ : ∃ st, s1 l at_ bad = st := ⟨_, rfl⟩
  rw [hst1] at hN1
  have hl1 : st1.1.length = 5 := by rw [← hst1]; exact nxi_len _ _ _ _ _
  obtain ⟨⟨vs1, at1, bad1⟩, hh⟩ : ∃ s, st1 = s := ⟨_, rfl⟩
  subst hh
  obtain ⟨a1, a2, a3, a4, a5, rfl⟩ := five hl1
  have q2 : w.heap.size + 6 ≤ w2.heap.size := by have := hN1.sz; simp at this; omega
  have M2 : w2.heap[M]? = some (.cells #[m0, .int .i64 a1, .int .i64 a2, .int .i64 a3, m4, m5, m6, m7, m8, m9, m10, m11, m12] 78 (0, 0)) := by
    rw [hN1.all M (by simp; omega) (by omega)]
    simp only [List.zip_cons_cons, List.zip_nil_right, poke]
    refine (Below.heap_setCell _ _ _ _ (by show M ≠ w.heap.size + 1; omega)).trans ((Below.heap_setCell _ _ _ _ (by show M ≠ w.heap.size; omega)).trans ?_)
    exact (blk_set (blk_set (blk_set (blk_drew (blk_alloc HM.out _)) 1 _) 2 _) 3 _).trans rfl
  have T2 : w2.heap[w.heap.size]? = some (.cells #[.int .i64 a4] 3 (0, 0)) := by
    rw [hN1.all w.heap.size (by simp; omega) (by omega)]
    simp only [List.zip_cons_cons, List.zip_nil_right, poke]
    refine (Below.heap_setCell _ _ _ _ (by show w.heap.size ≠ w.heap.size + 1; omega)).trans ?_
    refine poke1 (v := 0) ?_
    refine (Below.heap_setCell _ _ _ _ (by show w.heap.size ≠ M; omega)).trans ((Below.heap_setCell _ _ _ _ (by show w.heap.size ≠ M; omega)).trans ((Below.heap_setCell _ _ _ _ (by show w.heap.size ≠ M; omega)).trans ?_))
    exact blk_drew (blk_alloc (HN.out 0 (by omega)) _)
  have D2 : w2.heap[w.heap.size + 1]? = some (.cells #[.int .i64 a5] 3 (0, 0)) := by
    rw [hN1.all (w.heap.size + 1) (by simp; omega) (by omega)]
    simp only [List.zip_cons_cons, List.zip_nil_right, poke]
    refine poke1 (v := 0) ?_
    refine (Below.heap_setCell _ _ _ _ (by show w.heap.size + 1 ≠ w.heap.size; omega)).trans ?_
    refine (Below.heap_setCell _ _ _ _ (by show w.heap.size + 1 ≠ M; omega)).trans ((Below.heap_setCell _ _ _ _ (by show w.heap.size + 1 ≠ M; omega)).trans ((Below.heap_setCell _ _ _ _ (by show w.heap.size + 1 ≠ M; omega)).trans ?_))
    exact blk_drew (blk_alloc (HN.out 1 (by omega)) _)
  have B2 : ∀ i, 2 ≤ i → i < 5 → w2.heap[w.heap.size + i]? = some (.cells #[.int .i64 0] 3 (0, 0)) := fun i h2 h5 => by
    refine Nums.far hN1 (blk_drew (blk_alloc (HN.out i h5) _)) (by omega) (fun p hp => ?_)
    simp only [List.mem_cons, List.not_mem_nil, or_false] at hp
    rcases hp with rfl | rfl | rfl | rfl | rfl
    · show M ≠ _; omega
    · show M ≠ _; omega
    · show M ≠ _; omega
    · show w.heap.size ≠ _; omega
    · show w.heap.size + 1 ≠ _; omega
  have hC2 : Calls Try.prog 67 #[.pointer (some ⟨R, 0, none⟩), .int .i64 4, .slice (some ⟨w2.heap.size, 0, none⟩) 3 3] ((w2.alloc (.cells #[.pointer (some ⟨w.heap.size + 1 + 1, 0, none⟩), .pointer (some ⟨M, 6, none⟩), .pointer (some ⟨M, 7, none⟩)] 110)).drew) fun e w' => e = .returned (.tuple #[]) ∧ Nums w0 ((w2.alloc (.cells #[.pointer (some ⟨w.heap.size + 1 + 1, 0, none⟩), .pointer (some ⟨M, 6, none⟩), .pointer (some ⟨M, 7, none⟩)] 110)).drew) w' R A c l [⟨w.heap.size + 1 + 1, 0, none⟩, ⟨M, 6, none⟩, ⟨M, 7, none⟩] (s2 l at_ bad) := by
    have h := numbers_ w0 R A c l at1 bad1 4 [⟨w.heap.size + 1 + 1, 0, none⟩, ⟨M, 6, none⟩, ⟨M, 7, none⟩] w2.heap.size 3 ((w2.alloc (.cells #[.pointer (some ⟨w.heap.size + 1 + 1, 0, none⟩), .pointer (some ⟨M, 6, none⟩), .pointer (some ⟨M, 7, none⟩)] 110)).drew) (blk_drew (blk_alloc hN1.rd _)) hC hc hl (below_drew (below_alloc hN1.low _)) h0 (blk_drew (blk_new w2 _)) (by omega) (by
      intro p hp
      have k2 := B2 2 (by omega) (by omega)
      have hm : ∃ cs t, (((w2.alloc (.cells #[.pointer (some ⟨w.heap.size + 1 + 1, 0, none⟩), .pointer (some ⟨M, 6, none⟩), .pointer (some ⟨M, 7, none⟩)] 110)).drew)).heap[M]? = some (.cells cs t (0, 0)) ∧ 7 < cs.size := ⟨_, _, blk_drew (blk_alloc M2 _), by simp⟩
      obtain ⟨cs, t, hm1, hm2⟩ := hm
      simp only [List.mem_cons, List.not_mem_nil, or_false] at hp
      rcases hp with rfl | rfl | rfl
      · exact ⟨by show _ ≤ w.heap.size + 1 + 1; omega, by show w.heap.size + 1 + 1 ≠ R; omega, by show w.heap.size + 1 + 1 ≠ _; omega, rfl, _, _, blk_drew (blk_alloc k2 _), by simp⟩
      · exact ⟨h0M, by show M ≠ R; omega, by show M ≠ _; omega, rfl, cs, t, hm1, by show 6 < _; omega⟩
      · exact ⟨h0M, by show M ≠ R; omega, by show M ≠ _; omega, rfl, cs, t, hm1, by show 7 < _; omega⟩) (by simp)
    unfold s2
    rw [hst1]
    exact h
  have C2 := Aside0.mk hC2
  have Q2 := Aside0.mk q2
  have MM2 := Aside0.mk M2
  have TT2 := Aside0.mk T2
  have DD2 := Aside0.mk D2
  have BB2 := Aside0.mk B2
  have ST1 := Aside0.mk hst1
  clear hC2 M2 T2 D2 B2 hst1 hN1 hl1 q2 hsz
  go_wp2
  refine start_ (n := 9) (S := (fun _ => True)) (ds := []) #[false, false, false, false, false, false, false, false, false] (by kernel_rfl) rfl rfl trivial (fun hHeld => ?_)
  refine pure_ (i := 0) (N := (some 23)) (v := ?_) (a' := ?_) #[true, false, false, false, false, false, false, false, false] rfl rfl (by kernel_rfl) (fun _ _ _ h => h) (Or.inl ⟨by rfl, ?_⟩) ?_ ?_
  rotate_left
  · intro w'
    go_simp
    with_reducible rfl
  rotate_left
  · simp only [Act.put, List.setIfInBounds_toArray, List.set_cons_zero, List.set_cons_succ, i64_w, i32_w]
    rfl
  refine pure_ (i := 1) (N := (some 24)) (v := ?_) (a' := ?_) #[true, true, false, false, false, false, false, false, false] rfl rfl (by kernel_rfl) (fun _ _ _ h => h) (Or.inl ⟨by rfl, ?_⟩) ?_ ?_
  rotate_left
  · intro w'
    go_simp
    with_reducible rfl
  rotate_left
  · simp only [Act.put, List.setIfInBounds_toArray, List.set_cons_zero, List.set_cons_succ, i64_w, i32_w]
    rfl
  refine pure_ (i := 2) (N := (some 25)) (v := ?_) (a' := ?_) #[true, true, true, false, false, false, false, false, false] rfl rfl (by kernel_rfl) (fun _ _ _ h => h) (Or.inl ⟨by rfl, ?_⟩) ?_ ?_
  rotate_left
  · intro w'
    go_simp
    with_reducible rfl
  rotate_left
  · simp only [Act.put, List.setIfInBounds_toArray, List.set_cons_zero, List.set_cons_succ, i64_w, i32_w]
    rfl
  refine pure_ (i := 3) (N := (some 26)) (v := ?_) (a' := ?_) #[true, true, true, true, false, false, false, false, false] rfl rfl (by kernel_rfl) (fun _ _ _ h => h) (Or.inl ⟨by rfl, ?_⟩) ?_ ?_
  rotate_left
  · intro w'
    go_simp
    with_reducible rfl
  rotate_left
  · simp only [Act.put, List.setIfInBounds_toArray, List.set_cons_zero, List.set_cons_succ, i64_w, i32_w]
    rfl
  refine pure_ (i := 4) (N := (some 27)) (v := ?_) (a' := ?_) #[true, true, true, true, true, false, false, false, false] rfl rfl (by kernel_rfl) (fun _ _ _ h => h) (Or.inl ⟨by rfl, ?_⟩) ?_ ?_
  rotate_left
  · intro w'
    go_simp
    with_reducible rfl
  rotate_left
  · simp only [Act.put, List.setIfInBounds_toArray, List.set_cons_zero, List.set_cons_succ, i64_w, i32_w]
    rfl
  refine pure_ (i := 5) (N := (some 28)) (v := ?_) (a' := ?_) #[true, true, true, true, true, true, false, false, false] rfl rfl (by kernel_rfl) (fun _ _ _ h => h) (Or.inl ⟨by rfl, ?_⟩) ?_ ?_
  rotate_left
  · intro w'
    go_simp
    with_reducible rfl
  rotate_left
  · simp only [Act.put, List.setIfInBounds_toArray, List.set_cons_zero, List.set_cons_succ, i64_w, i32_w]
    rfl
  refine pure_ (i := 6) (N := (some 29)) (v := ?_) (a' := ?_) #[true, true, true, true, true, true, true, false, false] rfl rfl (by kernel_rfl) (fun _ _ _ h => h) (Or.inl ⟨by rfl, ?_⟩) ?_ ?_
  rotate_left
  · intro w'
    go_simp
    with_reducible rfl
  rotate_left
  · simp only [Act.put, List.setIfInBounds_toArray, List.set_cons_zero, List.set_cons_succ, i64_w, i32_w]
    rfl
  refine one_ (i := 7) (N := (some 30)) #[true, true, true, true, true, true, true, true, false] rfl rfl (by kernel_rfl) (by decide) (fun K hK => ?_)
  refine value_ (w1 := ?_) (v := ?_) (by rfl) rfl ?_ ?_
  rotate_left 2
  · go_simp
    constructor
    · rfl
    · rfl
  refine hK.out _ _ trivial (fun hHeld => ?_)
  clear hK K
  refine norm_ (a' := ?_) ?_ ?_
  rotate_left
  · show Act.put _ (some 30) _ = _
    simp only [Act.put, List.setIfInBounds_toArray, List.set_cons_zero, List.set_cons_succ]
    rfl
  refine one_ (i := 8) (N := (some 31)) #[true, true, true, true, true, true, true, true, true] rfl rfl (by kernel_rfl) (by decide) (fun K hK => ?_)
  refine goes_ Try.func67 (by kernel_rfl) rfl #[.pointer (some ⟨R, 0, none⟩), .int .i64 4, .slice (some ⟨w2.heap.size, 0, none⟩) 3 3] (by rfl) rfl rfl (by simp only [List.map_toArray, List.map_cons, List.map_nil]; rfl) ?_
  with_reducible refine (C2.out).mono ?_
  rintro e w3 ⟨rfl, hn2⟩
  have N2 := Aside0.mk hn2
  clear hn2
  refine ⟨_, rfl, ?_⟩
  refine hK.out _ _ trivial (fun hHeld => ?_)
  clear hK K
  refine done_ (by kernel_rfl) ?_
  have hsz := HS.out
  have hN2 := N2.out
  have q2 := Q2.out
  obtain ⟨st2, hst2⟩ : ∃ st, s2 l at_ bad = st := ⟨_, rfl⟩
  rw [hst2] at hN2
  have hl2 : st2.1.length = 3 := by rw [← hst2]; exact nxi_len _ _ _ _ _
  obtain ⟨⟨vs2, at2, bad2⟩, hh⟩ : ∃ s, st2 = s := ⟨_, rfl⟩
  subst hh
  obtain ⟨b1, b2, b3, rfl⟩ := three hl2
  have q3 : w2.heap.size + 1 ≤ w3.heap.size := by have := hN2.sz; simp at this; omega
  have M3 : w3.heap[M]? = some (.cells #[m0, .int .i64 a1, .int .i64 a2, .int .i64 a3, m4, m5, .int .i64 b2, .int .i64 b3, m8, m9, m10, m11, m12] 78 (0, 0)) := by
    rw [hN2.all M (by simp; omega) (by omega)]
    simp only [List.zip_cons_cons, List.zip_nil_right, poke]
    have e0 := (Below.heap_setCell ((w2.alloc (.cells #[.pointer (some ⟨w.heap.size + 1 + 1, 0, none⟩), .pointer (some ⟨M, 6, none⟩), .pointer (some ⟨M, 7, none⟩)] 110)).drew) ⟨w.heap.size + 1 + 1, 0, none⟩ (.int .i64 b1) M (by show M ≠ w.heap.size + 1 + 1; omega)).trans (blk_drew (blk_alloc MM2.out (.cells #[.pointer (some ⟨w.heap.size + 1 + 1, 0, none⟩), .pointer (some ⟨M, 6, none⟩), .pointer (some ⟨M, 7, none⟩)] 110)))
    exact (blk_set (blk_set e0 6 _) 7 _).trans rfl
  have S3 : w3.heap[w.heap.size + 1 + 1]? = some (.cells #[.int .i64 b1] 3 (0, 0)) := by
    rw [hN2.all (w.heap.size + 1 + 1) (by simp; omega) (by omega)]
    simp only [List.zip_cons_cons, List.zip_nil_right, poke]
    refine (Below.heap_setCell _ _ _ _ (by show w.heap.size + 1 + 1 ≠ M; omega)).trans ((Below.heap_setCell _ _ _ _ (by show w.heap.size + 1 + 1 ≠ M; omega)).trans ?_)
    refine poke1 (v := 0) ?_
    exact blk_drew (blk_alloc (BB2.out 2 (by omega) (by omega)) _)
  have keep2 : ∀ (g : Nat) (o : Obj), w2.heap[g]? = some o → g ≠ R → g ≠ M → g ≠ w.heap.size + 1 + 1 → w3.heap[g]? = some o := fun g o hg k1 k2 k3 => by
    refine Nums.far hN2 (blk_drew (blk_alloc hg _)) k1 (fun p hp => ?_)
    simp only [List.mem_cons, List.not_mem_nil, or_false] at hp
    rcases hp with rfl | rfl | rfl
    · exact fun e => k3 e.symm
    · exact fun e => k2 e.symm
    · exact fun e => k2 e.symm
  have T3 := keep2 _ _ TT2.out (by omega) (by omega) (by omega)
  have D3 := keep2 _ _ DD2.out (by omega) (by omega) (by omega)
  have N3a := keep2 _ _ (BB2.out 3 (by omega) (by omega)) (by omega) (by omega) (by omega)
  have N3b := keep2 _ _ (BB2.out 4 (by omega) (by omega)) (by omega) (by omega) (by omega)
  have hC3 : Calls Try.prog 67 #[.pointer (some ⟨R, 0, none⟩), .int .i64 2, .slice (some ⟨w3.heap.size, 0, none⟩) 2 2] (w3.alloc (.cells #[.pointer (some ⟨w.heap.size + 1 + 1 + 1, 0, none⟩), .pointer (some ⟨w.heap.size + 1 + 1 + 1 + 1, 0, none⟩)] 110)) fun e w' => e = .returned (.tuple #[]) ∧ Nums w0 (w3.alloc (.cells #[.pointer (some ⟨w.heap.size + 1 + 1 + 1, 0, none⟩), .pointer (some ⟨w.heap.size + 1 + 1 + 1 + 1, 0, none⟩)] 110)) w' R A c l [⟨w.heap.size + 1 + 1 + 1, 0, none⟩, ⟨w.heap.size + 1 + 1 + 1 + 1, 0, none⟩] (s3 l at_ bad) := by
    have h := numbers_ w0 R A c l at2 bad2 2 [⟨w.heap.size + 1 + 1 + 1, 0, none⟩, ⟨w.heap.size + 1 + 1 + 1 + 1, 0, none⟩] w3.heap.size 2 (w3.alloc (.cells #[.pointer (some ⟨w.heap.size + 1 + 1 + 1, 0, none⟩), .pointer (some ⟨w.heap.size + 1 + 1 + 1 + 1, 0, none⟩)] 110)) (blk_alloc hN2.rd _) hC hc hl (below_alloc hN2.low _) h0 (blk_new w3 _) (by omega) (by
      intro p hp
      simp only [List.mem_cons, List.not_mem_nil, or_false] at hp
      rcases hp with rfl | rfl
      · exact ⟨by show _ ≤ w.heap.size + 1 + 1 + 1; omega, by show w.heap.size + 1 + 1 + 1 ≠ R; omega, by show w.heap.size + 1 + 1 + 1 ≠ _; omega, rfl, _, _, blk_alloc N3a _, by simp⟩
      · exact ⟨by show _ ≤ w.heap.size + 1 + 1 + 1 + 1; omega, by show w.heap.size + 1 + 1 + 1 + 1 ≠ R; omega, by show w.heap.size + 1 + 1 + 1 + 1 ≠ _; omega, rfl, _, _, blk_alloc N3b _, by simp⟩) (by simp)
    unfold s3
    rw [hst2]
    exact h
  have C3 := Aside0.mk hC3
  have FIN : Aside0 (∀ w4, Nums w0 (w3.alloc (.cells #[.pointer (some ⟨w.heap.size + 1 + 1 + 1, 0, none⟩), .pointer (some ⟨w.heap.size + 1 + 1 + 1 + 1, 0, none⟩)] 110)) w4 R A c l [⟨w.heap.size + 1 + 1 + 1, 0, none⟩, ⟨w.heap.size + 1 + 1 + 1 + 1, 0, none⟩] (s3 l at_ bad) → ∃ c1 c2, (s3 l at_ bad).1 = [c1, c2] ∧ w4.heap[M]? = some (.cells #[m0, .int .i64 a1, .int .i64 a2, .int .i64 a3, m4, m5, .int .i64 b2, .int .i64 b3, m8, m9, m10, m11, m12] 78 (0, 0)) ∧
      w4.heap[w.heap.size]? = some (.cells #[.int .i64 a4] 3 (0, 0)) ∧ w4.heap[w.heap.size + 1]? = some (.cells #[.int .i64 a5] 3 (0, 0)) ∧ w4.heap[w.heap.size + 1 + 1]? = some (.cells #[.int .i64 b1] 3 (0, 0)) ∧ w4.heap[w.heap.size + 1 + 1 + 1]? = some (.cells #[.int .i64 c1] 3 (0, 0)) ∧ w4.heap[w.heap.size + 1 + 1 + 1 + 1]? = some (.cells #[.int .i64 c2] 3 (0, 0))) := ⟨fun w4 hn => by
    obtain ⟨st3, hst3⟩ : ∃ st, s3 l at_ bad = st := ⟨_, rfl⟩
    rw [hst3] at hn ⊢
    have hl3 : st3.1.length = 2 := by rw [← hst3]; exact nxi_len _ _ _ _ _
    obtain ⟨⟨vs3, at3, bad3⟩, hh⟩ : ∃ s, st3 = s := ⟨_, rfl⟩
    subst hh
    obtain ⟨c1, c2, rfl⟩ := two hl3
    have kp : ∀ (g : Nat) (o : Obj), w3.heap[g]? = some o → g ≠ R → g ≠ w.heap.size + 1 + 1 + 1 → g ≠ w.heap.size + 1 + 1 + 1 + 1 → w4.heap[g]? = some o := fun g o hg k1 k2 k3 => by
      refine Nums.far hn (blk_alloc hg _) k1 (fun p hp => ?_)
      simp only [List.mem_cons, List.not_mem_nil, or_false] at hp
      rcases hp with rfl | rfl
      · exact fun e => k2 e.symm
      · exact fun e => k3 e.symm
    refine ⟨c1, c2, rfl, kp _ _ M3 (by omega) (by omega) (by omega), kp _ _ T3 (by omega) (by omega) (by omega), kp _ _ D3 (by omega) (by omega) (by omega), kp _ _ S3 (by omega) (by omega) (by omega), ?_, ?_⟩
    · rw [hn.all (w.heap.size + 1 + 1 + 1) (by simp; omega) (by omega)]
      simp only [List.zip_cons_cons, List.zip_nil_right, poke]
      refine (Below.heap_setCell _ _ _ _ (by show w.heap.size + 1 + 1 + 1 ≠ w.heap.size + 1 + 1 + 1 + 1; omega)).trans ?_
      exact poke1 (v := 0) (blk_alloc N3a _)
    · rw [hn.all (w.heap.size + 1 + 1 + 1 + 1) (by simp; omega) (by omega)]
      simp only [List.zip_cons_cons, List.zip_nil_right, poke]
      refine poke1 (v := 0) ?_
      exact (Below.heap_setCell _ _ _ _ (by show w.heap.size + 1 + 1 + 1 + 1 ≠ w.heap.size + 1 + 1 + 1; omega)).trans (blk_alloc N3b _)⟩
  have ST2 := Aside0.mk hst2
  have KEEP : Aside0 (∀ g, g < w.heap.size → g ≠ R → g ≠ M → w3.heap[g]? = w.heap[g]?) := ⟨fun g hg k1 k2 => by
    obtain ⟨o, ho⟩ : ∃ o, w.heap[g]? = some o := ⟨_, Array.getElem?_eq_getElem hg⟩
    rw [ho]
    refine keep2 g o ?_ k1 k2 (by omega)
    refine Nums.far N1.out (blk_drew (blk_alloc (blk_below ho HBW.out) _)) k1 (fun p hp => ?_)
    simp only [List.mem_cons, List.not_mem_nil, or_false] at hp
    rcases hp with rfl | rfl | rfl | rfl | rfl
    · exact fun e => k2 e.symm
    · exact fun e => k2 e.symm
    · exact fun e => k2 e.symm
    · show w.heap.size ≠ g; omega
    · show w.heap.size + 1 ≠ g; omega⟩
  have Q3 := Aside0.mk (show w.heap.size + 7 ≤ w3.heap.size by omega)
  have nm3 : ¬ (w.heap.size + 1 + 1 + 1 = M) := by omega
  have nm4 : ¬ (w.heap.size + 1 + 1 + 1 + 1 = M) := by omega
  have nm5 : ¬ (M = w.heap.size + 1 + 1 + 1) := by omega
  have nm6 : ¬ (M = w.heap.size + 1 + 1 + 1 + 1) := by omega
  clear hC3 M3 T3 D3 S3 N3a N3b hst2 hN2 hl2 q2 q3 keep2 hsz
  go_wp2_with (go_at_call 67; (with_reducible refine (C3.out).mono ?_); rintro e w4 ⟨rfl, hn3⟩; obtain ⟨c1, c2, hcc, M4, T4, D4, S4, NA4, NB4⟩ := FIN.out w4 hn3; have kT : w4.cell? ⟨w.heap.size, 0, none⟩ = some (.int .i64 a4) := (blk_cell T4 0).trans rfl; have kD : w4.cell? ⟨w.heap.size + 1, 0, none⟩ = some (.int .i64 a5) := (blk_cell D4 0).trans rfl; have kS : w4.cell? ⟨w.heap.size + 1 + 1, 0, none⟩ = some (.int .i64 b1) := (blk_cell S4 0).trans rfl; have kA : w4.cell? ⟨w.heap.size + 1 + 1 + 1, 0, none⟩ = some (.int .i64 c1) := (blk_cell NA4 0).trans rfl; have kB : w4.cell? ⟨w.heap.size + 1 + 1 + 1 + 1, 0, none⟩ = some (.int .i64 c2) := (blk_cell NB4 0).trans rfl; have kM : w4.cell? ⟨M, 4, none⟩ = some m4 := (blk_cell M4 4).trans rfl; have kN : w4.cell? ⟨M, 5, none⟩ = some m5 := (blk_cell M4 5).trans rfl; have kf := blk_frozen M4 4; have kg := blk_frozen M4 5; have N3 := Aside0.mk hn3; have MM4 := Aside0.mk M4; have HCC := Aside0.mk hcc; clear hn3 M4 T4 D4 S4 NA4 NB4 hcc)
  go_quiet (fail)
  go_wp2
  go_ret2
  have hn3 := N3.out
  have q3 := Q3.out
  have q4 : w.heap.size ≤ w4.heap.size := by have := hn3.sz; simp at this; omega
  refine ⟨a1, a2, a3, a4, a5, b1, b2, b3, c1, c2, by rw [ST1.out], by rw [ST2.out], HCC.out, rfl, ?_, ?_, ?_, ?_, fun g hg k1 k2 => ?_⟩
  · refine (Below.heap_setCell _ _ _ _ (by show R ≠ M; omega)).trans ((Below.heap_setCell _ _ _ _ (by show R ≠ M; omega)).trans ?_)
    exact hn3.rd
  · exact (blk_set (blk_set MM4.out 4 _) 5 _).trans rfl
  · exact pw_below_drewN ((hn3.low.setCell (by exact h0M) _).setCell (by exact h0M) _) _
  · simp [World.setCell]; exact q4
  · refine (Below.heap_setCell _ _ _ _ (by show g ≠ M; omega)).trans ((Below.heap_setCell _ _ _ _ (by show g ≠ M; omega)).trans ?_)
    obtain ⟨o, ho⟩ : ∃ o, w3.heap[g]? = some o := ⟨_, Array.getElem?_eq_getElem (by omega)⟩
    rw [← KEEP.out g hg k1 k2, ho]
    refine Nums.far hn3 (blk_alloc ho _) k1 (fun p hp => ?_)
    simp only [List.mem_cons, List.not_mem_nil, or_false] at hp
    rcases hp with rfl | rfl
    · show w.heap.size + 1 + 1 + 1 ≠ g; omega
    · show w.heap.size + 1 + 1 + 1 + 1 ≠ g; omega
end Go.Proofs.Ytfnicahlnpngkaa.ZipCom
/- zipdir: what the reader's numbers and texts keep; whole structs loaded and stored. -/
namespace Go.Proofs.Ytfnicahlnpngkaa.ZipRow
open Go.RowKit Go.Proofs.YtfnicahlnpngkaaW.PrintWords Go.Proofs.YtfnicahlnpngkaaW.PrintLast Go.Proofs.YtfnicahlnpngkaaW.PrintMore Go.Proofs.Ytfnicahlnpngkaa.Base Go.Proofs.Ytfnicahlnpngkaa.NumRead Go.Proofs.Ytfnicahlnpngkaa.ExtraNum Go.Proofs.Ytfnicahlnpngkaa.ZipRd Go.Proofs.Ytfnicahlnpngkaa.ZipNums Go.Proofs.Ytfnicahlnpngkaa.ZipText Go.Proofs.Ytfnicahlnpngkaa.ZipCom
theorem nx_at {l : List Int} {a n : Int} {b : Bool} (h : (nx l a b n).2.2 = false) : 0 ≤ (nx l a b n).2.1 ∧ (nx l a b n).2.1 ≤ (l.length : Int) := by
  unfold nx at h ⊢
  split at h <;> simp_all
  rename_i hv
  have := exNum_in hv
  omega
theorem nx_val (l : List Int) (a n : Int) (b : Bool) : 0 ≤ (nx l a b n).1 ∧ (nx l a b n).1 ≤ 4611686018427387904 := by
  unfold nx
  split
  · rename_i hv
    have := exNum_in hv
    simp only; omega
  · simp
theorem nxi_at {l : List Int} {a n : Int} {b : Bool} {i : Nat} (h : (nxi l a b n (i + 1)).2.2 = false) : 0 ≤ (nxi l a b n (i + 1)).2.1 ∧ (nxi l a b n (i + 1)).2.1 ≤ (l.length : Int) := by
  rw [nxi] at h ⊢
  exact nx_at h
theorem nxi_val (l : List Int) (a n : Int) (b : Bool) : ∀ i, ∀ x ∈ (nxi l a b n i).1, 0 ≤ x ∧ x ≤ 4611686018427387904
  | 0 => by simp [nxi]
  | i + 1 => by
    intro x hx
    rw [nxi] at hx
    simp only [List.mem_append, List.mem_cons, List.not_mem_nil, or_false] at hx
    rcases hx with hx | hx
    · exact nxi_val l a n b i x hx
    · rw [hx]; exact nx_val _ _ _ _
theorem tx_at {l : List Int} {a n : Int} {b : Bool} (hn : 0 ≤ n) (ha : b = false → 0 ≤ a ∧ a ≤ (l.length : Int)) : (tx l a b n).2.2 = false → 0 ≤ (tx l a b n).2.1 ∧ (tx l a b n).2.1 ≤ (l.length : Int) := by
  unfold tx
  split
  · simp
  · rename_i hh
    intro _
    have : b = false := by cases b <;> simp_all
    have := ha this
    simp only
    have : ¬ ((l.length : Int) - a < n) := fun h => hh (.inr h)
    omega
theorem exec_load_row {a : Act} {o : Oper} {w : World} (ty : TypeId) (x : Operand) (g : Nat) (t : TypeId) (cs : Array Value) (fs : Array Field) (ho : o.op = .load ty x) (hx : a.eval x = .pointer (some ⟨g, 0, none⟩)) (hg : w.heap[g]? = some (.cells cs t (0, 0)))
    (hu : Try.prog.underlying ty = some (.struct fs)) (hi : (Try.prog.info? ty).map (·.size) = some cs.size) : (execOp a.eval o).run Try.prog w = .ok (.value (.agg cs)) w := by
  unfold execOp
  simp only [ho, hx, Instr.loadAt, Instr.sureAddr, Sem.run_bind, Sem.run_pure, Result.andThen_ok, run_loadVar_row w g t ty cs (0, 0) (.struct fs) hg hu rfl hi]
theorem exec_store_row {a : Act} {o : Oper} {w : World} (ty : TypeId) (x y : Operand) (g : Nat) (t : TypeId) (old cs : Array Value) (ho : o.op = .store ty x y) (hx : a.eval x = .pointer (some ⟨g, 0, none⟩)) (hy : a.eval y = .agg cs) (hg : w.heap[g]? = some (.cells old t (0, 0)))
    (hi : (Try.prog.info? ty).map (·.size) = some cs.size) (hold : old.size = cs.size) (h1 : cs.all (·.oneCell') = true) : (execOp a.eval o).run Try.prog w = .ok .skip (w.setRow g cs) := by
  unfold execOp
  simp only [ho, hx, hy, Instr.storeAt, Instr.sureAddr, Sem.run_bind, Sem.run_pure, Result.andThen_ok, run_storeVar_row w g t ty old cs hg hi hold h1]
theorem R_row {α : Type} {d : Kd α} {e : TypeId} {W : World} {base : Nat} {v : Value} {xs : List α} {g : Nat} {cs : Array Value} {t : TypeId} {old : Array Value} (hg : W.heap[g]? = some (.cells old t (0, 0))) (hR : Kd.R d e W base (fun _ => True) v xs) (hb : g < base) : Kd.R d e (W.setRow g cs) base (fun _ => True) v xs :=
  Kd.R_mono (Kd.R_keep (g := g) (Kd.R_bound hR) ⟨by simp, fun k hk hne _ => setRow_other _ _ _ _ hne⟩ (fun k hk => by have := hk.2.1; omega)) (fun _ _ => trivial)
theorem R_row2 {α : Type} {d : Kd α} {e : TypeId} {W : World} {b base : Nat} {v : Value} {xs : List α} {g : Nat} {cs : Array Value} {t : TypeId} {old : Array Value} (hg : W.heap[g]? = some (.cells old t (0, 0))) (hR : Kd.R d e W b (fun _ => True) v xs) (hb : g < b) (hle : base ≤ b) : Kd.R d e (W.setRow g cs) base (fun _ => True) v xs :=
  Kd.R_lower (R_row hg hR hb) hle
end Go.Proofs.Ytfnicahlnpngkaa.ZipRow

/- zipdir's writer: put, walked by hand. -/
import Derived.Test.YtfnicahlnpngkaaZipRdr
import Derived.Test.YtfnicahlnpngkaaNum1
import Derived.Test.YtfnicahlnpngkaaPZip1x1
set_option linter.unusedVariables false
set_option linter.unusedSimpArgs false
namespace Go.Proofs.Ytfnicahlnpngkaa.ZipPut
open Go.RowKit Go.Proofs.YtfnicahlnpngkaaW.PrintWords Go.Proofs.YtfnicahlnpngkaaW.PrintLast Go.Proofs.YtfnicahlnpngkaaW.PrintMore Go.Proofs.Ytfnicahlnpngkaa.Base Go.Proofs.Ytfnicahlnpngkaa.NumRead Go.Proofs.Ytfnicahlnpngkaa.ExtraNum Go.Proofs.Ytfnicahlnpngkaa.ZipRd Go.Proofs.Ytfnicahlnpngkaa.ZipNums
def putAll (l : List Int) (n : Int) : List Int → List Int
  | [] => l
  | x :: xs => putAll (l ++ Num1.leB x n) n xs
theorem putAll_snoc (n : Int) (x : Int) : ∀ (xs : List Int) (l : List Int), putAll l n (xs ++ [x]) = putAll l n xs ++ Num1.leB x n
  | [], l => rfl
  | y :: xs, l => putAll_snoc n x xs _
theorem putAll_len (n : Int) : ∀ (xs : List Int) (l : List Int), (putAll l n xs).length ≤ l.length + 8 * xs.length
  | [], l => by simp [putAll]
  | y :: xs, l => by
    have := putAll_len n xs (l ++ Num1.leB y n)
    have h := Num1.leB_length y n
    rw [putAll]
    simp only [List.length_append, List.length_cons] at *
    split at h <;> omega
/-- the writer's block. -/
structure Wr (w0 w : World) (G : Nat) (v : Value) (l : List Int) : Prop where
  blk : w.heap[G]? = some (.cells #[v] 101 (0, 0))
  row : Kd.R (Kd.int .u8) 5 w (G + 1) (fun _ => True) v l
  low : Below w0.heap.size w0 w
  le : w0.heap.size ≤ G
theorem Wr.below {w0 w w1 : World} {G : Nat} {v : Value} {l : List Int} (h : Wr w0 w G v l) (hb : Below w.heap.size w w1) : Wr w0 w1 G v l :=
  ⟨blk_below h.blk hb, Kd.R_below h.row hb, below_then h.low h.low.size hb, h.le⟩
theorem Wr.set {w0 w : World} {G : Nat} {v v1 : Value} {l l1 : List Int} (h : Wr w0 w G v l) (hR : Kd.R (Kd.int .u8) 5 w (G + 1) (fun _ => True) v1 l1) : Wr w0 (w.setCell ⟨G, 0, none⟩ v1) G v1 l1 :=
  ⟨(blk_set h.blk 0 v1).trans rfl, Kd.R_mono (Kd.R_far (Kd.R_bound hR) (p := ⟨G, 0, none⟩) (fun k hk => by show k ≠ G; have := hk.2.1; omega) v1) (fun _ _ => trivial), Below.setCell h.low h.le _, h.le⟩
def PutPost (w0 w : World) (G : Nat) (l : List Int) (e : Ending) (w' : World) : Prop := e = .returned (.tuple #[]) ∧ ∃ v', Wr w0 w' G v' l ∧ w.heap.size ≤ w'.heap.size ∧ ∀ g, g < w.heap.size → g ≠ G → w'.heap[g]? = w.heap[g]?
set_option maxHeartbeats 8000000 in
set_option maxRecDepth 100000 in
theorem put_ (w0 : World) (G : Nat) (v : Value) (l : List Int) (n : Int) (xs : List Int) (tb tc : Nat) (tt : TypeId) (w : World) (hW : Wr w0 w G v l) (ht : w.heap[tb]? = some (.cells (xs.map fun x => Value.int .u64 x).toArray tt (0, 0))) (htG : tb ≠ G) (hm : xs.length ≤ 1000) (hl : l.length ≤ 140737480000000) :
    Calls Try.prog 65 #[.pointer (some ⟨G, 0, none⟩), .int .i64 n, .slice (some ⟨tb, 0, none⟩) xs.length tc] w fun e w' => PutPost w0 w G (putAll l n xs) e w' := by
  have HW := Aside0.mk hW
  have HT := Aside0.mk ht
  clear hW ht
  go_enter Try.func65, Try.ntmps65
  go_wp2
  go_loopg [10] (xs.length + 1) (fun kq v10 wr => ∃ (i : Nat) (v' : Value), v10 = .int .i64 (i : Int) ∧ Aside0 (i ≤ xs.length ∧ xs.length + 1 ≤ kq + i) ∧ Aside0 (Wr w0 wr G v' (putAll l n (xs.take i)) ∧ w.heap.size ≤ wr.heap.size ∧ ∀ g, g < w.heap.size → g ≠ G → wr.heap[g]? = w.heap[g]?))
  case atStart => exact ⟨0, v, rfl, ⟨by omega, by omega⟩, ⟨HW.out, Nat.le_refl _, fun _ _ _ => rfl⟩⟩
  case round =>
    obtain ⟨i, v', rfl, HX, HI⟩ := hrel
    by_cases hlt : i < xs.length
    · have hz : (i : Int) < (xs.length : Int) := by omega
      have n0 : 0 ≤ (i : Int) := by omega
      obtain ⟨x, hx⟩ : ∃ x, xs[i] = x := ⟨_, rfl⟩
      have hc1 : wr.cell? ⟨tb, i, none⟩ = some (.int .u64 x) := by rw [blk_cell ((HI.out.2.2 tb (blk_lt HT.out) htG).trans HT.out), ← hx]; simp [hlt]
      obtain ⟨kq, rfl⟩ : ∃ kq, gk = kq + 1 := ⟨gk - 1, by have := HX.out; omega⟩
      obtain ⟨A, c, e0⟩ := Kd.R_slice HI.out.1.row
      subst e0
      have hst : putAll l n (xs.take (i + 1)) = putAll l n (xs.take i) ++ Num1.leB x n := by rw [List.take_succ_eq_append_getElem hlt, putAll_snoc, hx]
      have hbl : (putAll l n (xs.take i)).length ≤ 140737488000000 := by have h := putAll_len n (xs.take i) l; rw [List.length_take] at h; omega
      have HST := Aside0.mk hst
      have hc2 : wr.cell? ⟨G, 0, none⟩ = some (.slice A (putAll l n (xs.take i)).length c) := (blk_cell HI.out.1.blk 0).trans rfl
      have CP := Aside0.mk (Num1.num_PutLittle.calls A c (putAll l n (xs.take i)) x n _ wr (Kd.R_reads' HI.out.1.row).2.2 (Kd.R_reads' HI.out.1.row).2.1 (by unfold Num1.num_PutLittle.f; rw [if_pos hbl]))
      have CK : Aside0 (∀ w1, Below wr.heap.size wr w1 → w1.cell? ⟨G, 0, none⟩ = some (.slice A (putAll l n (xs.take i)).length c) ∧ w1.frozen? ⟨G, 0, none⟩ = false) := ⟨fun w1 hb => ⟨(blk_cell (blk_below HI.out.1.blk hb) 0).trans rfl, blk_frozen (blk_below HI.out.1.blk hb) 0⟩⟩
      clear hx hst hbl
      go_wp2_with (go_at_call 38; (with_reducible refine (CP.out).mono ?_); rintro e w1 ⟨v1, rfl, ho, hb⟩; obtain ⟨A1, c1, e1⟩ := Kd.R_slice ho; subst e1; obtain ⟨k1, k2⟩ := CK.out w1 hb; have HO1 := Aside0.mk ho; have HB := Aside0.mk hb; clear ho hb)
      go_roundg kq
      case measure => omega
      case rel =>
        have hG := blk_lt HI.out.1.blk
        have h1 := (HI.out.1.below HB.out).set (Kd.R_lower HO1.out (by omega))
        refine ⟨i + 1, .slice A1 ((putAll l n (xs.take i)).length + (Num1.leB x n).length) c1, by go_num, ⟨by omega, by have := HX.out; omega⟩, ⟨?_, ?_, fun g hg hne => ?_⟩⟩
        · rw [HST.out]; simpa only [List.length_append] using h1
        · have := HI.out.2.1; have := HB.out.size; simp [World.setCell]; omega
        · rw [Below.heap_setCell _ _ _ _ (by exact hne), HB.out.block g (by have := HI.out.2.1; omega)]; exact HI.out.2.2 g hg hne
    · have hz : ¬ (i : Int) < (xs.length : Int) := by omega
      have hi : i = xs.length := by have := HX.out; omega
      subst hi
      rw [List.take_length] at HI
      go_wp2
      go_end0
      exact ⟨rfl, _, HI.out.1, HI.out.2.1, HI.out.2.2⟩
end Go.Proofs.Ytfnicahlnpngkaa.ZipPut
/- zipdir.PutEnd, walked by hand. -/
namespace Go.Proofs.Ytfnicahlnpngkaa.ZipEnd
open Go.RowKit Go.Proofs.YtfnicahlnpngkaaW.PrintWords Go.Proofs.YtfnicahlnpngkaaW.PrintLast Go.Proofs.YtfnicahlnpngkaaW.PrintMore Go.Proofs.Ytfnicahlnpngkaa.Base Go.Proofs.Ytfnicahlnpngkaa.NumRead Go.Proofs.Ytfnicahlnpngkaa.ExtraNum Go.Proofs.Ytfnicahlnpngkaa.ZipRd Go.Proofs.Ytfnicahlnpngkaa.ZipNums Go.Proofs.Ytfnicahlnpngkaa.ZipPut
/-- what the writer's put does over a fresh row of numbers. -/
theorem put_new (w0 W : World) (G : Nat) (v : Value) (l : List Int) (n : Int) (xs : List Int) (hW : Wr w0 W G v l) (hm : xs.length ≤ 1000) (hl : l.length ≤ 140737480000000) :
    Calls Try.prog 65 #[.pointer (some ⟨G, 0, none⟩), .int .i64 n, .slice (some ⟨W.heap.size, 0, none⟩) xs.length xs.length] (W.alloc (.cells (xs.map fun x => Value.int .u64 x).toArray 59)) fun e w' => PutPost w0 (W.alloc (.cells (xs.map fun x => Value.int .u64 x).toArray 59)) G (putAll l n xs) e w' :=
  put_ w0 G v l n xs W.heap.size xs.length 59 _ (hW.below (below_alloc (Below.refl _ _) _)) (blk_new W _) (by have := blk_lt hW.blk; omega) hm hl
def small_ (n : Int) : Int := IntKind.u64.wrap (mn n 4294967295)
def endTail (l : List Int) (e s o : Int) : List Int :=
  putAll (putAll (putAll (putAll l 4 [101010256]) 2 [0, 0, IntKind.u64.wrap (mn e 65535), IntKind.u64.wrap (mn e 65535)]) 4 [small_ s, small_ o]) 2 [0]
def endFar (e s o : Int) : List Int :=
  putAll (putAll (putAll (putAll (putAll (putAll (putAll (putAll [] 4 [101075792]) 8 [44]) 2 [45, 45]) 4 [0, 0]) 8 [IntKind.u64.wrap e, IntKind.u64.wrap e, IntKind.u64.wrap s, IntKind.u64.wrap o]) 4 [117853008, 0]) 8 [IntKind.u64.wrap (IntKind.u64.wrap s + IntKind.u64.wrap o)]) 4 [1]
def isFar (e s o : Int) : Bool := decide (s ≥ 4294967295) || decide (o ≥ 4294967295) || decide (e ≥ 65535)
def within_ (m : Int) (l : List Int) : Bool := l.all fun x => decide (0 ≤ x) && decide (x ≤ m)
def zipdir_PutEnd.f (e s o : Int) : Option (List Int × Int) :=
  some (if within_ 4611686018427387904 [e, s, o] then (endTail (if isFar e s o then endFar e s o else []) e s o, 0) else ([], 1))
theorem within3 (m a b c : Int) : PZip1.zipdir_within.f 4 m [a, b, c] = some (within_ m [a, b, c]) := by
  have h0 : rd [a, b, c] 0 = a := rfl
  have h1 : rd [a, b, c] 1 = b := rfl
  have h2 : rd [a, b, c] 2 = c := rfl
  have w1 : wrap64 1 = 1 := wrap64_id (by omega) (by omega)
  have w2 : wrap64 2 = 2 := wrap64_id (by omega) (by omega)
  have w3 : wrap64 3 = 3 := wrap64_id (by omega) (by omega)
  unfold PZip1.zipdir_within.f
  simp only [PZip1.zipdir_within.l0, List.length_cons, List.length_nil, h0, h1, h2, within_, List.all_cons, List.all_nil]
  by_cases a1 : a < 0
  · simp [a1, show ¬ 0 ≤ a by omega]
  by_cases a2 : a > m
  · simp [a1, a2, show ¬ a ≤ m by omega]
  by_cases b1 : b < 0
  · simp [a1, a2, b1, show ¬ 0 ≤ b by omega, w1, h1]
  by_cases b2 : b > m
  · simp [a1, a2, b1, b2, show ¬ b ≤ m by omega, w1, h1]
  by_cases c1 : c < 0
  · simp [a1, a2, b1, b2, c1, show ¬ 0 ≤ c by omega, w1, w2, h1, h2]
  by_cases c2 : c > m
  · simp [a1, a2, b1, b2, c1, c2, show ¬ c ≤ m by omega, w1, w2, h1, h2]
  · simp [a1, a2, b1, b2, c1, c2, w1, w2, w3, h1, h2, show 0 ≤ a by omega, show a ≤ m by omega, show 0 ≤ b by omega, show b ≤ m by omega, show 0 ≤ c by omega, show c ≤ m by omega]
theorem lit_C (W : World) (xs : List Int) (hm : xs.length ≤ 1000) : Kd.C (Kd.int .i64) (W.alloc (.cells (xs.map fun x => Value.int .i64 x).toArray 3)) (some ⟨W.heap.size, 0, none⟩) xs.length xs :=
  (Kd.R_reads' (Kd.R_of_own (ok := fun _ => True) (own_lit_of W 0 3 xs (Nat.zero_le _) (by omega)) (fun _ _ => trivial))).2.2
theorem wr_start {w W : World} (hb : Below w.heap.size w W) : Wr w (W.alloc (.cells #[.slice none 0 0] 101)) W.heap.size (.slice none 0 0) [] :=
  ⟨blk_new W _, Kd.R_nil _ _ _ _ _, below_alloc hb _, hb.size⟩
theorem putAll_le {n : Int} {xs l : List Int} {k : Nat} (h : l.length ≤ k) : (putAll l n xs).length ≤ k + 8 * xs.length := by have := putAll_len n xs l; omega
theorem putAll_w {w0 w : World} {G : Nat} {v : Value} {n : Int} {xs l : List Int} {k : Nat} (h : Wr w0 w G v (putAll l n xs)) (hl : l.length ≤ k) : (putAll l n xs).length ≤ k + 8 * xs.length := putAll_le hl
def After (w0 W : World) (G : Nat) (l : List Int) (e : Ending) (w' : World) : Prop := e = .returned (.tuple #[]) ∧ ∃ v', Wr w0 w' G v' l
theorem after_ {w0 W : World} {G : Nat} {l : List Int} (e : Ending) (w' : World) (h : PutPost w0 W G l e w') : After w0 W G l e w' := ⟨h.1, h.2.choose, h.2.choose_spec.1⟩
theorem put1 (w0 W : World) (G : Nat) (v : Value) (l : List Int) (n a : Int) (hW : Wr w0 W G v l) (hl : l.length ≤ 140737480000000) :
    Calls Try.prog 65 #[.pointer (some ⟨G, 0, none⟩), .int .i64 n, .slice (some ⟨W.heap.size, 0, none⟩) 1 1] (W.alloc (.cells #[.int .u64 a] 59)) fun e w' => After w0 (W.alloc (.cells #[.int .u64 a] 59)) G (putAll l n [a]) e w' :=
  (put_new w0 W G v l n [a] hW (by simp) hl).mono after_
theorem put2 (w0 W : World) (G : Nat) (v : Value) (l : List Int) (n a b : Int) (hW : Wr w0 W G v l) (hl : l.length ≤ 140737480000000) :
    Calls Try.prog 65 #[.pointer (some ⟨G, 0, none⟩), .int .i64 n, .slice (some ⟨W.heap.size, 0, none⟩) 2 2] (W.alloc (.cells #[.int .u64 a, .int .u64 b] 59)) fun e w' => After w0 (W.alloc (.cells #[.int .u64 a, .int .u64 b] 59)) G (putAll l n [a, b]) e w' :=
  (put_new w0 W G v l n [a, b] hW (by simp) hl).mono after_
theorem put4 (w0 W : World) (G : Nat) (v : Value) (l : List Int) (n a b c d : Int) (hW : Wr w0 W G v l) (hl : l.length ≤ 140737480000000) :
    Calls Try.prog 65 #[.pointer (some ⟨G, 0, none⟩), .int .i64 n, .slice (some ⟨W.heap.size, 0, none⟩) 4 4] (W.alloc (.cells #[.int .u64 a, .int .u64 b, .int .u64 c, .int .u64 d] 59)) fun e w' => After w0 (W.alloc (.cells #[.int .u64 a, .int .u64 b, .int .u64 c, .int .u64 d] 59)) G (putAll l n [a, b, c, d]) e w' :=
  (put_new w0 W G v l n [a, b, c, d] hW (by simp) hl).mono after_
set_option maxHeartbeats 8000000 in
set_option maxRecDepth 100000 in
theorem zipdir_PutEnd.calls (e s o : Int) (r1 : List Int) (r2 : Int) (w : World) (h : zipdir_PutEnd.f e s o = some (r1, r2)) :
    Calls Try.prog 42 #[.int .i64 e, .int .i64 s, .int .i64 o] w fun en w' => ∃ v0_ : Value, en = .returned (.tuple #[v0_, .int .i64 r2]) ∧ Kd.R (Kd.int .u8) 5 w' w.heap.size (fun _ => True) v0_ r1 ∧ Below w.heap.size w w' := by
  have hin : Calls Try.prog 63 #[.int .i64 4611686018427387904, .slice (some ⟨w.heap.size, 0, none⟩) 3 3] (w.alloc (.cells #[.int .i64 e, .int .i64 s, .int .i64 o] 3)) fun en w' => en = .returned (.bool (within_ 4611686018427387904 [e, s, o])) ∧ Drawn0 (w.alloc (.cells #[.int .i64 e, .int .i64 s, .int .i64 o] 3)) w' :=
    PZip1.zipdir_within.calls 4 4611686018427387904 (some ⟨w.heap.size, 0, none⟩) 3 [e, s, o] _ _ (lit_C w [e, s, o] (by simp)) (by simp) (within3 4611686018427387904 e s o)
  have HIN := Aside0.mk hin
  clear hin
  unfold zipdir_PutEnd.f at h
  rw [Option.some.injEq] at h
  have H := Aside0.mk h
  clear h
  cases hw : within_ 4611686018427387904 [e, s, o] with
  | false =>
    rw [hw] at HIN H
    have H2 := H.out
    rw [if_neg (by simp)] at H2
    obtain ⟨rfl, rfl⟩ := Prod.mk.inj H2
    clear H H2
    go_enter Try.func42, Try.ntmps42
    go_wp2_with (go_at_call 63; (with_reducible refine (HIN.out).mono ?_); rintro en w1 ⟨rfl, hb⟩; have HB := Aside0.mk hb; clear hb)
    go_ret2
    have hb1 : Below w.heap.size w w1 := below_then (below_alloc (Below.refl _ _) _) (by simp) HB.out.below
    exact ⟨_, rfl, Kd.R_nil _ _ _ _ _, hb1⟩
  | true =>
    rw [hw] at HIN H
    have H2 := H.out
    rw [if_pos rfl] at H2
    obtain ⟨rfl, rfl⟩ := Prod.mk.inj H2
    clear H H2
    have SS : Aside0 (∀ (x : Int) (w : World), Calls Try.prog 64 #[.int .i64 x] w fun en w' => en = .returned (.tuple #[.int .u64 (small_ x), .bool (decide (x ≥ 4294967295))]) ∧ Below w.heap.size w w') := ⟨fun x w => PZip1.zipdir_small.calls x _ _ w rfl⟩
    have hr : (0 ≤ e ∧ e ≤ 4611686018427387904) ∧ (0 ≤ s ∧ s ≤ 4611686018427387904) ∧ (0 ≤ o ∧ o ≤ 4611686018427387904) := by simpa [within_, and_assoc] using hw
    have hwe : IntKind.u64.wrap e = e := wu64 (by omega) (by omega)
    have hws : IntKind.u64.wrap s = s := wu64 (by omega) (by omega)
    have hwo : IntKind.u64.wrap o = o := wu64 (by omega) (by omega)
    have hwso : IntKind.u64.wrap (s + o) = s + o := wu64 (by omega) (by omega)
    have hM : IntKind.u64.wrap (mn e 65535) = mn e 65535 := wu64 (by unfold mn; split <;> omega) (by unfold mn; split <;> omega)
    have HM := Aside0.mk hM
    have HRR := Aside0.mk hr
    clear hM hr hw
    rcases Bool.eq_false_or_eq_true (decide (4294967295 ≤ s)) with c1 | c1
    all_goals rcases Bool.eq_false_or_eq_true (decide (4294967295 ≤ o)) with c2 | c2
    all_goals rcases Bool.eq_false_or_eq_true (decide (65535 ≤ e)) with c3 | c3
    all_goals
      have c4 := c3
      simp only [decide_eq_true_eq, decide_eq_false_iff_not] at c4
      go_enter Try.func42, Try.ntmps42
      go_wp2_with (first | (go_at_call 63; (with_reducible refine (HIN.out).mono ?_); rintro en w1 ⟨rfl, hb⟩; have HB := Aside0.mk (below_then (below_alloc (Below.refl w.heap.size w) _) (by simp) hb.below); have HL := Aside0.mk (by simp : ([] : List Int).length ≤ 0); clear hb) | (go_at_call 64; (with_reducible refine (SS.out _ _).mono ?_); rintro en w2 ⟨rfl, hb⟩; (first | (have n0_ := Aside0.mk (HWr.out.below hb); clear HWr; have HWr := n0_; clear n0_) | (have HWr := Aside0.mk ((wr_start HB.out).below hb))); clear hb) | (go_at_call 65; (with_reducible refine (put1 w _ _ _ _ _ _ HWr.out (Nat.le_trans HL.out (by (try simp only [List.length_cons, List.length_nil]); omega))).mono ?_); rintro en w2 ⟨rfl, v', hwr⟩; have n0_ := Aside0.mk hwr; have n1_ := Aside0.mk (putAll_w hwr HL.out); (try clear hlast); have hlast := (blk_cell hwr.blk 0).trans (rfl : _ = some v'); clear hwr HWr HL; have HWr := n0_; have HL := n1_; clear n0_ n1_) | (go_at_call 65; (with_reducible refine (put2 w _ _ _ _ _ _ _ HWr.out (Nat.le_trans HL.out (by (try simp only [List.length_cons, List.length_nil]); omega))).mono ?_); rintro en w2 ⟨rfl, v', hwr⟩; have n0_ := Aside0.mk hwr; have n1_ := Aside0.mk (putAll_w hwr HL.out); (try clear hlast); have hlast := (blk_cell hwr.blk 0).trans (rfl : _ = some v'); clear hwr HWr HL; have HWr := n0_; have HL := n1_; clear n0_ n1_) | (go_at_call 65; (with_reducible refine (put4 w _ _ _ _ _ _ _ _ _ HWr.out (Nat.le_trans HL.out (by (try simp only [List.length_cons, List.length_nil]); omega))).mono ?_); rintro en w2 ⟨rfl, v', hwr⟩; have n0_ := Aside0.mk hwr; have n1_ := Aside0.mk (putAll_w hwr HL.out); (try clear hlast); have hlast := (blk_cell hwr.blk 0).trans (rfl : _ = some v'); clear hwr HWr HL; have HWr := n0_; have HL := n1_; clear n0_ n1_))
      all_goals
        go_ret2
        have hrow := Kd.R_lower HWr.out.row (show w.heap.size ≤ w1.heap.size + 1 by have := HB.out.size; omega)
        refine ⟨_, rfl, Eq.mp (congrArg (fun l => Kd.R (Kd.int .u8) 5 w2 w.heap.size (fun _ => True) v' l) ?_) hrow, HWr.out.low⟩
        have hr := HRR.out
        try rw [show isFar e s o = (decide (4294967295 ≤ s) || decide (4294967295 ≤ o) || decide (65535 ≤ e)) from rfl, c1, c2, c3]
        have hM2 := HM.out
        simp only [mn] at hM2
        first | (simp only [Bool.or_true, Bool.true_or, Bool.or_false, Bool.false_or, Bool.or_self, if_true, if_false, Bool.false_eq_true, endTail, endFar, mn, hM2, hwe, hws, hwo, hwso]; done) | (exfalso; simp_all [isFar]; done) | (exfalso; simp_all [isFar]; omega) | (simp only [Bool.or_true, Bool.true_or, Bool.or_false, Bool.false_or, Bool.or_self, if_true, if_false, Bool.false_eq_true, endTail, endFar, mn, if_neg (show ¬ (65535 : Int) < e by omega), hwe, hws, hwo, hwso]; done)
end Go.Proofs.Ytfnicahlnpngkaa.ZipEnd
/- zipdir's writer: common, may, walked by hand; a string appended in a drawn region. -/
namespace Go.Proofs.Ytfnicahlnpngkaa.ZipCm
open Go.RowKit Go.Proofs.YtfnicahlnpngkaaW.PrintWords Go.Proofs.YtfnicahlnpngkaaW.PrintLast Go.Proofs.YtfnicahlnpngkaaW.PrintMore Go.Proofs.Ytfnicahlnpngkaa.Base Go.Proofs.Ytfnicahlnpngkaa.NumRead Go.Proofs.Ytfnicahlnpngkaa.ExtraNum Go.Proofs.Ytfnicahlnpngkaa.ZipRd Go.Proofs.Ytfnicahlnpngkaa.ZipNums Go.Proofs.Ytfnicahlnpngkaa.ZipPut Go.Proofs.Ytfnicahlnpngkaa.ZipEnd Go.Proofs.Ytfnicahlnpngkaa.ZipRow
theorem inf5 : (Try.prog.info? 5).map (fun i => (i.zero, i.size, i.bytes)) = some (some (.int .u8 0), 1, 1) := by kernel_rfl
theorem append_str_step {P : Program} {ops : Array Oper} {o : Oper} {a : Act} {Q : Exit → Act → World → Prop} {Kc : Act → World → Prop} {w0 W : World} (base : Nat) (hw : Region.wanted o (yielded ops a.tmps) = true) (s x : Operand) (t u e : TypeId)
    (ho : o.op = .call { callee := .builtin .append, args := #[s, x], argTypes := #[t, u] })
    (ht : P.underlying t = some (.slice e)) (hu : P.underlying u = some .string) (hinfo : (P.info? e).map (fun i => (i.zero, i.size, i.bytes)) = some (some (.int .u8 0), 1, 1))
    (v : Value) (xs : List Int) (y : ByteArray) (hs : a.eval s = v) (hx : a.eval x = .string y)
    (HO : Kd.R (Kd.int .u8) e W base (fun _ => True) v xs) (HB : Below base w0 W) (hbase : base ≤ W.heap.size) (hl : xs.length + y.size ≤ 140737488355328)
    (h : ∀ v1 w1, Kd.R (Kd.int .u8) e w1 base (fun _ => True) v1 (xs ++ bytesOf y) → Below base w0 w1 → W.grownBy w1 v.ownBlock → Kc (a.put o.dst v1) w1) :
    if Region.wanted o (yielded ops a.tmps) = true then Oper.wp P o a W Kc Q else Kc (a.put o.dst undef) W := by
  obtain ⟨i0, hi, hzz⟩ := Option.map_eq_some_iff.1 hinfo
  simp only [Prod.mk.injEq] at hzz
  obtain ⟨hz0, hz1, hz2⟩ := hzz
  have hown : W.ownsRow base e 1 v xs.length (nums .u8 xs) := Kd.own_of_R HO
  obtain ⟨v1, w1, hr, h2, h3, h4⟩ := Lib.run_append_own_string (P := P) W base t u o.type e i0 ht hu hi hz0 hz1 hz2 v xs.length (nums .u8 xs) hown y (by simp only [maxLen]; omega) hl hbase
  have hl2 : (xs ++ bytesOf y).length = xs.length + y.size := by rw [List.length_append, bytesOf_length]
  have hc : nums .u8 (xs ++ bytesOf y) = nums .u8 xs ++ Lib.strCells y := by
    rw [nums_append]
    congr 1
    simp [nums, bytesOf, Lib.strCells]
  rw [if_pos hw]
  unfold Oper.wp execOp
  simp only [ho, resolve, invoke, builtin, Sem.run_bind, Sem.run_pure, Result.andThen_ok, List.map_toArray, List.map_cons, List.map_nil, hs, hx, hr]
  have h2' : w1.ownsRow base e 1 v1 (xs ++ bytesOf y).length (nums .u8 (xs ++ bytesOf y)) := by rw [hl2, hc]; exact h2
  exact h v1 w1 (Kd.R_of_own (ok := fun _ => True) h2' (fun _ _ => trivial)) (HB.grown h3 hbase (own_base hown)) h3
/-- the writer's block and a member's. -/
structure Cm (w0 W : World) (G M : Nat) (v : Value) (l : List Int) (ms : Array Value) : Prop where
  wr : Wr w0 W G v l
  m : W.heap[M]? = some (.cells ms 78 (0, 0))
  ne : M ≠ G
theorem Cm.below {w0 W W' : World} {G M : Nat} {v : Value} {l : List Int} {ms : Array Value} (h : Cm w0 W G M v l ms) (hb : Below W.heap.size W W') : Cm w0 W' G M v l ms := ⟨h.wr.below hb, blk_below h.m hb, h.ne⟩
def CmPost (w0 W : World) (G M : Nat) (l : List Int) (ms : Array Value) (e : Ending) (w' : World) : Prop := e = .returned (.tuple #[]) ∧ ∃ v', Cm w0 w' G M v' l ms ∧ (∀ g, g < W.heap.size → g ≠ G → w'.heap[g]? = W.heap[g]?) ∧ W.heap.size ≤ w'.heap.size
theorem Cm.put {w0 W : World} {G M : Nat} {v : Value} {l : List Int} {ms : Array Value} (h : Cm w0 W G M v l ms) (n : Int) (xs : List Int) (tb : Nat) (k : Nat) (cs : Array Value) (htb : tb = W.heap.size) (hk : xs.length = k) (hcs : (xs.map fun x => Value.int .u64 x).toArray = cs) (hm : xs.length ≤ 1000) (hl : l.length ≤ 140737480000000) :
    Calls Try.prog 65 #[.pointer (some ⟨G, 0, none⟩), .int .i64 n, .slice (some ⟨tb, 0, none⟩) k k] (W.alloc (.cells cs 59)) fun e w' => CmPost w0 W G M (putAll l n xs) ms e w' := by
  subst htb hk hcs
  refine (put_new w0 W G v l n xs h.wr hm hl).mono ?_
  rintro e w' ⟨rfl, v', hw, hsz, ho⟩
  have hMl := blk_lt h.m
  have hsz' : W.heap.size + 1 ≤ w'.heap.size := by simpa using hsz
  refine ⟨rfl, v', ⟨hw, ?_, h.ne⟩, fun g hg hne => ?_, by omega⟩
  · rw [ho M (by simp; omega) h.ne]; exact blk_alloc h.m _
  · rw [ho g (by simp; omega) hne]; exact Below.heap_alloc W _ _ hg
theorem ms_cells {W : World} {M : Nat} {m0 m1 m2 m3 m4 m5 m6 m7 m8 m9 m10 m11 m12 : Value} (h : W.heap[M]? = some (.cells #[m0, m1, m2, m3, m4, m5, m6, m7, m8, m9, m10, m11, m12] 78 (0, 0))) : W.cell? ⟨M, 0, none⟩ = some m0 ∧ W.cell? ⟨M, 1, none⟩ = some m1 ∧ W.cell? ⟨M, 2, none⟩ = some m2 ∧ W.cell? ⟨M, 3, none⟩ = some m3 ∧ W.cell? ⟨M, 4, none⟩ = some m4 ∧ W.cell? ⟨M, 5, none⟩ = some m5 ∧ W.cell? ⟨M, 6, none⟩ = some m6 ∧ W.cell? ⟨M, 7, none⟩ = some m7 ∧ W.cell? ⟨M, 8, none⟩ = some m8 ∧ W.cell? ⟨M, 9, none⟩ = some m9 ∧ W.cell? ⟨M, 10, none⟩ = some m10 ∧ W.cell? ⟨M, 11, none⟩ = some m11 ∧ W.cell? ⟨M, 12, none⟩ = some m12 :=
  ⟨(blk_cell h 0).trans rfl, (blk_cell h 1).trans rfl, (blk_cell h 2).trans rfl, (blk_cell h 3).trans rfl, (blk_cell h 4).trans rfl, (blk_cell h 5).trans rfl, (blk_cell h 6).trans rfl, (blk_cell h 7).trans rfl, (blk_cell h 8).trans rfl, (blk_cell h 9).trans rfl, (blk_cell h 10).trans rfl, (blk_cell h 11).trans rfl, (blk_cell h 12).trans rfl⟩
theorem sm_ (x : Int) (w : World) : Calls Try.prog 64 #[.int .i64 x] w fun en w' => en = .returned (.tuple #[.int .u64 (small_ x), .bool (decide (x ≥ 4294967295))]) ∧ Below w.heap.size w w' := PZip1.zipdir_small.calls x _ _ w rfl
/-- the words of a member that both kinds of headers bear. -/
def comOf (l : List Int) (need flags method date sum packed size nameLen moreLen : Int) : List Int :=
  putAll (putAll (putAll l 2 [IntKind.u64.wrap need, IntKind.u64.wrap flags, IntKind.u64.wrap method, IntKind.u64.wrap (bits .and .i64 date 65535), IntKind.u64.wrap (date / 65536)]) 4 [IntKind.u64.wrap sum, small_ packed, small_ size]) 2 [IntKind.u64.wrap nameLen, IntKind.u64.wrap moreLen]
set_option maxHeartbeats 8000000 in
set_option maxRecDepth 100000 in
theorem wcommon_ (w0 W : World) (G : Nat) (v : Value) (l : List Int) (m0 m1 m2 m3 m4 m5 m6 m7 m11 m12 : Int) (nm cm more : ByteArray) (m9 : Value) (hW : Wr w0 W G v l) (hl : l.length ≤ 1000000) :
    Calls Try.prog 72 #[.pointer (some ⟨G, 0, none⟩), .agg #[.int .i64 m0, .int .i64 m1, .int .i64 m2, .int .i64 m3, .int .i64 m4, .int .u32 m5, .int .i64 m6, .int .i64 m7, .string nm, m9, .string cm, .int .u32 m11, .int .i64 m12], .string more] W fun e w' => e = .returned (.tuple #[]) ∧ ∃ v', Wr w0 w' G v' (comOf l m1 m2 m3 m4 m5 m6 m7 (nm.size : Int) (more.size : Int)) ∧ (∀ g, g < W.heap.size → g ≠ G → w'.heap[g]? = W.heap[g]?) ∧ W.heap.size ≤ w'.heap.size := by
  have hu78 := Try.underlying78
  have C0 := Aside0.mk (Cm.mk (hW.below (below_alloc (Below.refl _ _) _)) (blk_new W (.cells #[.int .i64 m0, .int .i64 m1, .int .i64 m2, .int .i64 m3, .int .i64 m4, .int .u32 m5, .int .i64 m6, .int .i64 m7, .string nm, m9, .string cm, .int .u32 m11, .int .i64 m12] 78)) (by have := blk_lt hW.blk; omega))
  clear hW
  go_enter Try.func72, Try.ntmps72
  go_wp2_with (fail)
  refine (sm_ _ _).mono ?_
  rintro e w1 ⟨rfl, hb⟩
  have C1 := Aside0.mk (C0.out.below hb)
  have B1 := Aside0.mk (below_then (below_alloc (Below.refl W.heap.size W) _) (by simp) hb)
  obtain ⟨_, c1, c2, c3, c4, c5, c6, c7, c8, _, _, _, _⟩ := ms_cells C1.out.m
  clear hb C0
  go_wp2_with (fail)
  refine (sm_ _ _).mono ?_
  rintro e w2 ⟨rfl, hb⟩
  have C2 := Aside0.mk (C1.out.below hb)
  have B2 := Aside0.mk (below_then B1.out B1.out.size hb)
  clear c1 c2 c3 c4 c5 c6 c7 c8
  obtain ⟨_, c1, c2, c3, c4, c5, c6, c7, c8, _, _, _, _⟩ := ms_cells C2.out.m
  clear hb C1 B1
  go_wp2_with (fail)
  refine (C2.out.put 2 [IntKind.u64.wrap m1, IntKind.u64.wrap m2, IntKind.u64.wrap m3, IntKind.u64.wrap (bits .and .i64 m4 65535), IntKind.u64.wrap (m4 / 65536)] _ 5 _ rfl rfl rfl (by simp) (by omega)).mono ?_
  rintro e w3 ⟨rfl, v3, hC, ho, hsz⟩
  have l3 := putAll_len 2 [IntKind.u64.wrap m1, IntKind.u64.wrap m2, IntKind.u64.wrap m3, IntKind.u64.wrap (bits .and .i64 m4 65535), IntKind.u64.wrap (m4 / 65536)] l
  simp only [List.length_cons, List.length_nil] at l3
  have C3 := Aside0.mk hC
  have O3 := Aside0.mk ho
  have S3 := Aside0.mk hsz
  have E3 := Aside0.mk l3
  clear c1 c2 c3 c4 c5 c6 c7 c8 hC ho hsz l3
  obtain ⟨_, c1, c2, c3, c4, c5, c6, c7, c8, _, _, _, _⟩ := ms_cells C3.out.m
  go_wp2_with (fail)
  refine (C3.out.put 4 [IntKind.u64.wrap m5, small_ m6, small_ m7] _ 3 _ rfl rfl rfl (by simp) (by have := E3.out; omega)).mono ?_
  rintro e w4 ⟨rfl, v4, hC, ho, hsz⟩
  have l4 := putAll_len 4 [IntKind.u64.wrap m5, small_ m6, small_ m7] (putAll l 2 [IntKind.u64.wrap m1, IntKind.u64.wrap m2, IntKind.u64.wrap m3, IntKind.u64.wrap (bits .and .i64 m4 65535), IntKind.u64.wrap (m4 / 65536)])
  simp only [List.length_cons, List.length_nil] at l4
  have C4 := Aside0.mk hC
  have O4 := Aside0.mk ho
  have S4 := Aside0.mk hsz
  have E4 := Aside0.mk l4
  clear c1 c2 c3 c4 c5 c6 c7 c8 hC ho hsz l4
  obtain ⟨_, c1, c2, c3, c4, c5, c6, c7, c8, _, _, _, _⟩ := ms_cells C4.out.m
  go_wp2_with (fail)
  refine (C4.out.put 2 [IntKind.u64.wrap (nm.size : Int), IntKind.u64.wrap (more.size : Int)] _ 2 _ rfl rfl rfl (by simp) (by have := E3.out; have := E4.out; omega)).mono ?_
  rintro e w5 ⟨rfl, v5, hC, ho, hsz⟩
  have C5 := Aside0.mk hC
  have O5 := Aside0.mk ho
  have S5 := Aside0.mk hsz
  clear c1 c2 c3 c4 c5 c6 c7 c8 hC ho hsz
  go_wp2
  go_end0
  have s2 := B2.out.size
  have s3 := S3.out
  have s4 := S4.out
  have s5 := S5.out
  exact ⟨rfl, v5, C5.out.wr, fun g hg hne => by rw [O5.out g (by omega) hne, O4.out g (by omega) hne, O3.out g (by omega) hne, B2.out.block g hg], by omega⟩
end Go.Proofs.Ytfnicahlnpngkaa.ZipCm
/- zipdir.may, walked by hand. -/
namespace Go.Proofs.Ytfnicahlnpngkaa.ZipMay
open Go.RowKit Go.Proofs.YtfnicahlnpngkaaW.PrintWords Go.Proofs.YtfnicahlnpngkaaW.PrintLast Go.Proofs.YtfnicahlnpngkaaW.PrintMore Go.Proofs.Ytfnicahlnpngkaa.Base Go.Proofs.Ytfnicahlnpngkaa.NumRead Go.Proofs.Ytfnicahlnpngkaa.ExtraNum Go.Proofs.Ytfnicahlnpngkaa.ZipRd Go.Proofs.Ytfnicahlnpngkaa.ZipNums Go.Proofs.Ytfnicahlnpngkaa.ZipPut Go.Proofs.Ytfnicahlnpngkaa.ZipEnd Go.Proofs.Ytfnicahlnpngkaa.ZipRow Go.Proofs.Ytfnicahlnpngkaa.ZipCm
theorem within_l0 (m : Int) (l : List Int) (hl : l.length ≤ 1000) : ∀ (k i : Nat), i ≤ l.length → l.length < k + i → PZip1.zipdir_within.l0 k m l (l.length : Int) (i : Int) = some (within_ m (l.drop i))
  | 0, i, h1, h2 => by omega
  | k + 1, i, h1, h2 => by
    rw [PZip1.zipdir_within.l0]
    by_cases hi : i < l.length
    · have hw : wrap64 ((i : Int) + 1) = ((i + 1 : Nat) : Int) := by rw [wrap64_id (by omega) (by omega)]; omega
      have hr : rd l (i : Int) = l[i] := by simp [rd, hi]
      rw [if_pos (by omega), if_pos (by omega), if_pos (by omega), hr, hw, List.drop_eq_getElem_cons hi, within_, List.all_cons]
      by_cases a : l[i] < 0
      · rw [if_pos a]; simp [show ¬ 0 ≤ l[i] by omega]
      · rw [if_neg a]
        by_cases b : l[i] > m
        · rw [if_pos b]; simp [show ¬ l[i] ≤ m by omega]
        · rw [if_neg b, within_l0 m l hl k (i + 1) (by omega) (by omega)]
          simp [show 0 ≤ l[i] by omega, show l[i] ≤ m by omega, within_]
    · rw [if_neg (by omega), List.drop_of_length_le (by omega)]
      rfl
theorem within_f (m : Int) (l : List Int) (hl : l.length ≤ 1000) : PZip1.zipdir_within.f (l.length + 1) m l = some (within_ m l) := by
  have := within_l0 m l hl (l.length + 1) 0 (by omega) (by omega)
  simpa [PZip1.zipdir_within.f] using this
/-- within over a fresh row. -/
theorem within_new (W : World) (m : Int) (xs : List Int) (tb k : Nat) (cs : Array Value) (htb : tb = W.heap.size) (hk : xs.length = k) (hcs : (xs.map fun x => Value.int .i64 x).toArray = cs) (hm : xs.length ≤ 1000) :
    Calls Try.prog 63 #[.int .i64 m, .slice (some ⟨tb, 0, none⟩) k k] (W.alloc (.cells cs 3)) fun en w' => en = .returned (.bool (within_ m xs)) ∧ Below W.heap.size W w' := by
  subst htb hk hcs
  exact (PZip1.zipdir_within.calls (xs.length + 1) m (some ⟨W.heap.size, 0, none⟩) xs.length xs (within_ m xs) _ (lit_C W xs hm) (Nat.le_refl _) (within_f m xs hm)).mono fun e w' h => ⟨h.1, below_then (below_alloc (Below.refl _ _) _) (by simp) h.2.below⟩
def mayB (m0 m1 m2 m3 m4 m6 m7 nl cl m12 : Int) : Bool := within_ 65535 [m0, m1, m2, m3, nl, cl] && within_ 4294967295 [m4] && within_ 4611686018427387904 [m6, m7, m12]
set_option maxHeartbeats 8000000 in
set_option maxRecDepth 100000 in
theorem may_ (W : World) (m0 m1 m2 m3 m4 m5 m6 m7 m11 m12 : Int) (nm cm : ByteArray) (m9 : Value) :
    Calls Try.prog 70 #[.agg #[.int .i64 m0, .int .i64 m1, .int .i64 m2, .int .i64 m3, .int .i64 m4, .int .u32 m5, .int .i64 m6, .int .i64 m7, .string nm, m9, .string cm, .int .u32 m11, .int .i64 m12]] W fun e w' => e = .returned (.bool (mayB m0 m1 m2 m3 m4 m6 m7 (nm.size : Int) (cm.size : Int) m12)) ∧ Below W.heap.size W w' := by
  have hu78 := Try.underlying78
  obtain ⟨M0, hM0⟩ : ∃ M0, M0 = W.heap[W.heap.size]? := ⟨_, rfl⟩
  have B0 := Aside0.mk (below_alloc (Below.refl W.heap.size W) (.cells #[.int .i64 m0, .int .i64 m1, .int .i64 m2, .int .i64 m3, .int .i64 m4, .int .u32 m5, .int .i64 m6, .int .i64 m7, .string nm, m9, .string cm, .int .u32 m11, .int .i64 m12] 78))
  have K0 := Aside0.mk (blk_new W (.cells #[.int .i64 m0, .int .i64 m1, .int .i64 m2, .int .i64 m3, .int .i64 m4, .int .u32 m5, .int .i64 m6, .int .i64 m7, .string nm, m9, .string cm, .int .u32 m11, .int .i64 m12] 78))
  obtain ⟨b1, hb1⟩ : ∃ b, within_ 65535 [m0, m1, m2, m3, (nm.size : Int), (cm.size : Int)] = b := ⟨_, rfl⟩
  obtain ⟨b2, hb2⟩ : ∃ b, within_ 4294967295 [m4] = b := ⟨_, rfl⟩
  obtain ⟨b3, hb3⟩ : ∃ b, within_ 4611686018427387904 [m6, m7, m12] = b := ⟨_, rfl⟩
  have hB : mayB m0 m1 m2 m3 m4 m6 m7 (nm.size : Int) (cm.size : Int) m12 = (b1 && b2 && b3) := by unfold mayB; rw [hb1, hb2, hb3]
  rw [hB]
  have H1 := Aside0.mk hb1
  have H2 := Aside0.mk hb2
  have H3 := Aside0.mk hb3
  clear hb1 hb2 hb3 hB hM0
  go_enter Try.func70, Try.ntmps70
  go_wp2_with (fail)
  refine (within_new _ 65535 [m0, m1, m2, m3, (nm.size : Int), (cm.size : Int)] _ 6 _ ?hz rfl rfl (by simp)).mono ?_
  case hz => simp
  rintro e w1 ⟨rfl, hb⟩
  rw [H1.out]
  have B1 := Aside0.mk (below_then B0.out B0.out.size hb)
  have K1 := blk_below K0.out hb
  obtain ⟨_, _, _, _, c4, _, c6, c7, _, _, _, _, c12⟩ := ms_cells K1
  have K1 := Aside0.mk K1
  clear hb K0 B0
  cases b1 with
  | false =>
    go_wp2
    go_ret
    exact ⟨rfl, B1.out⟩
  | true =>
    go_wp2_with (fail)
    refine (within_new _ 4294967295 [m4] _ 1 _ rfl rfl rfl (by simp)).mono ?_
    rintro e w2 ⟨rfl, hb⟩
    rw [H2.out]
    have B2 := Aside0.mk (below_then B1.out B1.out.size hb)
    have K2 := blk_below K1.out hb
    clear c4 c6 c7 c12
    obtain ⟨_, _, _, _, _, _, c6, c7, _, _, _, _, c12⟩ := ms_cells K2
    clear hb K1 B1 K2
    cases b2 with
    | false =>
      go_wp2
      go_ret
      exact ⟨rfl, B2.out⟩
    | true =>
      go_wp2_with (fail)
      refine (within_new _ 4611686018427387904 [m6, m7, m12] _ 3 _ rfl rfl rfl (by simp)).mono ?_
      rintro e w3 ⟨rfl, hb⟩
      rw [H3.out]
      have B3 := Aside0.mk (below_then B2.out B2.out.size hb)
      clear hb B2 c6 c7 c12
      go_wp2
      go_ret
      exact ⟨rfl, B3.out⟩
end Go.Proofs.Ytfnicahlnpngkaa.ZipMay

/- extra.Big, walked by hand: what it comes to, and the walk (it recovers its own panic). ZipdirBack: the printed namespace. -/
import Derived.Test.YtfnicahlnpngkaaPZipdirBackx0
import Derived.Test.YtfnicahlnpngkaaExtraNum
set_option linter.unusedVariables false
set_option linter.unusedSimpArgs false
namespace Go.Proofs.Ytfnicahlnpngkaa.ExtraBigOfZipdirBack
open Go.RowKit Go.Proofs.YtfnicahlnpngkaaW.PrintWords Go.Proofs.YtfnicahlnpngkaaW.PrintLast Go.Proofs.YtfnicahlnpngkaaW.PrintMore Go.Proofs.Ytfnicahlnpngkaa.Base Go.Proofs.Ytfnicahlnpngkaa.NumRead Go.Proofs.Ytfnicahlnpngkaa.ExtraNum Go.Proofs.Ytfnicahlnpngkaa.PZipdirBack

theorem inf3 : (Try.prog.info? 3).map (fun i => (i.zero, i.size, i.bytes)) = some (some (.int .i64 0), 1, 8) := by kernel_rfl
def cnt : List Bool → Int
  | [] => 0
  | true :: ws => 1 + cnt ws
  | false :: ws => cnt ws
theorem cnt_range : ∀ ws, 0 ≤ cnt ws ∧ cnt ws ≤ ws.length
  | [] => by simp [cnt]
  | true :: ws => by have := cnt_range ws; simp [cnt]; omega
  | false :: ws => by have := cnt_range ws; simp [cnt]; omega
/-- the great numbers that are wanted, out of a field's bytes; none: it panics. -/
def bigGo (d : ByteArray) : List Bool → Int → Nat → List Int → Option (List Int)
  | [], _, _, xs => some xs
  | false :: ws, at_, j, xs => bigGo d ws at_ (j + 1) xs
  | true :: ws, at_, j, xs => match exNum (bytesOf d) at_ 8 with
    | none => none
    | some v => bigGo d ws (at_ + 8) (j + 1) (xs.set j v)
def bigRes (ws : List Bool) : List S38 → List Int × Int
  | [] => ([], 2)
  | x :: l => if x.f0 = 1 then (if (x.f1.size : Int) = 8 * cnt ws then (match bigGo x.f1 ws 0 0 (List.replicate ws.length 0) with | none => ([], 2) | some v => (v, 0)) else ([], 2)) else bigRes ws l
def extra_Big.f (l0 : List S38) (l1 : List Bool) : Option (List Int × Int) :=
  if l0.length ≤ 100000000 ∧ l1.length ≤ 100000000 then some (if cnt l1 = 0 then (List.replicate l1.length 0, 0) else bigRes l1 l0) else none

theorem drop_rd (l : List S38) (i : Nat) (h : i < l.length) : l.drop i = rd_T38 l i :: l.drop (i + 1) := by
  rw [List.drop_eq_getElem_cons h]
  congr 1
  unfold rd_T38
  rw [Int.toNat_natCast, List.getD_eq_getElem?_getD, List.getElem?_eq_getElem h]
  rfl
theorem drop_bool (l : List Bool) (i : Nat) (h : i < l.length) : l.drop i = rdOf false l i :: l.drop (i + 1) := by
  rw [List.drop_eq_getElem_cons h]
  congr 1
  unfold rdOf
  rw [Int.toNat_natCast, List.getD_eq_getElem?_getD, List.getElem?_eq_getElem h]
  rfl

/-- behind a panic: the closure recovers, what is read of the results' variables. -/
theorem door_panic (w w1 : World) (v : Value) (tmps : Array Value) (Q : Ending → World → Prop) (h2 : tmps[4]? = some (.pointer (some ⟨w.heap.size, 0, none⟩))) (h3 : tmps[5]? = some (.pointer (some ⟨w.heap.size + 1, 0, none⟩)))
    (z0 : w1.heap[w.heap.size]? = some (.cells #[v] 35 (0, 0))) (z1 : w1.heap[w.heap.size + 1]? = some (.cells #[.int .i64 0] 23 (0, 0)))
    (hQ : ∀ w', Below w.heap.size w1 w' → Q (.returned (.tuple #[.slice none 0 0, .int .i64 2])) w') :
    bodyPostD Try.prog Try.f22 Q (Exit.panic [{ v := fault 2, recovered := false }])
      { tmps := tmps, defers := [{ target := .fn (.func 56) #[.pointer (some ⟨w.heap.size, 0, none⟩), .pointer (some ⟨w.heap.size + 1, 0, none⟩)], args := #[] }] } w1 := by
  have c0 : w1.cell? ⟨w.heap.size, 0, none⟩ = some v := (blk_cell z0 0).trans rfl
  have c1 : w1.cell? ⟨w.heap.size + 1, 0, none⟩ = some (.int .i64 0) := (blk_cell z1 0).trans rfl
  have l1 := blk_lt z1
  refine leaves_cons (f := 56) (args := #[.pointer (some ⟨w.heap.size, 0, none⟩), .pointer (some ⟨w.heap.size + 1, 0, none⟩)]) (by simp) (by simp [go_sem]) ?_
  refine (catch_panicking_Big ⟨w.heap.size, 0, none⟩ ⟨w.heap.size + 1, 0, none⟩ 2 [] _ (x := v) (y := .int .i64 0) c0 c1 (blk_frozen z0 0) (blk_frozen z1 0) (by simp)).mono ?_
  rintro e u' w'' ⟨rfl, rfl, rfl⟩
  have d0 : ((((w1.alloc (.cells #[.int .i64 2, .int .i64 0] 92)).setCell ⟨w.heap.size, 0, none⟩ (.slice none 0 0)).setCell ⟨w.heap.size + 1, 0, none⟩ (.int .i64 2)).drew).cell? ⟨w.heap.size, 0, none⟩ = some (.slice none 0 0) := by
    show (((w1.alloc (.cells #[.int .i64 2, .int .i64 0] 92)).setCell ⟨w.heap.size, 0, none⟩ (.slice none 0 0)).setCell ⟨w.heap.size + 1, 0, none⟩ (.int .i64 2)).cell? ⟨w.heap.size, 0, none⟩ = _
    rw [World.cell?_setCell_other _ _ _ _ (by simp), World.cell?_setCell_same _ _ _ ((World.cell?_alloc_lt _ _ _ (by show w.heap.size < w1.heap.size; omega)).trans c0)]
  have d1 : ((((w1.alloc (.cells #[.int .i64 2, .int .i64 0] 92)).setCell ⟨w.heap.size, 0, none⟩ (.slice none 0 0)).setCell ⟨w.heap.size + 1, 0, none⟩ (.int .i64 2)).drew).cell? ⟨w.heap.size + 1, 0, none⟩ = some (.int .i64 2) := by
    show (((w1.alloc (.cells #[.int .i64 2, .int .i64 0] 92)).setCell ⟨w.heap.size, 0, none⟩ (.slice none 0 0)).setCell ⟨w.heap.size + 1, 0, none⟩ (.int .i64 2)).cell? ⟨w.heap.size + 1, 0, none⟩ = _
    rw [World.cell?_setCell_same _ _ _ ((World.cell?_setCell_other _ _ _ _ (by simp)).trans ((World.cell?_alloc_lt _ _ _ (by show w.heap.size + 1 < w1.heap.size; omega)).trans c1))]
  have hB : Below w.heap.size w1 ((((w1.alloc (.cells #[.int .i64 2, .int .i64 0] 92)).setCell ⟨w.heap.size, 0, none⟩ (.slice none 0 0)).setCell ⟨w.heap.size + 1, 0, none⟩ (.int .i64 2)).drew) :=
    below_drew ((((Below.refl _ _).alloc (by omega) _).setCell (by simp) _).setCell (by simp) _)
  have hq := hQ _ hB
  generalize ((((w1.alloc (.cells #[.int .i64 2, .int .i64 0] 92)).setCell ⟨w.heap.size, 0, none⟩ (.slice none 0 0)).setCell ⟨w.heap.size + 1, 0, none⟩ (.int .i64 2)).drew) = w2 at d0 d1 hq ⊢
  simp [Leaves, settle, results, Try.results22, go_sem, h2, h3, d0, d1]
  exact hq

/-- behind a plain return. -/
theorem door_ok (w w1 : World) (v : Value) (tmps : Array Value) (Q : Ending → World → Prop) (h2 : tmps[4]? = some (.pointer (some ⟨w.heap.size, 0, none⟩))) (h3 : tmps[5]? = some (.pointer (some ⟨w.heap.size + 1, 0, none⟩)))
    (z0 : w1.heap[w.heap.size]? = some (.cells #[v] 35 (0, 0))) (ec : Int) (z1 : w1.heap[w.heap.size + 1]? = some (.cells #[.int .i64 ec] 23 (0, 0)))
    (hQ : ∀ o : Obj, Q (.returned (.tuple #[v, .int .i64 ec])) (w1.alloc o)) :
    bodyPostD Try.prog Try.f22 Q Exit.ret
      { tmps := tmps, defers := [{ target := .fn (.func 56) #[.pointer (some ⟨w.heap.size, 0, none⟩), .pointer (some ⟨w.heap.size + 1, 0, none⟩)], args := #[] }] } w1 := by
  have c0 : w1.cell? ⟨w.heap.size, 0, none⟩ = some v := (blk_cell z0 0).trans rfl
  have c1 : w1.cell? ⟨w.heap.size + 1, 0, none⟩ = some (.int .i64 ec) := (blk_cell z1 0).trans rfl
  have l1 := blk_lt z1
  refine leaves_cons (f := 56) (args := #[.pointer (some ⟨w.heap.size, 0, none⟩), .pointer (some ⟨w.heap.size + 1, 0, none⟩)]) (by simp) (by simp [go_sem]) ?_
  refine (catch_idle_Big ⟨w.heap.size, 0, none⟩ ⟨w.heap.size + 1, 0, none⟩ _).mono ?_
  rintro e u' w'' ⟨rfl, rfl, rfl⟩
  have d0 := (World.cell?_alloc_lt w1 (.cells #[.int .i64 0, .int .i64 0] 92) ⟨w.heap.size, 0, none⟩ (by show w.heap.size < w1.heap.size; omega)).trans c0
  have d1 := (World.cell?_alloc_lt w1 (.cells #[.int .i64 0, .int .i64 0] 92) ⟨w.heap.size + 1, 0, none⟩ (by show w.heap.size + 1 < w1.heap.size; omega)).trans c1
  have hq := hQ (.cells #[.int .i64 0, .int .i64 0] 92)
  generalize w1.alloc (.cells #[.int .i64 0, .int .i64 0] 92) = w2 at d0 d1 hq ⊢
  simp [Leaves, settle, results, Try.results22, go_sem, h2, h3, d0, d1]
  exact hq


/-- memory at the rounds' heads: the results' variables, the row that is made. -/
def InvB (w wr : World) (m : Nat) (xs : List Int) : Prop :=
  wr.heap[w.heap.size]? = some (.cells #[.slice (some ⟨w.heap.size + 1 + 1, 0, none⟩) m m] 35 (0, 0)) ∧ wr.heap[w.heap.size + 1]? = some (.cells #[.int .i64 0] 23 (0, 0)) ∧
    wr.ownsRow (w.heap.size + 2) 3 1 (.slice (some ⟨w.heap.size + 1 + 1, 0, none⟩) m m) m (nums .i64 xs) ∧ Below w.heap.size w wr ∧ w.heap.size + 3 ≤ wr.heap.size
theorem InvB.below {w wr w1 : World} {m : Nat} {xs : List Int} (h : InvB w wr m xs) (hb : Below wr.heap.size wr w1) : InvB w w1 m xs := by
  obtain ⟨h1, h2, h3, h4, h5⟩ := h
  exact ⟨blk_below h1 hb, blk_below h2 hb, pw_own_below h3 hb, below_then h4 h4.size hb, Nat.le_trans h5 hb.size⟩
theorem InvB.store {w wr : World} {m : Nat} {xs : List Int} (h : InvB w wr m xs) (i x : Int) : InvB w (wr.setCell ⟨w.heap.size + 1 + 1, i.toNat, none⟩ (.int .i64 x)) m (xs.set i.toNat x) := by
  obtain ⟨h1, h2, h3, h4, h5⟩ := h
  refine ⟨?_, ?_, (own_store h3 i x).1, h4.setCell (by show w.heap.size ≤ w.heap.size + 1 + 1; omega) _, by simp [World.setCell]; omega⟩
  · rw [Below.heap_setCell _ _ _ _ (by show w.heap.size ≠ w.heap.size + 1 + 1; omega)]; exact h1
  · rw [Below.heap_setCell _ _ _ _ (by show w.heap.size + 1 ≠ w.heap.size + 1 + 1; omega)]; exact h2

theorem invB0 (w : World) (m : Nat) (hm : m ≤ 100000000) : InvB w (((w.alloc (.cells #[.slice (some ⟨w.heap.size + 1 + 1, 0, none⟩) m m] 35)).alloc (.cells #[.int .i64 0] 23)).alloc (.cells (madeCells #[.int .i64 0] m) 3)) m (List.replicate m 0) := by
  obtain ⟨g0, g1, hsz, hB⟩ := two_new w (.cells #[.slice (some ⟨w.heap.size + 1 + 1, 0, none⟩) m m] 35) (.cells #[.int .i64 0] 23)
  have ho := own_made ((w.alloc (.cells #[.slice (some ⟨w.heap.size + 1 + 1, 0, none⟩) m m] 35)).alloc (.cells #[.int .i64 0] 23)) (w.heap.size + 2) 3 .i64 m (by omega) (by omega)
  rw [hsz] at ho
  refine ⟨?_, ?_, ho, hB.alloc (by omega) _, by simp⟩
  · rw [Below.heap_alloc _ _ _ (by omega)]; exact g0
  · rw [Below.heap_alloc _ _ _ (by omega)]; exact g1
theorem bigGo_length (d : ByteArray) : ∀ (ws : List Bool) (at_ : Int) (j : Nat) (xs r : List Int), bigGo d ws at_ j xs = some r → r.length = xs.length
  | [], _, _, xs, r, h => by injection h with h; rw [h]
  | false :: ws, at_, j, xs, r, h => bigGo_length d ws at_ (j + 1) xs r h
  | true :: ws, at_, j, xs, r, h => by
    rw [bigGo] at h
    cases hx : exNum (bytesOf d) at_ 8 with
    | none => rw [hx] at h; cases h
    | some v => rw [hx] at h; rw [bigGo_length d ws (at_ + 8) (j + 1) _ r h]; simp

set_option maxHeartbeats 8000000 in
set_option maxRecDepth 100000 in
theorem extra_Big.calls (A0 : Option Addr) (c0 : Nat) (l0 : List S38) (A1 : Option Addr) (c1 : Nat) (l1 : List Bool) (r1 : List Int) (r2 : Int) (w : World) (hr0 : Kd.C k38 w A0 l0.length l0) (hc0 : l0.length ≤ c0) (hr1 : Kd.C Kd.bool w A1 l1.length l1) (hc1 : l1.length ≤ c1) (h : extra_Big.f l0 l1 = some (r1, r2)) :
    Calls Try.prog 22 #[.slice A0 l0.length c0, .slice A1 l1.length c1] w fun e w' => ∃ v0_ : Value, e = .returned (.tuple #[v0_, .int .i64 r2]) ∧ Kd.R (Kd.int .i64) 3 w' w.heap.size (fun _ => True) v0_ r1 ∧ Below w.heap.size w w' := by
  have hmf : ∀ (fn : Fn) (first cap : Array Value) (w : World), (Instr.makeFunc fn first cap).run Try.prog w = .ok (.func fn first cap) w := fun _ _ _ _ => rfl
  have hu38 := Try.underlying38
  unfold extra_Big.f at h
  by_cases hl : l0.length ≤ 100000000 ∧ l1.length ≤ 100000000
  · rw [if_pos hl, Option.some.injEq] at h
    have HF := Aside0.mk h
    have HR0 := Aside0.mk hr0
    have HR1 := Aside0.mk hr1
    obtain ⟨hl0, hl1⟩ := hl
    have hmk := print_make (P := Try.prog) 35 3 .i64 8 Try.underlying35 inf3 (by omega) l1.length (by omega)
    have hcr := cnt_range l1
    clear h hr0 hr1 hc0 hc1
    go_enter_defers Try.func22, Try.ntmps22
    go_wp2
    go_loopg [6, 17] (l1.length + 1) (fun kq v6 v17 wr => ∃ (j k : Int), v17 = .int .i64 j ∧ v6 = .int .i64 k ∧ Aside0 (0 ≤ j ∧ j ≤ (l1.length : Int) ∧ (l1.length : Int) - j < kq) ∧ Aside0 (0 ≤ k ∧ k ≤ j ∧ k + cnt (l1.drop j.toNat) = cnt l1) ∧ wr = (w.alloc (.cells #[.slice none 0 0] 35)).alloc (.cells #[.int .i64 0] 23))
    case atStart => exact ⟨0, 0, rfl, rfl, ⟨by omega, by omega, by omega⟩, ⟨by omega, by omega, by simp⟩, rfl⟩
    case round =>
      obtain ⟨j, k, rfl, rfl, HJ, HK, rfl⟩ := hrel
      have hj := HJ.out
      have hk := HK.out
      have hj0 : 0 ≤ j := hj.1
      by_cases hlt : j < (l1.length : Int)
      · obtain ⟨ad, hA, hx⟩ := Kd.at_bool HR1.out j hj0 hlt
        cases hA
        have hx' : ((w.alloc (.cells #[.slice none 0 0] 35)).alloc (.cells #[.int .i64 0] 23)).cell? (ad.add j.toNat) = some (.bool (rdOf false l1 j)) := ((two_new w _ _).2.2.2.cell (World.block_lt_of_cell? w _ hx)).trans hx
        have hd := drop_bool l1 j.toNat (by omega)
        rw [show ((j.toNat : Nat) : Int) = j by omega] at hd
        obtain ⟨kq, rfl⟩ : ∃ kq, gk = kq + 1 := ⟨gk - 1, by omega⟩
        have p1 := eq_true hj0
        have q1 := eq_true hlt
        cases hb : rdOf false l1 j with
        | true =>
          rw [hb] at hx' hd
          have hcnt : cnt (l1.drop j.toNat) = 1 + cnt (l1.drop (j.toNat + 1)) := by rw [hd]; rfl
          have hk0 : 0 ≤ k := hk.1
          have hk1 : k ≤ 100000000 := by omega
          have hj1 : j ≤ 100000000 := by omega
          have HD := Aside0.mk hcnt
          clear hd hb hx hcnt hlt hcr hj hk hmk
          go_wp2
          go_roundg kq
          case measure => omega
          case rel => exact ⟨j + 1, k + 1, rfl, rfl, ⟨by omega, by have := HJ.out; have := of_eq_true q1; omega, by have := HJ.out; omega⟩, ⟨by omega, by have := HK.out; omega, by have := HK.out; rw [show (j + 1).toNat = j.toNat + 1 by omega]; have := HD.out; omega⟩, rfl⟩
        | false =>
          rw [hb] at hx' hd
          have hcnt : cnt (l1.drop j.toNat) = cnt (l1.drop (j.toNat + 1)) := by rw [hd]; rfl
          have hk0 : 0 ≤ k := hk.1
          have hk1 : k ≤ 100000000 := by omega
          have hj1 : j ≤ 100000000 := by omega
          have HD := Aside0.mk hcnt
          clear hd hb hx hcnt hlt hcr hj hk hmk
          go_wp2
          go_roundg kq
          case measure => omega
          case rel => exact ⟨j + 1, k, rfl, rfl, ⟨by omega, by have := HJ.out; have := of_eq_true q1; omega, by have := HJ.out; omega⟩, ⟨by omega, by have := HK.out; omega, by have := HK.out; rw [show (j + 1).toNat = j.toNat + 1 by omega]; have := HD.out; omega⟩, rfl⟩
      · have hkc : k = cnt l1 := by
          have := hk.2.2
          rw [List.drop_of_length_le (by omega)] at this
          simp only [cnt] at this
          omega
        subst hkc
        have b0 : decide (j < (l1.length : Int)) = false := decide_eq_false hlt
        clear hlt hj hk hj0 HJ HK
        by_cases hz : cnt l1 = 0
        · have hz0 : (cnt l1 == 0) = true := beq_iff_eq.mpr hz
          have hf := HF.out
          rw [if_pos hz] at hf
          obtain ⟨rfl, rfl⟩ := Prod.mk.inj hf
          clear hz hf HF
          go_wp2_with fail
          have hi := invB0 w l1.length hl1
          exact door_ok w _ _ _ _ rfl rfl hi.1 0 hi.2.1 (fun o => ⟨_, rfl, Kd.R_alloc (Kd.R_lower (Kd.R_of_own (base := w.heap.size + 2) (by rw [List.length_replicate]; exact hi.2.2.1) (fun _ _ => trivial)) (by omega)) o, hi.2.2.2.1.alloc hi.2.2.2.1.size o⟩)
        · have hz0 : (cnt l1 == 0) = false := beq_eq_false_iff_ne.mpr hz
          have hf := HF.out
          rw [if_neg hz] at hf
          have HFF := Aside0.mk hf
          clear hz hf HF
          go_wp2_with fail
          have HI0 := Aside0.mk (invB0 w l1.length hl1)
          generalize (((w.alloc (.cells #[.slice (some ⟨w.heap.size + 1 + 1, 0, none⟩) l1.length l1.length] 35)).alloc (.cells #[.int .i64 0] 23)).alloc (.cells (madeCells #[.int .i64 0] l1.length) 3)) = W0 at HI0 ⊢
          clear hmk
          go_loopg [33] (l0.length + 1) (fun kq v33 wr => ∃ (i : Int), v33 = .int .i64 i ∧ Aside0 (0 ≤ i ∧ i ≤ (l0.length : Int) ∧ (l0.length : Int) - i < kq) ∧ Aside0 (bigRes l1 (l0.drop i.toNat) = (r1, r2)) ∧ Aside0 (InvB w wr l1.length (List.replicate l1.length 0)))
          case atStart => exact ⟨0, rfl, ⟨by omega, by omega, by omega⟩, HFF, HI0⟩
          case round =>
            clear HI0
            obtain ⟨i, rfl, HJ, HP, HI⟩ := hrel
            have hj := HJ.out
            have hi0 : 0 ≤ i := hj.1
            obtain ⟨kq, rfl⟩ : ∃ kq, gk = kq + 1 := ⟨gk - 1, by omega⟩
            by_cases hlt : i < (l0.length : Int)
            · have hp := HP.out
              rw [drop_rd l0 i.toNat (by omega), bigRes, show ((i.toNat : Nat) : Int) = i by omega] at hp
              obtain ⟨ad, hA, hx0, hx1⟩ := at_T38 HR0.out i hi0 hlt
              cases hA
              replace hx0 := (HI.out.2.2.2.1.cell (World.block_lt_of_cell? w _ hx0)).trans hx0
              replace hx1 := (HI.out.2.2.2.1.cell (World.block_lt_of_cell? w _ hx1)).trans hx1
              have p1 := eq_true hi0
              have q1 := eq_true hlt
              have hi8 : i ≤ 100000000 := by omega
              obtain ⟨d, hd⟩ : ∃ d, (rd_T38 l0 i).f1 = d := ⟨_, rfl⟩
              rw [hd] at hx1 hp
              clear hlt hi0 hj hd
              by_cases h1 : (rd_T38 l0 i).f0 = 1
              · rw [if_pos h1] at hp
                have e0 : ((rd_T38 l0 i).f0 == 1) = true := beq_iff_eq.mpr h1
                have e1 : ((rd_T38 l0 i).f0 != 1) = false := bne_eq_false_iff_eq.mpr h1
                clear h1
                by_cases h2 : (d.size : Int) = 8 * cnt l1
                · rw [if_pos h2] at hp
                  have e2 : ((d.size : Int) == 8 * cnt l1) = true := beq_iff_eq.mpr h2
                  have e3 : ((d.size : Int) != 8 * cnt l1) = false := bne_eq_false_iff_eq.mpr h2
                  have hds : d.size ≤ 800000000 := by omega
                  have HPP := Aside0.mk hp
                  clear h2 hp HP
                  have kb := run_bytes d
                  have HG0 : Aside0 ((wr.alloc (.cells #[.int .i64 (rd_T38 l0 i).f0, .string d] 38)).heap[wr.heap.size]? = some (.cells #[.int .i64 (rd_T38 l0 i).f0, .string d] 38 (0, 0))) := ⟨heap_alloc_new _ _⟩
                  have HI1 := Aside0.mk (HI.out.below ((Below.refl _ _).alloc (Nat.le_refl _) (.cells #[.int .i64 (rd_T38 l0 i).f0, .string d] 38)))
                  go_wp2
                  generalize wr.alloc (.cells #[.int .i64 (rd_T38 l0 i).f0, .string d] 38) = W2 at HG0 HI1 ⊢
                  obtain ⟨gf, hgf⟩ : ∃ gf, wr.heap.size = gf := ⟨_, rfl⟩
                  have hgf3 : w.heap.size + 3 ≤ gf := by have := HI.out.2.2.2.2; omega
                  rw [hgf] at HG0 ⊢
                  clear hgf hx0 hx1 HI
                  obtain ⟨RS, hRS⟩ : ∃ RS, bigGo d l1 0 0 (List.replicate l1.length 0) = RS := ⟨_, rfl⟩
                  rw [hRS] at HPP
                  have HRS := Aside0.mk hRS
                  clear hRS
                  go_loopg [11, 50] (l1.length + 1) (fun kq v11 v50 wr => ∃ (at_ j : Int) (xs : List Int), v11 = .int .i64 at_ ∧ v50 = .int .i64 j ∧ Aside0 (0 ≤ j ∧ j ≤ (l1.length : Int) ∧ (l1.length : Int) - j < kq) ∧ Aside0 (0 ≤ at_ ∧ at_ ≤ 8 * j) ∧ Aside0 (bigGo d (l1.drop j.toNat) at_ j.toNat xs = RS) ∧ Aside0 (InvB w wr l1.length xs) ∧ Aside0 (wr.heap[gf]? = some (.cells #[.int .i64 (rd_T38 l0 i).f0, .string d] 38 (0, 0))))
                  case atStart => exact ⟨0, 0, _, rfl, rfl, ⟨by omega, by omega, by omega⟩, ⟨by omega, by omega⟩, ⟨by simpa using HRS.out⟩, HI1, HG0⟩
                  case round =>
                    clear HI1 HG0
                    obtain ⟨at_, j, xs, rfl, rfl, HJ3, HAT, HGO, HI, HG⟩ := hrel
                    have hj := HJ3.out
                    have hat := HAT.out
                    have hj0 : 0 ≤ j := hj.1
                    have hat0 : 0 ≤ at_ := hat.1
                    have hat1 : at_ ≤ 800000000 := by omega
                    by_cases hlt : j < (l1.length : Int)
                    · obtain ⟨ad1, hA1, hxw⟩ := Kd.at_bool HR1.out j hj0 hlt
                      cases hA1
                      have hxw' := (HI.out.2.2.2.1.cell (World.block_lt_of_cell? w _ hxw)).trans hxw
                      have hdw := drop_bool l1 j.toNat (by omega)
                      rw [show ((j.toNat : Nat) : Int) = j by omega] at hdw
                      obtain ⟨kq, rfl⟩ : ∃ kq, gk = kq + 1 := ⟨gk - 1, by omega⟩
                      have p1 := eq_true hj0
                      have q1 := eq_true hlt
                      have hj8 : j ≤ 100000000 := by omega
                      have hgo := HGO.out
                      rw [hdw] at hgo
                      clear hdw hxw hj hat HGO
                      cases hb : rdOf false l1 j with
                      | false =>
                        rw [hb] at hxw' hgo
                        rw [bigGo] at hgo
                        have HGO := Aside0.mk hgo
                        have HLT := Aside0.mk hlt
                        clear hb hgo hlt
                        go_wp2
                        go_roundg kq
                        case measure => omega
                        case rel => exact ⟨at_, j + 1, xs, rfl, rfl, ⟨by omega, by have := HLT.out; omega, by have := HJ3.out; omega⟩, ⟨hat0, by have := HAT.out; omega⟩, ⟨by rw [show (j + 1).toNat = j.toNat + 1 by omega]; exact HGO.out⟩, HI, HG⟩
                      | true =>
                        rw [hb] at hxw' hgo
                        rw [bigGo] at hgo
                        have hc0 : wr.drew.cell? ⟨w.heap.size, 0, none⟩ = some (.slice (some ⟨w.heap.size + 1 + 1, 0, none⟩) l1.length l1.length) ∧ wr.drew.cell? ⟨gf, 1, none⟩ = some (.string d) := ⟨(blk_cell HI.out.1 0).trans rfl, (blk_cell HG.out 1).trans rfl⟩
                        cases hx : exNum (bytesOf d) at_ 8 with
                        | none =>
                          rw [hx] at hgo
                          have HX := Aside0.mk hx
                          rw [← hgo] at HPP
                          obtain ⟨rfl, rfl⟩ := Prod.mk.inj HPP.out
                          clear hb hgo hx
                          go_wp2
                          refine start_ (n := 9) (S := (fun W => W.cell? ⟨w.heap.size, 0, none⟩ = some (.slice (some ⟨w.heap.size + 1 + 1, 0, none⟩) l1.length l1.length) ∧ W.cell? ⟨gf, 1, none⟩ = some (.string d))) (ds := [8]) #[false, false, false, false, false, false, false, false, false] (by kernel_rfl) rfl rfl hc0 (fun hHeld => ?_)
                          refine take_ (i := 0) (N := (some 56)) (v := ?_) (a' := ?_) #[true, false, false, false, false, false, false, false, false] rfl rfl (by kernel_rfl) (fun _ _ _ h => leaves_put (fn := Try.f22) (p := 4) (q := 5) rfl (by decide) (by decide) h) (Or.inl ⟨by rfl, ?_⟩) hHeld ?_ ?_
                          rotate_left
                          · intro w' hS'
                            obtain ⟨q1', q2'⟩ := hS'
                            go_simp
                            with_reducible rfl
                          rotate_left
                          · simp only [Act.put, List.setIfInBounds_toArray, List.set_cons_zero, List.set_cons_succ, i64_w, i32_w]
                            rfl
                          refine pure_ (i := 1) (N := (some 57)) (v := ?_) (a' := ?_) #[true, true, false, false, false, false, false, false, false] rfl rfl (by kernel_rfl) (fun _ _ _ h => leaves_put (fn := Try.f22) (p := 4) (q := 5) rfl (by decide) (by decide) h) (Or.inl ⟨by rfl, ?_⟩) ?_ ?_
                          rotate_left
                          · intro w'
                            go_simp
                            with_reducible rfl
                          rotate_left
                          · simp only [Act.put, List.setIfInBounds_toArray, List.set_cons_zero, List.set_cons_succ, i64_w, i32_w]
                            rfl
                          refine pure_ (i := 2) (N := (some 58)) (v := ?_) (a' := ?_) #[true, true, true, false, false, false, false, false, false] rfl rfl (by kernel_rfl) (fun _ _ _ h => leaves_put (fn := Try.f22) (p := 4) (q := 5) rfl (by decide) (by decide) h) (Or.inl ⟨by rfl, ?_⟩) ?_ ?_
                          rotate_left
                          · intro w'
                            go_simp
                            with_reducible rfl
                          rotate_left
                          · simp only [Act.put, List.setIfInBounds_toArray, List.set_cons_zero, List.set_cons_succ, i64_w, i32_w]
                            rfl
                          refine take_ (i := 3) (N := (some 59)) (v := ?_) (a' := ?_) #[true, true, true, true, false, false, false, false, false] rfl rfl (by kernel_rfl) (fun _ _ _ h => leaves_put (fn := Try.f22) (p := 4) (q := 5) rfl (by decide) (by decide) h) (Or.inl ⟨by rfl, ?_⟩) hHeld ?_ ?_
                          rotate_left
                          · intro w' hS'
                            obtain ⟨q1', q2'⟩ := hS'
                            go_simp
                            with_reducible rfl
                          rotate_left
                          · simp only [Act.put, List.setIfInBounds_toArray, List.set_cons_zero, List.set_cons_succ, i64_w, i32_w]
                            rfl
                          refine pure_ (i := 5) (N := (some 61)) (v := ?_) (a' := ?_) #[true, true, true, true, false, true, false, false, false] rfl rfl (by kernel_rfl) (fun _ _ _ h => leaves_put (fn := Try.f22) (p := 4) (q := 5) rfl (by decide) (by decide) h) (Or.inl ⟨by rfl, ?_⟩) ?_ ?_
                          rotate_left
                          · intro w'
                            go_simp
                            with_reducible rfl
                          rotate_left
                          · simp only [Act.put, List.setIfInBounds_toArray, List.set_cons_zero, List.set_cons_succ, i64_w, i32_w]
                            rfl
                          refine one_ (i := 4) (N := (some 60)) #[true, true, true, true, true, true, false, false, false] rfl rfl (by kernel_rfl) (by decide) (fun K hK => ?_)
                          go_simp
                          obtain ⟨ob, hob, hIB⟩ := bytes_block wr.drew d (by omega)
                          have hbb : Below wr.heap.size wr (Lib.bytesWorld wr.drew 5 d) := bytes_below (below_drew (Below.refl _ _)) (Nat.le_refl _) 5 d
                          have hsz4 : (Lib.bytesWorld wr.drew 5 d).heap.size = wr.heap.size + 1 := Lib.bytesWorld_size _ _ _
                          have hcap := cap_bytes wr.drew d
                          refine hK.out _ _ ⟨pw_cell_below hbb hc0.1, pw_cell_below hbb hc0.2⟩ (fun hHeld => ?_)
                          clear hK K
                          have hob' : (Lib.bytesWorld wr.drew 5 d).heap[wr.heap.size]? = some ob := hob
                          have hIW := HI.out.below hbb
                          have hfW := blk_below HG.out hbb
                          generalize grownCap wr.drew d.size 0 5 = cq at hcap ⊢
                          generalize Lib.bytesWorld wr.drew 5 d = W4 at hHeld hob' hIW hfW ⊢
                          have HIW := Aside0.mk hIW
                          have HFW := Aside0.mk hfW
                          have HC4 := Aside0.mk (hIB W4 _ hob')
                          clear hob hob' hIB hbb hIW hfW hsz4
                          refine one_ (i := 6) (N := (some 62)) #[true, true, true, true, true, true, true, false, false] rfl rfl (by kernel_rfl) (by decide) (fun K hK => ?_)
                          refine goesP_ (N := some 62) Try.func57 (by kernel_rfl) rfl #[.slice (some ⟨wr.heap.size, 0, none⟩) d.size cq, .int .i64 at_, .int .i64 8] (by rfl) rfl (by (try simp only [List.map_toArray, List.map_cons, List.map_nil]); first | done | rfl) ?_
                          refine (number_no _ _ _ _ _ _ _ HC4.out (bytesOf_length d).symm hcap (by omega) HX.out).mono ?_
                          rintro e w5 ⟨rfl, hb5⟩
                          refine ⟨_, rfl, ?_⟩
                          have HI5 := HIW.out.below hb5
                          exact door_panic w w5 _ _ _ rfl rfl HI5.1 HI5.2.1 (fun w' hb' => ⟨_, rfl, Kd.R_nil _ _ _ _ _, HI5.2.2.2.1.trans hb'⟩)
                        | some v =>
                          rw [hx] at hgo
                          have HX := Aside0.mk hx
                          have HGO := Aside0.mk hgo
                          clear hb hgo hx
                          go_wp2
                          refine start_ (n := 9) (S := (fun W => W.cell? ⟨w.heap.size, 0, none⟩ = some (.slice (some ⟨w.heap.size + 1 + 1, 0, none⟩) l1.length l1.length) ∧ W.cell? ⟨gf, 1, none⟩ = some (.string d))) (ds := [8]) #[false, false, false, false, false, false, false, false, false] (by kernel_rfl) rfl rfl hc0 (fun hHeld => ?_)
                          refine take_ (i := 0) (N := (some 56)) (v := ?_) (a' := ?_) #[true, false, false, false, false, false, false, false, false] rfl rfl (by kernel_rfl) (fun _ _ _ h => leaves_put (fn := Try.f22) (p := 4) (q := 5) rfl (by decide) (by decide) h) (Or.inl ⟨by rfl, ?_⟩) hHeld ?_ ?_
                          rotate_left
                          · intro w' hS'
                            obtain ⟨q1', q2'⟩ := hS'
                            go_simp
                            with_reducible rfl
                          rotate_left
                          · simp only [Act.put, List.setIfInBounds_toArray, List.set_cons_zero, List.set_cons_succ, i64_w, i32_w]
                            rfl
                          refine pure_ (i := 1) (N := (some 57)) (v := ?_) (a' := ?_) #[true, true, false, false, false, false, false, false, false] rfl rfl (by kernel_rfl) (fun _ _ _ h => leaves_put (fn := Try.f22) (p := 4) (q := 5) rfl (by decide) (by decide) h) (Or.inl ⟨by rfl, ?_⟩) ?_ ?_
                          rotate_left
                          · intro w'
                            go_simp
                            with_reducible rfl
                          rotate_left
                          · simp only [Act.put, List.setIfInBounds_toArray, List.set_cons_zero, List.set_cons_succ, i64_w, i32_w]
                            rfl
                          refine pure_ (i := 2) (N := (some 58)) (v := ?_) (a' := ?_) #[true, true, true, false, false, false, false, false, false] rfl rfl (by kernel_rfl) (fun _ _ _ h => leaves_put (fn := Try.f22) (p := 4) (q := 5) rfl (by decide) (by decide) h) (Or.inl ⟨by rfl, ?_⟩) ?_ ?_
                          rotate_left
                          · intro w'
                            go_simp
                            with_reducible rfl
                          rotate_left
                          · simp only [Act.put, List.setIfInBounds_toArray, List.set_cons_zero, List.set_cons_succ, i64_w, i32_w]
                            rfl
                          refine take_ (i := 3) (N := (some 59)) (v := ?_) (a' := ?_) #[true, true, true, true, false, false, false, false, false] rfl rfl (by kernel_rfl) (fun _ _ _ h => leaves_put (fn := Try.f22) (p := 4) (q := 5) rfl (by decide) (by decide) h) (Or.inl ⟨by rfl, ?_⟩) hHeld ?_ ?_
                          rotate_left
                          · intro w' hS'
                            obtain ⟨q1', q2'⟩ := hS'
                            go_simp
                            with_reducible rfl
                          rotate_left
                          · simp only [Act.put, List.setIfInBounds_toArray, List.set_cons_zero, List.set_cons_succ, i64_w, i32_w]
                            rfl
                          refine pure_ (i := 5) (N := (some 61)) (v := ?_) (a' := ?_) #[true, true, true, true, false, true, false, false, false] rfl rfl (by kernel_rfl) (fun _ _ _ h => leaves_put (fn := Try.f22) (p := 4) (q := 5) rfl (by decide) (by decide) h) (Or.inl ⟨by rfl, ?_⟩) ?_ ?_
                          rotate_left
                          · intro w'
                            go_simp
                            with_reducible rfl
                          rotate_left
                          · simp only [Act.put, List.setIfInBounds_toArray, List.set_cons_zero, List.set_cons_succ, i64_w, i32_w]
                            rfl
                          refine one_ (i := 4) (N := (some 60)) #[true, true, true, true, true, true, false, false, false] rfl rfl (by kernel_rfl) (by decide) (fun K hK => ?_)
                          go_simp
                          obtain ⟨ob, hob, hIB⟩ := bytes_block wr.drew d (by omega)
                          have hbb : Below wr.heap.size wr (Lib.bytesWorld wr.drew 5 d) := bytes_below (below_drew (Below.refl _ _)) (Nat.le_refl _) 5 d
                          have hsz4 : (Lib.bytesWorld wr.drew 5 d).heap.size = wr.heap.size + 1 := Lib.bytesWorld_size _ _ _
                          have hcap := cap_bytes wr.drew d
                          refine hK.out _ _ ⟨pw_cell_below hbb hc0.1, pw_cell_below hbb hc0.2⟩ (fun hHeld => ?_)
                          clear hK K
                          have hob' : (Lib.bytesWorld wr.drew 5 d).heap[wr.heap.size]? = some ob := hob
                          have hIW := HI.out.below hbb
                          have hfW := blk_below HG.out hbb
                          generalize grownCap wr.drew d.size 0 5 = cq at hcap ⊢
                          generalize Lib.bytesWorld wr.drew 5 d = W4 at hHeld hob' hIW hfW ⊢
                          have HIW := Aside0.mk hIW
                          have HFW := Aside0.mk hfW
                          have HC4 := Aside0.mk (hIB W4 _ hob')
                          clear hob hob' hIB hbb hIW hfW hsz4
                          refine one_ (i := 6) (N := (some 62)) #[true, true, true, true, true, true, true, false, false] rfl rfl (by kernel_rfl) (by decide) (fun K hK => ?_)
                          refine goes_ Try.func57 (by kernel_rfl) rfl #[.slice (some ⟨wr.heap.size, 0, none⟩) d.size cq, .int .i64 at_, .int .i64 8] (by rfl) rfl rfl (by (try simp only [List.map_toArray, List.map_cons, List.map_nil]); first | done | rfl) ?_
                          refine (number_yes _ _ _ _ _ _ _ _ HC4.out (bytesOf_length d).symm hcap (by omega) HX.out).mono ?_
                          rintro e w5 ⟨rfl, hb5⟩
                          refine ⟨_, rfl, ?_⟩
                          refine hK.out _ _ ⟨pw_cell_below hb5 hHeld.1, pw_cell_below hb5 hHeld.2⟩ (fun hHeld => ?_)
                          clear hK K
                          refine norm_ (a' := ?_) ?_ ?_
                          rotate_left
                          · simp only [Act.put, List.setIfInBounds_toArray, List.set_cons_zero, List.set_cons_succ]
                            rfl
                          have HI5 := Aside0.mk (HIW.out.below hb5)
                          have HG5 := Aside0.mk (blk_below HFW.out hb5)
                          refine pure_ (i := 7) (N := (some 63)) (v := ?_) (a' := ?_) #[true, true, true, true, true, true, true, true, false] rfl rfl (by kernel_rfl) (fun _ _ _ h => leaves_put (fn := Try.f22) (p := 4) (q := 5) rfl (by decide) (by decide) h) (Or.inl ⟨by rfl, ?_⟩) ?_ ?_
                          rotate_left
                          · intro w'
                            go_simp
                            with_reducible rfl
                          rotate_left
                          · simp only [Act.put, List.setIfInBounds_toArray, List.set_cons_zero, List.set_cons_succ, i64_w, i32_w]
                            rfl
                          refine last_ (i := 8) (N := none) #[true, true, true, true, true, true, true, true, true] rfl rfl (by kernel_rfl) (by decide) (fun K hK => ?_)
                          obtain ⟨hcS, hfS⟩ := own_at HI5.out.2.2.1 j hj0 hlt
                          go_simp
                          refine hK.out _ _ ?_
                          clear hK K
                          refine done_ (by kernel_rfl) ?_
                          go_wp2
                          go_roundg kq
                          case measure => omega
                          case rel => exact ⟨at_ + 8, j + 1, xs.set j.toNat v, rfl, rfl, ⟨by omega, by have := of_eq_true q1; omega, by have := HJ3.out; omega⟩, ⟨by omega, by have := HAT.out; omega⟩, ⟨by rw [show (j + 1).toNat = j.toNat + 1 by omega]; exact HGO.out⟩, ⟨HI5.out.store j v⟩, ⟨by rw [Below.heap_setCell _ _ _ _ (by show gf ≠ w.heap.size + 1 + 1; omega)]; exact HG5.out⟩⟩
                    · have hgo := HGO.out
                      rw [List.drop_of_length_le (by omega), bigGo] at hgo
                      rw [← hgo] at HPP
                      have HXL := Aside0.mk (bigGo_length d l1 0 0 _ _ (HRS.out.trans hgo.symm))
                      obtain ⟨rfl, rfl⟩ := Prod.mk.inj HPP.out
                      have b0' : decide (j < (l1.length : Int)) = false := decide_eq_false hlt
                      have hc0 : wr.cell? ⟨w.heap.size, 0, none⟩ = some (.slice (some ⟨w.heap.size + 1 + 1, 0, none⟩) l1.length l1.length) := (blk_cell HI.out.1 0).trans rfl
                      have hc1 : wr.cell? ⟨w.heap.size + 1, 0, none⟩ = some (.int .i64 0) := (blk_cell HI.out.2.1 0).trans rfl
                      have hf0 : wr.frozen? ⟨w.heap.size, 0, none⟩ = false := blk_frozen HI.out.1 0
                      have hf1 : wr.frozen? ⟨w.heap.size + 1, 0, none⟩ = false := blk_frozen HI.out.2.1 0
                      clear hlt hj hgo HGO HPP HFF HRS
                      have z0 : (wr.setCell ⟨w.heap.size, 0, none⟩ (.slice (some ⟨w.heap.size + 1 + 1, 0, none⟩) l1.length l1.length)).heap[w.heap.size]? = some (.cells #[.slice (some ⟨w.heap.size + 1 + 1, 0, none⟩) l1.length l1.length] 35 (0, 0)) := by simpa using blk_set HI.out.1 0 (.slice (some ⟨w.heap.size + 1 + 1, 0, none⟩) l1.length l1.length)
                      have z1 : (wr.setCell ⟨w.heap.size, 0, none⟩ (.slice (some ⟨w.heap.size + 1 + 1, 0, none⟩) l1.length l1.length)).heap[w.heap.size + 1]? = some (.cells #[.int .i64 0] 23 (0, 0)) := by rw [Below.heap_setCell _ _ _ _ (by simp)]; exact HI.out.2.1
                      have z2 : ((wr.setCell ⟨w.heap.size, 0, none⟩ (.slice (some ⟨w.heap.size + 1 + 1, 0, none⟩) l1.length l1.length)).setCell ⟨w.heap.size + 1, 0, none⟩ (.int .i64 0)).heap[w.heap.size]? = some (.cells #[.slice (some ⟨w.heap.size + 1 + 1, 0, none⟩) l1.length l1.length] 35 (0, 0)) := by rw [Below.heap_setCell _ _ _ _ (by simp)]; exact z0
                      have z3 : ((wr.setCell ⟨w.heap.size, 0, none⟩ (.slice (some ⟨w.heap.size + 1 + 1, 0, none⟩) l1.length l1.length)).setCell ⟨w.heap.size + 1, 0, none⟩ (.int .i64 0)).heap[w.heap.size + 1]? = some (.cells #[.int .i64 0] 23 (0, 0)) := by simpa using blk_set z1 0 (.int .i64 0)
                      have hbW : Below w.heap.size w ((wr.setCell ⟨w.heap.size, 0, none⟩ (.slice (some ⟨w.heap.size + 1 + 1, 0, none⟩) l1.length l1.length)).setCell ⟨w.heap.size + 1, 0, none⟩ (.int .i64 0)) := (HI.out.2.2.2.1.setCell (by simp) _).setCell (by simp) _
                      have ho := own_setCell (own_setCell HI.out.2.2.1 (p := ⟨w.heap.size, 0, none⟩) (by simp [Value.ownBlock]; omega) (.slice (some ⟨w.heap.size + 1 + 1, 0, none⟩) l1.length l1.length)) (p := ⟨w.heap.size + 1, 0, none⟩) (by simp [Value.ownBlock]) (.int .i64 0)
                      have hxl : xs.length = l1.length := by have := HXL.out; rw [this]; simp
                      have Z2 := Aside0.mk z2
                      have Z3 := Aside0.mk z3
                      have HBW := Aside0.mk hbW
                      have HO := Aside0.mk ho
                      clear z0 z1 z2 z3 hbW ho
                      go_wp2
                      exact door_ok w _ _ _ _ rfl rfl Z2.out 0 Z3.out (fun o => ⟨_, rfl, Kd.R_alloc (Kd.R_lower (Kd.R_of_own (base := w.heap.size + 2) (by rw [hxl]; exact HO.out) (fun _ _ => trivial)) (by omega)) o, HBW.out.alloc HBW.out.size o⟩)
                · rw [if_neg h2] at hp
                  obtain ⟨rfl, rfl⟩ := Prod.mk.inj hp
                  have e2 : ((d.size : Int) == 8 * cnt l1) = false := beq_eq_false_iff_ne.mpr h2
                  have e3 : ((d.size : Int) != 8 * cnt l1) = true := bne_iff_ne.mpr h2
                  have HI1 := Aside0.mk (HI.out.below ((Below.refl _ _).alloc (Nat.le_refl _) (.cells #[.int .i64 (rd_T38 l0 i).f0, .string d] 38)))
                  clear h2 hp HP HFF
                  go_wp2
                  exact door_panic w _ _ _ _ rfl rfl HI1.out.1 HI1.out.2.1 (fun w' hb' => ⟨_, rfl, Kd.R_nil _ _ _ _ _, HI1.out.2.2.2.1.trans hb'⟩)
              · rw [if_neg h1] at hp
                have e0 : ((rd_T38 l0 i).f0 == 1) = false := beq_eq_false_iff_ne.mpr h1
                have e1 : ((rd_T38 l0 i).f0 != 1) = true := bne_iff_ne.mpr h1
                have HPP := Aside0.mk hp
                have HI1 := Aside0.mk (HI.out.below ((Below.refl _ _).alloc (Nat.le_refl _) (.cells #[.int .i64 (rd_T38 l0 i).f0, .string d] 38)))
                clear h1 hp HP
                go_wp2
                go_roundg kq
                case measure => omega
                case rel => exact ⟨i + 1, by rw [wrap64_id (n := i + 1) (by have := HJ.out; omega) (by have := HJ.out; omega)], ⟨by have := HJ.out; omega, by have := HJ.out; have := of_eq_true q1; omega, by have := HJ.out; omega⟩, ⟨by have := HJ.out; rw [show (i + 1).toNat = i.toNat + 1 by omega]; exact HPP.out⟩, HI1⟩
            · have hp := HP.out
              rw [List.drop_of_length_le (by omega), bigRes] at hp
              obtain ⟨rfl, rfl⟩ := Prod.mk.inj hp
              have b0' : decide (i < (l0.length : Int)) = false := decide_eq_false hlt
              have hc0 : wr.cell? ⟨w.heap.size, 0, none⟩ = some (.slice (some ⟨w.heap.size + 1 + 1, 0, none⟩) l1.length l1.length) := (blk_cell HI.out.1 0).trans rfl
              have hc1 : wr.cell? ⟨w.heap.size + 1, 0, none⟩ = some (.int .i64 0) := (blk_cell HI.out.2.1 0).trans rfl
              have hf0 : wr.frozen? ⟨w.heap.size, 0, none⟩ = false := blk_frozen HI.out.1 0
              have hf1 : wr.frozen? ⟨w.heap.size + 1, 0, none⟩ = false := blk_frozen HI.out.2.1 0
              clear hlt hj hi0 hp HP HFF
              have z0 : (wr.setCell ⟨w.heap.size, 0, none⟩ (.slice none 0 0)).heap[w.heap.size]? = some (.cells #[.slice none 0 0] 35 (0, 0)) := by simpa using blk_set HI.out.1 0 (.slice none 0 0)
              have z1 : (wr.setCell ⟨w.heap.size, 0, none⟩ (.slice none 0 0)).heap[w.heap.size + 1]? = some (.cells #[.int .i64 0] 23 (0, 0)) := by rw [Below.heap_setCell _ _ _ _ (by simp)]; exact HI.out.2.1
              have z2 : ((wr.setCell ⟨w.heap.size, 0, none⟩ (.slice none 0 0)).setCell ⟨w.heap.size + 1, 0, none⟩ (.int .i64 2)).heap[w.heap.size]? = some (.cells #[.slice none 0 0] 35 (0, 0)) := by rw [Below.heap_setCell _ _ _ _ (by simp)]; exact z0
              have z3 : ((wr.setCell ⟨w.heap.size, 0, none⟩ (.slice none 0 0)).setCell ⟨w.heap.size + 1, 0, none⟩ (.int .i64 2)).heap[w.heap.size + 1]? = some (.cells #[.int .i64 2] 23 (0, 0)) := by simpa using blk_set z1 0 (.int .i64 2)
              have hbW : Below w.heap.size w ((wr.setCell ⟨w.heap.size, 0, none⟩ (.slice none 0 0)).setCell ⟨w.heap.size + 1, 0, none⟩ (.int .i64 2)) := (HI.out.2.2.2.1.setCell (by simp) _).setCell (by simp) _
              have Z2 := Aside0.mk z2
              have Z3 := Aside0.mk z3
              have HBW := Aside0.mk hbW
              clear z0 z1 z2 z3 hbW
              go_wp2
              exact door_ok w _ _ _ _ rfl rfl Z2.out 2 Z3.out (fun o => ⟨_, rfl, Kd.R_nil _ _ _ _ _, HBW.out.alloc HBW.out.size o⟩)
  · rw [if_neg hl] at h; cases h
end Go.Proofs.Ytfnicahlnpngkaa.ExtraBigOfZipdirBack

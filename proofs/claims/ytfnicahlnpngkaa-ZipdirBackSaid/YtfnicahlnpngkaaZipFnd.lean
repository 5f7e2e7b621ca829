/- zipdir.found, walked by hand. -/
import Derived.Test.YtfnicahlnpngkaaZipRdr
set_option linter.unusedVariables false
set_option linter.unusedSimpArgs false
namespace Go.Proofs.Ytfnicahlnpngkaa.ZipFound
open Go.RowKit Go.Proofs.YtfnicahlnpngkaaW.PrintWords Go.Proofs.YtfnicahlnpngkaaW.PrintLast Go.Proofs.YtfnicahlnpngkaaW.PrintMore Go.Proofs.Ytfnicahlnpngkaa.Base Go.Proofs.Ytfnicahlnpngkaa.NumRead Go.Proofs.Ytfnicahlnpngkaa.ExtraNum Go.Proofs.Ytfnicahlnpngkaa.ZipRd Go.Proofs.Ytfnicahlnpngkaa.ZipNums Go.Proofs.Ytfnicahlnpngkaa.ZipText Go.Proofs.Ytfnicahlnpngkaa.ZipCom Go.Proofs.Ytfnicahlnpngkaa.ZipRow
/-- does an end record stand there? -/
def hit (l : List Int) (at_ : Int) : Bool :=
  !(nx l (at_ + 20) (nx l at_ false 4).2.2 2).2.2 && ((nx l at_ false 4).1 == 101010256) && ((nx l (at_ + 20) (nx l at_ false 4).2.2 2).1 == (l.length : Int) - at_ - 22)
def foundGo (l : List Int) : Nat → Int → Int
  | 0, _ => -1
  | k + 1, at_ => if 0 ≤ at_ ∧ (l.length : Int) - at_ ≤ 65557 then (if hit l at_ = true then at_ else foundGo l k (at_ - 1)) else -1
def foundOf (l : List Int) : Int := foundGo l (l.length + 1) ((l.length : Int) - 22)
theorem num_low {w0 w : World} (R : Nat) (A : Option Addr) (c : Nat) (l : List Int) (at_ : Int) (bad : Bool) (n : Int) (st : Int × Int × Bool) (hR : Rd w R A c l at_ bad) (hC : Kd.C (Kd.int .u8) w0 A l.length l) (hc : l.length ≤ c) (hl : l.length ≤ 140737488355328) (hb : Below w0.heap.size w0 w) (h0 : w0.heap.size ≤ R) (hst : nx l at_ bad n = st) :
    Calls Try.prog 78 #[.pointer (some ⟨R, 0, none⟩), .int .i64 n] w fun e w' => e = .returned (.int .i64 st.1) ∧ Rd w' R A c l st.2.1 st.2.2 ∧ Below w0.heap.size w0 w' ∧ w.grownBy w' (some R) := by
  subst hst
  exact (number_ R A c l at_ bad n w hR (Kd.C_below hC hb) hc hl).mono fun e w' hh => ⟨hh.1, hh.2.1, below_of hb hh.2.2 h0, hh.2.2⟩
set_option maxHeartbeats 8000000 in
set_option maxRecDepth 100000 in
theorem found_ (A : Option Addr) (c : Nat) (l : List Int) (w : World) (hC : Kd.C (Kd.int .u8) w A l.length l) (hc : l.length ≤ c) (hl : l.length ≤ 1000000) :
    Calls Try.prog 66 #[.slice A l.length c] w fun e w' => e = .returned (.int .i64 (foundOf l)) ∧ Below w.heap.size w w' := by
  have hl2 : l.length ≤ 140737488355328 := by omega
  have HC := Aside0.mk hC
  have hw0 : IntKind.i64.wrap ((l.length : Int) - 22) = (l.length : Int) - 22 := by rw [wi64]; exact wrap64_id (by omega) (by omega)
  clear hC
  go_enter Try.func66, Try.ntmps66
  go_wp2
  go_loopg [3] (l.length + 1) (fun kq v3 wr => ∃ at_ : Int, v3 = .int .i64 at_ ∧ Aside0 (-30 ≤ at_ ∧ at_ ≤ (l.length : Int)) ∧ Aside0 (foundGo l kq at_ = foundOf l ∧ at_ + 23 ≤ kq) ∧ Aside0 (Below w.heap.size w wr))
  case atStart => exact ⟨_, by first | rfl | simp [hw0], ⟨by omega, by omega⟩, ⟨rfl, by omega⟩, ⟨Below.refl _ _⟩⟩
  case round =>
    obtain ⟨at_, rfl, HX, HG, HB⟩ := hrel
    have hx := HX.out
    have hw1 : IntKind.i64.wrap ((l.length : Int) - at_) = (l.length : Int) - at_ := by rw [wi64]; exact wrap64_id (by omega) (by omega)
    by_cases hin : 0 ≤ at_ ∧ (l.length : Int) - at_ ≤ 65557
    · obtain ⟨h0, h1⟩ := hin
      obtain ⟨kq, rfl⟩ : ∃ kq, gk = kq + 1 := ⟨gk - 1, by have := HG.out.2; omega⟩
      have hg := HG.out.1
      rw [foundGo, if_pos ⟨h0, h1⟩] at hg
      have hw2 : IntKind.i64.wrap (at_ + 20) = at_ + 20 := by rw [wi64]; exact wrap64_id (by omega) (by omega)
      have hw3 : IntKind.i64.wrap ((l.length : Int) - at_ - 22) = (l.length : Int) - at_ - 22 := by rw [wi64]; exact wrap64_id (by omega) (by omega)
      have hw4 : IntKind.i64.wrap (at_ - 1) = at_ - 1 := by rw [wi64]; exact wrap64_id (by omega) (by omega)
      obtain ⟨⟨v1, at1, bad1⟩, hn1⟩ : ∃ st, nx l at_ false 4 = st := ⟨_, rfl⟩
      obtain ⟨⟨v2, at2, bad2⟩, hn2⟩ : ∃ st, nx l (at_ + 20) bad1 2 = st := ⟨_, rfl⟩
      have hhit : hit l at_ = (!bad2 && (v1 == 101010256) && (v2 == (l.length : Int) - at_ - 22)) := by unfold hit; rw [hn1]; simp only; rw [hn2]
      have hB0 : Below w.heap.size w (wr.alloc (.cells #[.slice A l.length c, .int .i64 at_, .bool false] 108)) := below_alloc HB.out _
      have C1 := Aside0.mk (num_low (w0 := w) wr.heap.size A c l at_ false 4 _ (blk_new wr _) HC.out hc hl2 hB0 HB.out.size hn1)
      have C2 : Aside0 (∀ w1, Rd w1 wr.heap.size A c l (at_ + 20) bad1 → Below w.heap.size w w1 → Calls Try.prog 78 #[.pointer (some ⟨wr.heap.size, 0, none⟩), .int .i64 2] w1 fun e w' => e = .returned (.int .i64 v2) ∧ Rd w' wr.heap.size A c l at2 bad2 ∧ Below w.heap.size w w' ∧ w1.grownBy w' (some wr.heap.size)) := ⟨fun w1 h1 h2 => num_low (w0 := w) wr.heap.size A c l (at_ + 20) bad1 2 _ h1 HC.out hc hl2 h2 HB.out.size hn2⟩
      have HH := Aside0.mk hhit
      have HG1 := Aside0.mk hg
      have HL := Aside0.mk (HG.out.2)
      clear hn1 hn2 hhit hg hB0
      go_wp2_with (fail)
      refine (C1.out).mono ?_
      rintro e w1 ⟨rfl, hR1, hB1, -⟩
      have k1 := (blk_cell hR1 1).trans (rfl : _ = some (Value.int .i64 at1))
      have k2 := blk_frozen hR1 1
      have hR1' : Rd (w1.setCell ⟨wr.heap.size, 1, none⟩ (.int .i64 (at_ + 20))) wr.heap.size A c l (at_ + 20) bad1 := (blk_set hR1 1 _).trans rfl
      have C3 := Aside0.mk (C2.out _ hR1' (hB1.setCell HB.out.size _))
      clear hR1 hR1' hB1 C1 C2
      cases bad2 with
      | true =>
        have hf : hit l at_ = false := by rw [HH.out]; rfl
        have hg := HG1.out
        rw [if_neg (by rw [hf]; simp)] at hg
        have HG2 := Aside0.mk hg
        clear hf hg HH HG1
        go_wp2_with (go_at_call 78; (refine (C3.out).mono ?_); rintro e w2 ⟨rfl, hR2, hB2, -⟩; have k3 := (blk_cell hR2 2).trans (rfl : _ = some (Value.bool true)); have HB2 := Aside0.mk hB2; clear hR2 hB2)
        go_roundg kq
        case measure => omega
        case rel => exact ⟨at_ - 1, by go_num, ⟨by omega, by omega⟩, ⟨HG2.out, by have := HL.out; omega⟩, HB2⟩
      | false =>
        by_cases hv1 : v1 = 101010256
        · by_cases hv2 : v2 = (l.length : Int) - at_ - 22
          · have hf : hit l at_ = true := by rw [HH.out, hv1, hv2]; simp
            have hg := HG1.out
            rw [if_pos hf] at hg
            have HG2 := Aside0.mk hg
            have b1 : (v1 == 101010256) = true := by simp [hv1]
            have b2 : (v2 == (l.length : Int) - at_ - 22) = true := by simp [hv2]
            clear hf hg HH HG1 hv1 hv2
            go_wp2_with (go_at_call 78; (refine (C3.out).mono ?_); rintro e w2 ⟨rfl, hR2, hB2, -⟩; have k3 := (blk_cell hR2 2).trans (rfl : _ = some (Value.bool false)); have HB2 := Aside0.mk hB2; clear hR2 hB2)
            go_ret
            exact ⟨by rw [HG2.out]; rfl, HB2.out⟩
          · have hf : hit l at_ = false := by rw [HH.out]; simp [hv2]
            have hg := HG1.out
            rw [if_neg (by rw [hf]; simp)] at hg
            have HG2 := Aside0.mk hg
            have b1 : (v1 == 101010256) = true := by simp [hv1]
            have b2 : (v2 == (l.length : Int) - at_ - 22) = false := by simp [hv2]
            clear hf hg HH HG1 hv1 hv2
            go_wp2_with (go_at_call 78; (refine (C3.out).mono ?_); rintro e w2 ⟨rfl, hR2, hB2, -⟩; have k3 := (blk_cell hR2 2).trans (rfl : _ = some (Value.bool false)); have HB2 := Aside0.mk hB2; clear hR2 hB2)
            go_roundg kq
            case measure => omega
            case rel => exact ⟨at_ - 1, by go_num, ⟨by omega, by omega⟩, ⟨HG2.out, by have := HL.out; omega⟩, HB2⟩
        · have hf : hit l at_ = false := by rw [HH.out]; simp [hv1]
          have hg := HG1.out
          rw [if_neg (by rw [hf]; simp)] at hg
          have HG2 := Aside0.mk hg
          have b1 : (v1 == 101010256) = false := by simp [hv1]
          clear hf hg HH HG1 hv1
          go_wp2_with (go_at_call 78; (refine (C3.out).mono ?_); rintro e w2 ⟨rfl, hR2, hB2, -⟩; have k3 := (blk_cell hR2 2).trans (rfl : _ = some (Value.bool false)); have HB2 := Aside0.mk hB2; clear hR2 hB2)
          go_roundg kq
          case measure => omega
          case rel => exact ⟨at_ - 1, by go_num, ⟨by omega, by omega⟩, ⟨HG2.out, by have := HL.out; omega⟩, HB2⟩
    · have hg : foundOf l = -1 := by
        rw [← HG.out.1]
        cases gk with
        | zero => rfl
        | succ k => rw [foundGo, if_neg hin]
      have HG1 := Aside0.mk hg
      clear hg
      by_cases h0 : 0 ≤ at_
      · have h1 : ¬ (l.length : Int) - at_ ≤ 65557 := fun h => hin ⟨h0, h⟩
        clear hin
        go_wp2
        go_ret
        exact ⟨by rw [HG1.out]; rfl, HB.out⟩
      · clear hin
        go_wp2
        go_ret
        exact ⟨by rw [HG1.out]; rfl, HB.out⟩
end Go.Proofs.Ytfnicahlnpngkaa.ZipFound
/- zipdir.far, walked by hand. -/
namespace Go.Proofs.Ytfnicahlnpngkaa.ZipFar
open Go.RowKit Go.Proofs.YtfnicahlnpngkaaW.PrintWords Go.Proofs.YtfnicahlnpngkaaW.PrintLast Go.Proofs.YtfnicahlnpngkaaW.PrintMore Go.Proofs.Ytfnicahlnpngkaa.Base Go.Proofs.Ytfnicahlnpngkaa.NumRead Go.Proofs.Ytfnicahlnpngkaa.ExtraNum Go.Proofs.Ytfnicahlnpngkaa.ZipRd Go.Proofs.Ytfnicahlnpngkaa.ZipNums Go.Proofs.Ytfnicahlnpngkaa.ZipText Go.Proofs.Ytfnicahlnpngkaa.ZipCom Go.Proofs.Ytfnicahlnpngkaa.ZipRow Go.Proofs.Ytfnicahlnpngkaa.ZipFound
abbrev EndR := Int × Int × Int × Int × Int
def farZ : EndR × Bool := ((0, 0, 0, 0, 0), false)
def far11 (s p here : Int) (bad : Bool) : List Int → EndR × Bool
  | [x, y, z] => ((x, y, z, p, s), !bad && (here == x))
  | _ => farZ
def far10 (l : List Int) (s p : Int) (n : Int × Int × Bool) : EndR × Bool := far11 s p n.1 (nxi l n.2.1 n.2.2 8 3).2.2 (nxi l n.2.1 n.2.2 8 3).1
def far9 (l : List Int) (s p : Int) (n : Int × Int × Bool) : EndR × Bool := if n.1 = 0 then far10 l s p (nx l n.2.1 n.2.2 8) else farZ
def far8 (l : List Int) (s p : Int) (n : Int × Int × Bool) : EndR × Bool := if n.1 = 0 then far9 l s p (nx l n.2.1 n.2.2 4) else farZ
def far7 (l : List Int) (s p : Int) (n : Int × Int × Bool) : EndR × Bool := far8 l s p (nx l n.2.1 n.2.2 4)
def far6 (l : List Int) (s p : Int) (n : Int × Int × Bool) : EndR × Bool := if n.1 = 44 then far7 l s p (nx l n.2.1 n.2.2 4) else farZ
def far5 (l : List Int) (s p : Int) (n : Int × Int × Bool) : EndR × Bool := if n.1 = 101075792 then far6 l s p (nx l n.2.1 n.2.2 8) else farZ
def far4 (l : List Int) (s p : Int) (n : Int × Int × Bool) : EndR × Bool := if n.1 = 1 then (if n.2.2 = false then (if p = s - 76 then far5 l s p (nx l p false 4) else farZ) else farZ) else farZ
def far3 (l : List Int) (s : Int) (n : Int × Int × Bool) : EndR × Bool := far4 l s n.1 (nx l n.2.1 n.2.2 4)
def far2 (l : List Int) (s : Int) (n : Int × Int × Bool) : EndR × Bool := if n.1 = 0 then far3 l s (nx l n.2.1 n.2.2 8) else farZ
def far1 (l : List Int) (s : Int) (n : Int × Int × Bool) : EndR × Bool := if n.1 = 117853008 then far2 l s (nx l n.2.1 n.2.2 4) else farZ
def farOf (l : List Int) (s : Int) : EndR × Bool := if s < 76 then farZ else far1 l s (nx l (s - 20) false 4)
abbrev ec (x : EndR) : Array Value := #[.int .i64 x.1, .int .i64 x.2.1, .int .i64 x.2.2.1, .int .i64 x.2.2.2.1, .int .i64 x.2.2.2.2]
abbrev z5 : Array Value := #[.int .i64 0, .int .i64 0, .int .i64 0, .int .i64 0, .int .i64 0]
theorem z5_one : z5.all (·.oneCell') = true := by simp [Value.oneCell']
theorem ec_one (a b c d e : Int) : (#[.int .i64 a, .int .i64 b, .int .i64 c, .int .i64 d, .int .i64 e] : Array Value).all (·.oneCell') = true := by simp [Value.oneCell']
def FarPost (w : World) (r : EndR × Bool) (e : Ending) (w' : World) : Prop := e = .returned (.tuple #[.agg (ec r.1), .bool r.2]) ∧ Below w.heap.size w w'
/-- the result's block and the reader's. -/
structure Fa (w W : World) (H R : Nat) (A : Option Addr) (c : Nat) (l : List Int) (at_ : Int) (bad : Bool) : Prop where
  h : W.heap[H]? = some (.cells z5 72 (0, 0))
  r : Rd W R A c l at_ bad
  low : Below w.heap.size w W
  hH : w.heap.size ≤ H
  hR : w.heap.size ≤ R
  ne : H ≠ R
theorem Fa.num {w W : World} {H R : Nat} {A : Option Addr} {c : Nat} {l : List Int} {at_ : Int} {bad : Bool} (h : Fa w W H R A c l at_ bad) (n : Int) (st : Int × Int × Bool) (hC : Kd.C (Kd.int .u8) w A l.length l) (hc : l.length ≤ c) (hl : l.length ≤ 140737488355328) (hst : nx l at_ bad n = st) :
    Calls Try.prog 78 #[.pointer (some ⟨R, 0, none⟩), .int .i64 n] W fun e w' => e = .returned (.int .i64 st.1) ∧ Fa w w' H R A c l st.2.1 st.2.2 ∧ W.grownBy w' (some R) :=
  (num_low R A c l at_ bad n st h.r hC hc hl h.low h.hR hst).mono fun e w' hh => ⟨hh.1, ⟨(hh.2.2.2.block H (blk_lt h.h) (by intro e; injection e with e; exact h.ne e)).trans h.h, hh.2.1, hh.2.2.1, h.hH, h.hR, h.ne⟩, hh.2.2.2⟩
theorem Fa.at_ {w W : World} {H R : Nat} {A : Option Addr} {c : Nat} {l : List Int} {at_ : Int} {bad : Bool} (h : Fa w W H R A c l at_ bad) (x : Int) : Fa w (W.setCell ⟨R, 1, none⟩ (.int .i64 x)) H R A c l x bad :=
  ⟨(Below.heap_setCell _ _ _ _ (by exact h.ne)).trans h.h, (blk_set h.r 1 _).trans rfl, h.low.setCell (by exact h.hR) _, h.hH, h.hR, h.ne⟩
theorem Fa.below {w W W' : World} {H R : Nat} {A : Option Addr} {c : Nat} {l : List Int} {at_ : Int} {bad : Bool} (h : Fa w W H R A c l at_ bad) (hb : Below W.heap.size W W') : Fa w W' H R A c l at_ bad :=
  ⟨blk_below h.h hb, blk_below h.r hb, below_then h.low h.low.size hb, h.hH, h.hR, h.ne⟩
theorem Fa.res {w W : World} {H R : Nat} {A : Option Addr} {c : Nat} {l : List Int} {at_ : Int} {bad : Bool} (h : Fa w W H R A c l at_ bad) (cs : Array Value) : (W.setRow H cs).heap[H]? = some (.cells cs 72 (0, 0)) ∧ Below w.heap.size w (W.setRow H cs) :=
  ⟨setRow_heap _ _ _ _ _ _ h.h, below_setRow h.low h.hH _⟩
theorem fa0 (w : World) (A : Option Addr) (c : Nat) (l : List Int) (x : Int) : Fa w ((w.alloc (.cells z5 72)).alloc (.cells #[.slice A l.length c, .int .i64 x, .bool false] 108)) w.heap.size (w.heap.size + 1) A c l x false :=
  ⟨blk_alloc (blk_new w _) _, (by simpa using blk_new (w.alloc (.cells z5 72)) (.cells #[.slice A l.length c, .int .i64 x, .bool false] 108) : ((w.alloc (.cells z5 72)).alloc (.cells #[.slice A l.length c, .int .i64 x, .bool false] 108)).heap[w.heap.size + 1]? = some (.cells #[.slice A l.length c, .int .i64 x, .bool false] 108 (0, 0))), below_alloc (below_alloc (Below.refl _ _) _) _, Nat.le_refl _, by omega, by omega⟩
theorem Fa.row {w W : World} {H R E : Nat} {A : Option Addr} {c : Nat} {l : List Int} {at_ : Int} {bad : Bool} (h : Fa w W H R A c l at_ bad) (h1 : w.heap.size ≤ E) (h2 : E ≠ R) (h3 : E ≠ H) (cs : Array Value) : Fa w (W.setRow E cs) H R A c l at_ bad :=
  ⟨(setRow_other _ _ _ _ (fun e => h3 e.symm)).trans h.h, (setRow_other _ _ _ _ (fun e => h2 e.symm)).trans h.r, below_setRow h.low h1 _, h.hH, h.hR, h.ne⟩
/-- the numbers of an end, read into its block. -/
theorem Fa.nums {w W : World} {H R E : Nat} {A : Option Addr} {c : Nat} {l : List Int} {at_ : Int} {bad : Bool} (h : Fa w W H R A c l at_ bad) {m0 m1 m2 m3 m4 : Value} (hE : W.heap[E]? = some (.cells #[m0, m1, m2, m3, m4] 72 (0, 0))) (h1 : w.heap.size ≤ E) (h2 : E ≠ R) (h3 : E ≠ H) (st : List Int × Int × Bool) (hC : Kd.C (Kd.int .u8) w A l.length l) (hc : l.length ≤ c) (hl : l.length ≤ 140737488355328) (hst : nxi l at_ bad 8 3 = st) :
    Calls Try.prog 67 #[.pointer (some ⟨R, 0, none⟩), .int .i64 8, .slice (some ⟨W.heap.size, 0, none⟩) 3 3] (W.alloc (.cells #[.pointer (some ⟨E, 0, none⟩), .pointer (some ⟨E, 1, none⟩), .pointer (some ⟨E, 2, none⟩)] 110)) fun e w' => ∃ x y z, st.1 = [x, y, z] ∧ e = .returned (.tuple #[]) ∧ Fa w w' H R A c l st.2.1 st.2.2 ∧ w'.heap[E]? = some (.cells #[.int .i64 x, .int .i64 y, .int .i64 z, m3, m4] 72 (0, 0)) := by
  subst hst
  have hsz := blk_lt hE
  have hRs := blk_lt h.r
  refine (numbers_ w R A c l at_ bad 8 [⟨E, 0, none⟩, ⟨E, 1, none⟩, ⟨E, 2, none⟩] W.heap.size 3 _ (blk_alloc h.r _) hC hc hl (below_alloc h.low _) h.hR (blk_new W _) (by omega) ?_ (by simp)).mono ?_
  · intro p hp
    have q := blk_alloc hE (.cells #[.pointer (some ⟨E, 0, none⟩), .pointer (some ⟨E, 1, none⟩), .pointer (some ⟨E, 2, none⟩)] 110)
    simp only [List.mem_cons, List.not_mem_nil, or_false] at hp
    rcases hp with rfl | rfl | rfl
    · exact ⟨h1, h2, by show E ≠ _; omega, rfl, _, _, q, by show 0 < 5; omega⟩
    · exact ⟨h1, h2, by show E ≠ _; omega, rfl, _, _, q, by show 1 < 5; omega⟩
    · exact ⟨h1, h2, by show E ≠ _; omega, rfl, _, _, q, by show 2 < 5; omega⟩
  · rintro e w' ⟨rfl, hn⟩
    obtain ⟨⟨vs, at2, bad2⟩, hst⟩ : ∃ st, nxi l at_ bad 8 3 = st := ⟨_, rfl⟩
    have hlen : (nxi l at_ bad 8 3).1.length = 3 := nxi_len _ _ _ _ _
    rw [show ([⟨E, 0, none⟩, ⟨E, 1, none⟩, ⟨E, 2, none⟩] : List Addr).length = 3 from rfl, hst] at hn
    rw [hst] at hlen ⊢
    obtain ⟨x, y, z, rfl⟩ := three hlen
    refine ⟨x, y, z, rfl, rfl, ⟨?_, hn.rd, hn.low, h.hH, h.hR, h.ne⟩, ?_⟩
    · refine Nums.far hn (blk_alloc h.h _) h.ne (fun p hp => ?_)
      simp only [List.mem_cons, List.not_mem_nil, or_false] at hp
      rcases hp with rfl | rfl | rfl <;> exact h3
    · rw [hn.all E (by simp; omega) h2]
      simp only [List.zip_cons_cons, List.zip_nil_right, poke]
      exact (blk_set (blk_set (blk_set (blk_alloc hE _) 0 _) 1 _) 2 _).trans rfl
theorem far_fail {w W : World} (h : Below w.heap.size w W) : FarPost w farZ (.returned (.tuple #[.agg z5, .bool false])) W := ⟨rfl, h⟩
set_option maxHeartbeats 16000000 in
set_option maxRecDepth 100000 in
theorem far_ (A : Option Addr) (c : Nat) (l : List Int) (s : Int) (w : World) (hC : Kd.C (Kd.int .u8) w A l.length l) (hc : l.length ≤ c) (hl : l.length ≤ 1000000) (hs : 0 ≤ s ∧ s ≤ 1000000) :
    Calls Try.prog 69 #[.slice A l.length c, .int .i64 s] w fun e w' => FarPost w (farOf l s) e w' := by
  have HU := Aside0.mk Try.underlying72
  have hl2 : l.length ≤ 140737488355328 := by omega
  have HC := Aside0.mk hC
  clear hC
  obtain ⟨r, hr⟩ : ∃ r, farOf l s = r := ⟨_, rfl⟩
  rw [hr]
  have hw0 : IntKind.i64.wrap (s - 20) = s - 20 := by rw [wi64]; exact wrap64_id (by omega) (by omega)
  have hw1 : IntKind.i64.wrap (s - 20 - 56) = s - 76 := by rw [wi64, show s - 20 - 56 = s - 76 by omega]; exact wrap64_id (by omega) (by omega)
  by_cases h76 : s < 76
  · have hz : FarPost w r (.returned (.tuple #[.agg z5, .bool false])) ((w.alloc (.cells z5 72)).setRow w.heap.size z5) := by
      rw [← hr, farOf, if_pos h76]
      exact far_fail (below_setRow (below_alloc (Below.refl _ _) _) (Nat.le_refl _) _)
    have HZ := Aside0.mk hz
    clear hr hz
    go_enter Try.func69, Try.ntmps69
    go_wp2_with ((with_reducible refine gate_store (t := 72) (p := 4) rfl ?_); refine wpList_store_row rfl 72 (.tmp 4) (.tmp 12) rfl w.heap.size z5 rfl rfl 72 z5 (blk_new w _) (by kernel_rfl) rfl z5_one ?_)
    refine bodyPost_ret (results_ct rfl _ _ w.heap.size 72 z5 (0, 0) _ rfl (setRow_heap _ _ _ _ _ _ (blk_new w _)) HU.out rfl (by kernel_rfl)) rfl ?_
    exact HZ.out
  · rw [farOf, if_neg h76] at hr
    have HF := Aside0.mk hr
    have L0 := Aside0.mk (fa0 w A c l (s - 20))
    clear hr
    go_enter Try.func69, Try.ntmps69
    obtain ⟨⟨v1, at1, bad1⟩, hn⟩ : ∃ st, nx l (s - 20) false 4 = st := ⟨_, rfl⟩
    have hf := HF.out
    rw [hn, far1] at hf
    simp only at hf
    have CC := Aside0.mk (L0.out.num 4 _ HC.out hc hl2 hn)
    clear HF hn
    go_wp2_with (fail)
    refine (CC.out).mono ?_
    rintro e w1 ⟨rfl, hL, -⟩
    have L1 := Aside0.mk hL
    clear hL CC
    by_cases hv : v1 = 117853008
    · rw [if_pos hv] at hf
      have HF := Aside0.mk hf
      have b0 : (v1 != 117853008) = false := by simp [hv]
      clear hf hv
      obtain ⟨⟨v2, at2, bad2⟩, hn⟩ : ∃ st, nx l at1 bad1 4 = st := ⟨_, rfl⟩
      have hf := HF.out
      rw [hn, far2] at hf
      simp only at hf
      have CC := Aside0.mk (L1.out.num 4 _ HC.out hc hl2 hn)
      clear HF hn
      go_wp2_with (fail)
      refine (CC.out).mono ?_
      rintro e w2 ⟨rfl, hL, -⟩
      have L2 := Aside0.mk hL
      clear hL CC
      by_cases hv : v2 = 0
      · rw [if_pos hv] at hf
        have HF := Aside0.mk hf
        have b0 : (v2 != 0) = false := by simp [hv]
        clear hf hv
        obtain ⟨⟨v3, at3, bad3⟩, hn⟩ : ∃ st, nx l at2 bad2 8 = st := ⟨_, rfl⟩
        have hf := HF.out
        rw [hn, far3] at hf
        simp only at hf
        have CC := Aside0.mk (L2.out.num 8 _ HC.out hc hl2 hn)
        clear HF hn
        go_wp2_with (fail)
        refine (CC.out).mono ?_
        rintro e w3 ⟨rfl, hL, -⟩
        have L3 := Aside0.mk hL
        clear hL CC
        have HF := Aside0.mk hf
        clear hf
        obtain ⟨⟨v4, at4, bad4⟩, hn⟩ : ∃ st, nx l at3 bad3 4 = st := ⟨_, rfl⟩
        have hf := HF.out
        rw [hn, far4] at hf
        simp only at hf
        have CC := Aside0.mk (L3.out.num 4 _ HC.out hc hl2 hn)
        clear HF hn
        go_wp2_with (fail)
        refine (CC.out).mono ?_
        rintro e w4 ⟨rfl, hL, -⟩
        have L4 := Aside0.mk hL
        clear hL CC
        by_cases hv : v4 = 1
        · rw [if_pos hv] at hf
          have HF := Aside0.mk hf
          have b0 : (v4 != 1) = false := by simp [hv]
          clear hf hv
          have hb4 := (blk_cell L4.out.r 2).trans (rfl : _ = some (Value.bool bad4))
          have hf := HF.out
          clear HF
          cases bad4 with
          | true =>
            rw [if_neg (by simp)] at hf
            have HF := Aside0.mk hf
            clear hf
            go_wp2_with ((with_reducible refine gate_store (t := 72) (p := 4) rfl ?_); refine wpList_store_row rfl 72 (.tmp 4) (.tmp 45) rfl w.heap.size z5 rfl rfl 72 z5 L4.out.h (by kernel_rfl) rfl z5_one ?_)
            obtain ⟨f1, f2⟩ := L4.out.res z5
            refine bodyPost_ret (results_ct rfl _ _ w.heap.size 72 z5 (0, 0) _ rfl f1 HU.out rfl (by kernel_rfl)) rfl ?_
            rw [← HF.out]
            exact far_fail f2
          | false =>
            rw [if_pos rfl] at hf
            by_cases hp : v3 = s - 76
            · rw [if_pos hp] at hf
              have HF := Aside0.mk hf
              have b1 : (v3 != s - 76) = false := by simp [hp]
              have k1 := (blk_cell L4.out.r 1).trans (rfl : _ = some (Value.int .i64 at4))
              have k2 := blk_frozen L4.out.r 1
              have L4x := Aside0.mk (L4.out.at_ v3)
              clear hf hp
              obtain ⟨⟨v5, at5, bad5⟩, hn⟩ : ∃ st, nx l v3 false 4 = st := ⟨_, rfl⟩
              have hf := HF.out
              rw [hn, far5] at hf
              simp only at hf
              have CC := Aside0.mk (L4x.out.num 4 _ HC.out hc hl2 hn)
              clear HF hn
              go_wp2_with (fail)
              refine (CC.out).mono ?_
              rintro e w5 ⟨rfl, hL, -⟩
              have L5 := Aside0.mk hL
              clear hL CC
              by_cases hv : v5 = 101075792
              · rw [if_pos hv] at hf
                have HF := Aside0.mk hf
                have b0 : (v5 != 101075792) = false := by simp [hv]
                clear hf hv
                obtain ⟨⟨v6, at6, bad6⟩, hn⟩ : ∃ st, nx l at5 bad5 8 = st := ⟨_, rfl⟩
                have hf := HF.out
                rw [hn, far6] at hf
                simp only at hf
                have CC := Aside0.mk (L5.out.num 8 _ HC.out hc hl2 hn)
                clear HF hn
                go_wp2_with (fail)
                refine (CC.out).mono ?_
                rintro e w6 ⟨rfl, hL, -⟩
                have L6 := Aside0.mk hL
                clear hL CC
                by_cases hv : v6 = 44
                · rw [if_pos hv] at hf
                  have HF := Aside0.mk hf
                  have b0 : (v6 != 44) = false := by simp [hv]
                  clear hf hv
                  obtain ⟨⟨v7, at7, bad7⟩, hn⟩ : ∃ st, nx l at6 bad6 4 = st := ⟨_, rfl⟩
                  have hf := HF.out
                  rw [hn, far7] at hf
                  simp only at hf
                  have CC := Aside0.mk (L6.out.num 4 _ HC.out hc hl2 hn)
                  clear HF hn
                  go_wp2_with (fail)
                  refine (CC.out).mono ?_
                  rintro e w7 ⟨rfl, hL, -⟩
                  have L7 := Aside0.mk hL
                  clear hL CC
                  have HF := Aside0.mk hf
                  clear hf
                  obtain ⟨⟨v8, at8, bad8⟩, hn⟩ : ∃ st, nx l at7 bad7 4 = st := ⟨_, rfl⟩
                  have hf := HF.out
                  rw [hn, far8] at hf
                  simp only at hf
                  have CC := Aside0.mk (L7.out.num 4 _ HC.out hc hl2 hn)
                  clear HF hn
                  go_wp2_with (fail)
                  refine (CC.out).mono ?_
                  rintro e w8 ⟨rfl, hL, -⟩
                  have L8 := Aside0.mk hL
                  clear hL CC
                  by_cases hv : v8 = 0
                  · rw [if_pos hv] at hf
                    have HF := Aside0.mk hf
                    have b0 : (v8 != 0) = false := by simp [hv]
                    clear hf hv
                    obtain ⟨⟨v9, at9, bad9⟩, hn⟩ : ∃ st, nx l at8 bad8 4 = st := ⟨_, rfl⟩
                    have hf := HF.out
                    rw [hn, far9] at hf
                    simp only at hf
                    have CC := Aside0.mk (L8.out.num 4 _ HC.out hc hl2 hn)
                    clear HF hn
                    go_wp2_with (fail)
                    refine (CC.out).mono ?_
                    rintro e w9 ⟨rfl, hL, -⟩
                    have L9 := Aside0.mk hL
                    clear hL CC
                    by_cases hv : v9 = 0
                    · rw [if_pos hv] at hf
                      have HF := Aside0.mk hf
                      have b0 : (v9 != 0) = false := by simp [hv]
                      clear hf hv
                      obtain ⟨⟨here, at10, bad10⟩, hn⟩ : ∃ st, nx l at9 bad9 8 = st := ⟨_, rfl⟩
                      have hf := HF.out
                      rw [hn, far10] at hf
                      simp only at hf
                      have HN := Aside0.mk hn
                      clear HF hn
                      go_wp2_with (first | ((with_reducible refine gate_dst (N := 8) rfl ?_); refine box_event ?hg (N := 8) ?hd (cs := z5) (t := 72) ?hr ?_; (case hd => rfl); (case hg => rfl); (case hr => first | (go_simp; done) | (go_simp; rfl)); intro E hg wE hbox hb; have BE := Aside0.mk hbox; have LE := Aside0.mk (L9.out.below hb); have hE : w.heap.size ≤ E ∧ E ≠ w.heap.size + 1 ∧ E ≠ w.heap.size := (by rw [hg]; exact ⟨L9.out.low.size, fun e => absurd (blk_lt L9.out.r) (by omega), fun e => absurd (blk_lt L9.out.h) (by omega)⟩); have HE := Aside0.mk hE; clear hbox hb hg hE) | ((with_reducible refine gate_store (t := 72) (p := 8) rfl ?_); refine wpList_store_row rfl 72 (.tmp 8) (.tmp 72) rfl E #[.int .i64 0, .int .i64 0, .int .i64 0, .int .i64 v3, .int .i64 s] rfl rfl 72 z5 BE.out (by kernel_rfl) rfl (ec_one _ _ _ _ _) ?_))
                      have LE2 := Aside0.mk (LE.out.row HE.out.1 HE.out.2.1 HE.out.2.2 #[.int .i64 0, .int .i64 0, .int .i64 0, .int .i64 v3, .int .i64 s])
                      have BE2 := Aside0.mk (setRow_heap wE E z5 #[.int .i64 0, .int .i64 0, .int .i64 0, .int .i64 v3, .int .i64 s] 72 (0, 0) BE.out)
                      have CC := Aside0.mk (LE2.out.num 8 _ HC.out hc hl2 HN.out)
                      refine (CC.out).mono ?_
                      rintro e w10 ⟨rfl, hL, hg10⟩
                      have BE3 := Aside0.mk ((hg10.block E (blk_lt BE2.out) (by intro e; injection e with e; exact HE.out.2.1 e)).trans BE2.out)
                      obtain ⟨⟨vs, at11, bad11⟩, hst⟩ : ∃ st, nxi l at10 bad10 8 3 = st := ⟨_, rfl⟩
                      have CN := Aside0.mk (hL.nums BE3.out HE.out.1 HE.out.2.1 HE.out.2.2 _ HC.out hc hl2 hst)
                      rw [hst] at hf
                      have HF := Aside0.mk hf
                      clear hL hg10 hst hf CC HN
                      go_wp2_with (fail)
                      refine (CN.out).mono ?_
                      rintro e w11 ⟨x, y, z, hxyz, rfl, hL, hE11⟩
                      obtain rfl : vs = [x, y, z] := hxyz
                      have hf := HF.out
                      simp only [far11] at hf
                      have L11 := Aside0.mk hL
                      have B11 := Aside0.mk hE11
                      clear CN HF
                      have hS : (fun W : World => W.heap[E]? = some (.cells #[.int .i64 x, .int .i64 y, .int .i64 z, .int .i64 v3, .int .i64 s] 72 (0, 0)) ∧ W.heap[w.heap.size + 1]? = some (.cells #[.slice A l.length c, .int .i64 at11, .bool bad11] 108 (0, 0))) w11.drew := ⟨hE11, hL.r⟩
                      have L12 := Aside0.mk (L11.out.below (below_drew (Below.refl _ _)))
                      clear hL hE11
                      have HF := Aside0.mk hf
                      clear hf
                      cases bad11 with
                      | true =>
                        go_wp2
                        refine start_ (n := 14) (S := (fun W : World => W.heap[E]? = some (.cells #[.int .i64 x, .int .i64 y, .int .i64 z, .int .i64 v3, .int .i64 s] 72 (0, 0)) ∧ W.heap[w.heap.size + 1]? = some (.cells #[.slice A l.length c, .int .i64 at11, .bool true] 108 (0, 0)))) (ds := []) #[false, false, false, false, false, false, false, false, false, false, false, false, false, false] (by kernel_rfl) rfl rfl hS (fun hHeld => ?_)
                        refine pure_ (i := 1) (N := (some 82)) (v := ?_) (a' := ?_) #[false, true, false, false, false, false, false, false, false, false, false, false, false, false] rfl rfl (by kernel_rfl) (fun _ _ _ h => h) (Or.inl ⟨by rfl, ?_⟩) ?_ ?_
                        rotate_left
                        · intro w'
                          go_simp
                          with_reducible rfl
                        rotate_left
                        · simp only [Act.put, List.setIfInBounds_toArray, List.set_cons_zero, List.set_cons_succ, i64_w, i32_w]
                          rfl
                        refine pure_ (i := 2) (N := (some 83)) (v := ?_) (a' := ?_) #[false, true, true, false, false, false, false, false, false, false, false, false, false, false] rfl rfl (by kernel_rfl) (fun _ _ _ h => h) (Or.inl ⟨by rfl, ?_⟩) ?_ ?_
                        rotate_left
                        · intro w'
                          go_simp
                          with_reducible rfl
                        rotate_left
                        · simp only [Act.put, List.setIfInBounds_toArray, List.set_cons_zero, List.set_cons_succ, i64_w, i32_w]
                          rfl
                        refine pure_ (i := 3) (N := (some 84)) (v := ?_) (a' := ?_) #[false, true, true, true, false, false, false, false, false, false, false, false, false, false] rfl rfl (by kernel_rfl) (fun _ _ _ h => h) (Or.inl ⟨by rfl, ?_⟩) ?_ ?_
                        rotate_left
                        · intro w'
                          go_simp
                          with_reducible rfl
                        rotate_left
                        · simp only [Act.put, List.setIfInBounds_toArray, List.set_cons_zero, List.set_cons_succ, i64_w, i32_w]
                          rfl
                        refine take_ (i := 0) (N := (some 81)) (v := ?_) (a' := ?_) #[true, true, true, true, false, false, false, false, false, false, false, false, false, false] rfl rfl (by kernel_rfl) (fun _ _ _ h => h) (Or.inl ⟨by rfl, ?_⟩) hHeld ?_ ?_
                        rotate_left
                        · intro w' hS'
                          obtain ⟨q1, q2⟩ := hS'
                          refine exec_load_row 72 (.tmp 8) E 72 _ _ ?_ ?_ q1 HU.out (by kernel_rfl) <;> rfl
                        rotate_left
                        · simp only [Act.put, List.setIfInBounds_toArray, List.set_cons_zero, List.set_cons_succ, i64_w, i32_w]
                          rfl
                        refine take_ (i := 4) (N := (some 85)) (v := ?_) (a' := ?_) #[true, true, true, true, true, false, false, false, false, false, false, false, false, false] rfl rfl (by kernel_rfl) (fun _ _ _ h => h) (Or.inl ⟨by rfl, ?_⟩) hHeld ?_ ?_
                        rotate_left
                        · intro w' hS'
                          obtain ⟨q1, q2⟩ := hS'
                          have q4 := (blk_cell q2 2).trans (rfl : _ = some (Value.bool true))
                          go_simp
                          with_reducible rfl
                        rotate_left
                        · simp only [Act.put, List.setIfInBounds_toArray, List.set_cons_zero, List.set_cons_succ, i64_w, i32_w]
                          rfl
                        refine pure_ (i := 5) (N := (some 86)) (v := ?_) (a' := ?_) #[true, true, true, true, true, true, false, false, false, false, false, false, false, false] rfl rfl (by kernel_rfl) (fun _ _ _ h => h) (Or.inl ⟨by rfl, ?_⟩) ?_ ?_
                        rotate_left
                        · intro w'
                          go_simp
                          with_reducible rfl
                        rotate_left
                        · simp only [Act.put, List.setIfInBounds_toArray, List.set_cons_zero, List.set_cons_succ, i64_w, i32_w]
                          rfl
                        refine pure_ (i := 6) (N := (some 87)) (v := ?_) (a' := ?_) #[true, true, true, true, true, true, true, false, false, false, false, false, false, false] rfl rfl (by kernel_rfl) (fun _ _ _ h => h) (Or.inl ⟨by rfl, ?_⟩) ?_ ?_
                        rotate_left
                        · intro w'
                          go_simp
                          with_reducible rfl
                        rotate_left
                        · simp only [Act.put, List.setIfInBounds_toArray, List.set_cons_zero, List.set_cons_succ, i64_w, i32_w]
                          rfl
                        refine pure_ (i := 7) (N := (some 88)) (v := undef) (a' := ?_) #[true, true, true, true, true, true, true, true, false, false, false, false, false, false] rfl rfl (by kernel_rfl) (fun _ _ _ h => h) (Or.inr ⟨by rfl, rfl⟩) ?_ ?_
                        rotate_left
                        · simp only [Act.put, List.setIfInBounds_toArray, List.set_cons_zero, List.set_cons_succ, i64_w, i32_w]
                          rfl
                        refine pure_ (i := 8) (N := (some 89)) (v := undef) (a' := ?_) #[true, true, true, true, true, true, true, true, true, false, false, false, false, false] rfl rfl (by kernel_rfl) (fun _ _ _ h => h) (Or.inr ⟨by rfl, rfl⟩) ?_ ?_
                        rotate_left
                        · simp only [Act.put, List.setIfInBounds_toArray, List.set_cons_zero, List.set_cons_succ, i64_w, i32_w]
                          rfl
                        refine take_ (i := 9) (N := (some 90)) (v := undef) (a' := ?_) #[true, true, true, true, true, true, true, true, true, true, false, false, false, false] rfl rfl (by kernel_rfl) (fun _ _ _ h => h) (Or.inr ⟨by rfl, rfl⟩) hHeld ?_ ?_
                        rotate_left
                        · simp only [Act.put, List.setIfInBounds_toArray, List.set_cons_zero, List.set_cons_succ, i64_w, i32_w]
                          rfl
                        refine pure_ (i := 10) (N := (some 91)) (v := undef) (a' := ?_) #[true, true, true, true, true, true, true, true, true, true, true, false, false, false] rfl rfl (by kernel_rfl) (fun _ _ _ h => h) (Or.inr ⟨by rfl, rfl⟩) ?_ ?_
                        rotate_left
                        · simp only [Act.put, List.setIfInBounds_toArray, List.set_cons_zero, List.set_cons_succ, i64_w, i32_w]
                          rfl
                        refine pure_ (i := 11) (N := (some 92)) (v := ?_) (a' := ?_) #[true, true, true, true, true, true, true, true, true, true, true, true, false, false] rfl rfl (by kernel_rfl) (fun _ _ _ h => h) (Or.inl ⟨by rfl, ?_⟩) ?_ ?_
                        rotate_left
                        · intro w'
                          go_simp
                          with_reducible rfl
                        rotate_left
                        · simp only [Act.put, List.setIfInBounds_toArray, List.set_cons_zero, List.set_cons_succ, i64_w, i32_w]
                          rfl
                        refine one_ (i := 12) (N := none) #[true, true, true, true, true, true, true, true, true, true, true, true, true, false] rfl rfl (by kernel_rfl) (by decide) (fun K hK => ?_)
                        refine skip_ (by rfl) rfl (exec_store_row 72 (.tmp 4) (.tmp 81) w.heap.size 72 z5 #[.int .i64 x, .int .i64 y, .int .i64 z, .int .i64 v3, .int .i64 s] rfl rfl rfl L12.out.h (by kernel_rfl) rfl (ec_one _ _ _ _ _)) ?_
                        refine hK.out _ _ ⟨(setRow_other _ _ _ _ HE.out.2.2).trans hHeld.1, (setRow_other _ _ _ _ (by omega)).trans hHeld.2⟩ (fun hHeld => ?_)
                        clear hK K
                        refine pure_ (i := 13) (N := (some 5)) (v := ?_) (a' := ?_) #[true, true, true, true, true, true, true, true, true, true, true, true, true, true] rfl rfl (by kernel_rfl) (fun _ _ _ h => h) (Or.inl ⟨by rfl, ?_⟩) ?_ ?_
                        rotate_left
                        · intro w'
                          go_simp
                          with_reducible rfl
                        rotate_left
                        · simp only [Act.put, List.setIfInBounds_toArray, List.set_cons_zero, List.set_cons_succ, i64_w, i32_w]
                          rfl
                        refine done_ (by kernel_rfl) ?_
                        go_wp2
                        obtain ⟨f1, f2⟩ := L12.out.res #[.int .i64 x, .int .i64 y, .int .i64 z, .int .i64 v3, .int .i64 s]
                        refine bodyPost_ret (results_ct rfl _ _ w.heap.size 72 _ (0, 0) _ rfl f1 HU.out rfl (by kernel_rfl)) rfl ?_
                        rw [← HF.out]
                        exact ⟨rfl, f2⟩
                      | false =>
                        go_wp2
                        refine start_ (n := 14) (S := (fun W : World => W.heap[E]? = some (.cells #[.int .i64 x, .int .i64 y, .int .i64 z, .int .i64 v3, .int .i64 s] 72 (0, 0)) ∧ W.heap[w.heap.size + 1]? = some (.cells #[.slice A l.length c, .int .i64 at11, .bool false] 108 (0, 0)))) (ds := []) #[false, false, false, false, false, false, false, false, false, false, false, false, false, false] (by kernel_rfl) rfl rfl hS (fun hHeld => ?_)
                        refine pure_ (i := 1) (N := (some 82)) (v := ?_) (a' := ?_) #[false, true, false, false, false, false, false, false, false, false, false, false, false, false] rfl rfl (by kernel_rfl) (fun _ _ _ h => h) (Or.inl ⟨by rfl, ?_⟩) ?_ ?_
                        rotate_left
                        · intro w'
                          go_simp
                          with_reducible rfl
                        rotate_left
                        · simp only [Act.put, List.setIfInBounds_toArray, List.set_cons_zero, List.set_cons_succ, i64_w, i32_w]
                          rfl
                        refine pure_ (i := 2) (N := (some 83)) (v := ?_) (a' := ?_) #[false, true, true, false, false, false, false, false, false, false, false, false, false, false] rfl rfl (by kernel_rfl) (fun _ _ _ h => h) (Or.inl ⟨by rfl, ?_⟩) ?_ ?_
                        rotate_left
                        · intro w'
                          go_simp
                          with_reducible rfl
                        rotate_left
                        · simp only [Act.put, List.setIfInBounds_toArray, List.set_cons_zero, List.set_cons_succ, i64_w, i32_w]
                          rfl
                        refine pure_ (i := 3) (N := (some 84)) (v := ?_) (a' := ?_) #[false, true, true, true, false, false, false, false, false, false, false, false, false, false] rfl rfl (by kernel_rfl) (fun _ _ _ h => h) (Or.inl ⟨by rfl, ?_⟩) ?_ ?_
                        rotate_left
                        · intro w'
                          go_simp
                          with_reducible rfl
                        rotate_left
                        · simp only [Act.put, List.setIfInBounds_toArray, List.set_cons_zero, List.set_cons_succ, i64_w, i32_w]
                          rfl
                        refine take_ (i := 0) (N := (some 81)) (v := ?_) (a' := ?_) #[true, true, true, true, false, false, false, false, false, false, false, false, false, false] rfl rfl (by kernel_rfl) (fun _ _ _ h => h) (Or.inl ⟨by rfl, ?_⟩) hHeld ?_ ?_
                        rotate_left
                        · intro w' hS'
                          obtain ⟨q1, q2⟩ := hS'
                          refine exec_load_row 72 (.tmp 8) E 72 _ _ ?_ ?_ q1 HU.out (by kernel_rfl) <;> rfl
                        rotate_left
                        · simp only [Act.put, List.setIfInBounds_toArray, List.set_cons_zero, List.set_cons_succ, i64_w, i32_w]
                          rfl
                        refine take_ (i := 4) (N := (some 85)) (v := ?_) (a' := ?_) #[true, true, true, true, true, false, false, false, false, false, false, false, false, false] rfl rfl (by kernel_rfl) (fun _ _ _ h => h) (Or.inl ⟨by rfl, ?_⟩) hHeld ?_ ?_
                        rotate_left
                        · intro w' hS'
                          obtain ⟨q1, q2⟩ := hS'
                          have q4 := (blk_cell q2 2).trans (rfl : _ = some (Value.bool false))
                          go_simp
                          with_reducible rfl
                        rotate_left
                        · simp only [Act.put, List.setIfInBounds_toArray, List.set_cons_zero, List.set_cons_succ, i64_w, i32_w]
                          rfl
                        refine pure_ (i := 5) (N := (some 86)) (v := ?_) (a' := ?_) #[true, true, true, true, true, true, false, false, false, false, false, false, false, false] rfl rfl (by kernel_rfl) (fun _ _ _ h => h) (Or.inl ⟨by rfl, ?_⟩) ?_ ?_
                        rotate_left
                        · intro w'
                          go_simp
                          with_reducible rfl
                        rotate_left
                        · simp only [Act.put, List.setIfInBounds_toArray, List.set_cons_zero, List.set_cons_succ, i64_w, i32_w]
                          rfl
                        refine pure_ (i := 6) (N := (some 87)) (v := ?_) (a' := ?_) #[true, true, true, true, true, true, true, false, false, false, false, false, false, false] rfl rfl (by kernel_rfl) (fun _ _ _ h => h) (Or.inl ⟨by rfl, ?_⟩) ?_ ?_
                        rotate_left
                        · intro w'
                          go_simp
                          with_reducible rfl
                        rotate_left
                        · simp only [Act.put, List.setIfInBounds_toArray, List.set_cons_zero, List.set_cons_succ, i64_w, i32_w]
                          rfl
                        refine pure_ (i := 7) (N := (some 88)) (v := ?_) (a' := ?_) #[true, true, true, true, true, true, true, true, false, false, false, false, false, false] rfl rfl (by kernel_rfl) (fun _ _ _ h => h) (Or.inl ⟨by rfl, ?_⟩) ?_ ?_
                        rotate_left
                        · intro w'
                          go_simp
                          with_reducible rfl
                        rotate_left
                        · simp only [Act.put, List.setIfInBounds_toArray, List.set_cons_zero, List.set_cons_succ, i64_w, i32_w]
                          rfl
                        refine pure_ (i := 8) (N := (some 89)) (v := ?_) (a' := ?_) #[true, true, true, true, true, true, true, true, true, false, false, false, false, false] rfl rfl (by kernel_rfl) (fun _ _ _ h => h) (Or.inl ⟨by rfl, ?_⟩) ?_ ?_
                        rotate_left
                        · intro w'
                          go_simp
                          with_reducible rfl
                        rotate_left
                        · simp only [Act.put, List.setIfInBounds_toArray, List.set_cons_zero, List.set_cons_succ, i64_w, i32_w]
                          rfl
                        refine take_ (i := 9) (N := (some 90)) (v := ?_) (a' := ?_) #[true, true, true, true, true, true, true, true, true, true, false, false, false, false] rfl rfl (by kernel_rfl) (fun _ _ _ h => h) (Or.inl ⟨by rfl, ?_⟩) hHeld ?_ ?_
                        rotate_left
                        · intro w' hS'
                          obtain ⟨q1, q2⟩ := hS'
                          have q4 := (blk_cell q1 0).trans (rfl : _ = some (Value.int .i64 x))
                          go_simp
                          with_reducible rfl
                        rotate_left
                        · simp only [Act.put, List.setIfInBounds_toArray, List.set_cons_zero, List.set_cons_succ, i64_w, i32_w]
                          rfl
                        refine pure_ (i := 10) (N := (some 91)) (v := ?_) (a' := ?_) #[true, true, true, true, true, true, true, true, true, true, true, false, false, false] rfl rfl (by kernel_rfl) (fun _ _ _ h => h) (Or.inl ⟨by rfl, ?_⟩) ?_ ?_
                        rotate_left
                        · intro w'
                          go_simp
                          with_reducible rfl
                        rotate_left
                        · simp only [Act.put, List.setIfInBounds_toArray, List.set_cons_zero, List.set_cons_succ, i64_w, i32_w]
                          rfl
                        refine pure_ (i := 11) (N := (some 92)) (v := ?_) (a' := ?_) #[true, true, true, true, true, true, true, true, true, true, true, true, false, false] rfl rfl (by kernel_rfl) (fun _ _ _ h => h) (Or.inl ⟨by rfl, ?_⟩) ?_ ?_
                        rotate_left
                        · intro w'
                          go_simp
                          with_reducible rfl
                        rotate_left
                        · simp only [Act.put, List.setIfInBounds_toArray, List.set_cons_zero, List.set_cons_succ, i64_w, i32_w]
                          rfl
                        refine one_ (i := 12) (N := none) #[true, true, true, true, true, true, true, true, true, true, true, true, true, false] rfl rfl (by kernel_rfl) (by decide) (fun K hK => ?_)
                        refine skip_ (by rfl) rfl (exec_store_row 72 (.tmp 4) (.tmp 81) w.heap.size 72 z5 #[.int .i64 x, .int .i64 y, .int .i64 z, .int .i64 v3, .int .i64 s] rfl rfl rfl L12.out.h (by kernel_rfl) rfl (ec_one _ _ _ _ _)) ?_
                        refine hK.out _ _ ⟨(setRow_other _ _ _ _ HE.out.2.2).trans hHeld.1, (setRow_other _ _ _ _ (by omega)).trans hHeld.2⟩ (fun hHeld => ?_)
                        clear hK K
                        refine pure_ (i := 13) (N := (some 5)) (v := ?_) (a' := ?_) #[true, true, true, true, true, true, true, true, true, true, true, true, true, true] rfl rfl (by kernel_rfl) (fun _ _ _ h => h) (Or.inl ⟨by rfl, ?_⟩) ?_ ?_
                        rotate_left
                        · intro w'
                          go_simp
                          with_reducible rfl
                        rotate_left
                        · simp only [Act.put, List.setIfInBounds_toArray, List.set_cons_zero, List.set_cons_succ, i64_w, i32_w]
                          rfl
                        refine done_ (by kernel_rfl) ?_
                        go_wp2
                        obtain ⟨f1, f2⟩ := L12.out.res #[.int .i64 x, .int .i64 y, .int .i64 z, .int .i64 v3, .int .i64 s]
                        refine bodyPost_ret (results_ct rfl _ _ w.heap.size 72 _ (0, 0) _ rfl f1 HU.out rfl (by kernel_rfl)) rfl ?_
                        rw [← HF.out]
                        exact ⟨rfl, f2⟩
                    · rw [if_neg hv] at hf
                      have HF := Aside0.mk hf
                      have b0 : (v9 != 0) = true := by simp [hv]
                      clear hf hv
                      go_wp2_with ((with_reducible refine gate_store (t := 72) (p := 4) rfl ?_); refine wpList_store_row rfl 72 (.tmp 4) (.tmp 69) rfl w.heap.size z5 rfl rfl 72 z5 L9.out.h (by kernel_rfl) rfl z5_one ?_)
                      obtain ⟨f1, f2⟩ := L9.out.res z5
                      refine bodyPost_ret (results_ct rfl _ _ w.heap.size 72 z5 (0, 0) _ rfl f1 HU.out rfl (by kernel_rfl)) rfl ?_
                      rw [← HF.out]
                      exact far_fail f2
                  · rw [if_neg hv] at hf
                    have HF := Aside0.mk hf
                    have b0 : (v8 != 0) = true := by simp [hv]
                    clear hf hv
                    go_wp2_with ((with_reducible refine gate_store (t := 72) (p := 4) rfl ?_); refine wpList_store_row rfl 72 (.tmp 4) (.tmp 69) rfl w.heap.size z5 rfl rfl 72 z5 L8.out.h (by kernel_rfl) rfl z5_one ?_)
                    obtain ⟨f1, f2⟩ := L8.out.res z5
                    refine bodyPost_ret (results_ct rfl _ _ w.heap.size 72 z5 (0, 0) _ rfl f1 HU.out rfl (by kernel_rfl)) rfl ?_
                    rw [← HF.out]
                    exact far_fail f2
                · rw [if_neg hv] at hf
                  have HF := Aside0.mk hf
                  have b0 : (v6 != 44) = true := by simp [hv]
                  clear hf hv
                  go_wp2_with ((with_reducible refine gate_store (t := 72) (p := 4) rfl ?_); refine wpList_store_row rfl 72 (.tmp 4) (.tmp 58) rfl w.heap.size z5 rfl rfl 72 z5 L6.out.h (by kernel_rfl) rfl z5_one ?_)
                  obtain ⟨f1, f2⟩ := L6.out.res z5
                  refine bodyPost_ret (results_ct rfl _ _ w.heap.size 72 z5 (0, 0) _ rfl f1 HU.out rfl (by kernel_rfl)) rfl ?_
                  rw [← HF.out]
                  exact far_fail f2
              · rw [if_neg hv] at hf
                have HF := Aside0.mk hf
                have b0 : (v5 != 101075792) = true := by simp [hv]
                clear hf hv
                go_wp2_with ((with_reducible refine gate_store (t := 72) (p := 4) rfl ?_); refine wpList_store_row rfl 72 (.tmp 4) (.tmp 58) rfl w.heap.size z5 rfl rfl 72 z5 L5.out.h (by kernel_rfl) rfl z5_one ?_)
                obtain ⟨f1, f2⟩ := L5.out.res z5
                refine bodyPost_ret (results_ct rfl _ _ w.heap.size 72 z5 (0, 0) _ rfl f1 HU.out rfl (by kernel_rfl)) rfl ?_
                rw [← HF.out]
                exact far_fail f2
            · rw [if_neg hp] at hf
              have HF := Aside0.mk hf
              have b1 : (v3 != s - 76) = true := by simp [hp]
              clear hf hp
              go_wp2_with ((with_reducible refine gate_store (t := 72) (p := 4) rfl ?_); refine wpList_store_row rfl 72 (.tmp 4) (.tmp 45) rfl w.heap.size z5 rfl rfl 72 z5 L4.out.h (by kernel_rfl) rfl z5_one ?_)
              obtain ⟨f1, f2⟩ := L4.out.res z5
              refine bodyPost_ret (results_ct rfl _ _ w.heap.size 72 z5 (0, 0) _ rfl f1 HU.out rfl (by kernel_rfl)) rfl ?_
              rw [← HF.out]
              exact far_fail f2
        · rw [if_neg hv] at hf
          have HF := Aside0.mk hf
          have b0 : (v4 != 1) = true := by simp [hv]
          clear hf hv
          go_wp2_with ((with_reducible refine gate_store (t := 72) (p := 4) rfl ?_); refine wpList_store_row rfl 72 (.tmp 4) (.tmp 45) rfl w.heap.size z5 rfl rfl 72 z5 L4.out.h (by kernel_rfl) rfl z5_one ?_)
          obtain ⟨f1, f2⟩ := L4.out.res z5
          refine bodyPost_ret (results_ct rfl _ _ w.heap.size 72 z5 (0, 0) _ rfl f1 HU.out rfl (by kernel_rfl)) rfl ?_
          rw [← HF.out]
          exact far_fail f2
      · rw [if_neg hv] at hf
        have HF := Aside0.mk hf
        have b0 : (v2 != 0) = true := by simp [hv]
        clear hf hv
        go_wp2_with ((with_reducible refine gate_store (t := 72) (p := 4) rfl ?_); refine wpList_store_row rfl 72 (.tmp 4) (.tmp 26) rfl w.heap.size z5 rfl rfl 72 z5 L2.out.h (by kernel_rfl) rfl z5_one ?_)
        obtain ⟨f1, f2⟩ := L2.out.res z5
        refine bodyPost_ret (results_ct rfl _ _ w.heap.size 72 z5 (0, 0) _ rfl f1 HU.out rfl (by kernel_rfl)) rfl ?_
        rw [← HF.out]
        exact far_fail f2
    · rw [if_neg hv] at hf
      have HF := Aside0.mk hf
      have b0 : (v1 != 117853008) = true := by simp [hv]
      clear hf hv
      go_wp2_with ((with_reducible refine gate_store (t := 72) (p := 4) rfl ?_); refine wpList_store_row rfl 72 (.tmp 4) (.tmp 26) rfl w.heap.size z5 rfl rfl 72 z5 L1.out.h (by kernel_rfl) rfl z5_one ?_)
      obtain ⟨f1, f2⟩ := L1.out.res z5
      refine bodyPost_ret (results_ct rfl _ _ w.heap.size 72 z5 (0, 0) _ rfl f1 HU.out rfl (by kernel_rfl)) rfl ?_
      rw [← HF.out]
      exact far_fail f2
end Go.Proofs.Ytfnicahlnpngkaa.ZipFar
/- zipdir.Find, walked by hand. -/
namespace Go.Proofs.Ytfnicahlnpngkaa.ZipFind
open Go.RowKit Go.Proofs.YtfnicahlnpngkaaW.PrintWords Go.Proofs.YtfnicahlnpngkaaW.PrintLast Go.Proofs.YtfnicahlnpngkaaW.PrintMore Go.Proofs.Ytfnicahlnpngkaa.Base Go.Proofs.Ytfnicahlnpngkaa.NumRead Go.Proofs.Ytfnicahlnpngkaa.ExtraNum Go.Proofs.Ytfnicahlnpngkaa.ZipRd Go.Proofs.Ytfnicahlnpngkaa.ZipNums Go.Proofs.Ytfnicahlnpngkaa.ZipText Go.Proofs.Ytfnicahlnpngkaa.ZipCom Go.Proofs.Ytfnicahlnpngkaa.ZipRow Go.Proofs.Ytfnicahlnpngkaa.ZipFound Go.Proofs.Ytfnicahlnpngkaa.ZipFar
def zeroB (bad : Bool) (n : Int) : Bool := !bad && (n == 0 || n == 65535)
def findZ : EndR × Int := ((0, 0, 0, 0, 0), 2)
def find4 (x : EndR × Bool) : EndR × Int := if x.2 = true then (if x.1.2.2.1 ≤ x.1.2.2.2.1 then (if x.1.2.1 = wrap64 (x.1.2.2.2.1 - x.1.2.2.1) then (x.1, 0) else findZ) else findZ) else findZ
def find3 (l : List Int) (s d1 d2 d3 en : Int) (bad : Bool) : List Int → EndR × Int
  | [sz, off] => if zeroB bad d1 = true then (if zeroB bad d2 = true then (if d3 = en then (if en = 65535 ∨ sz = 4294967295 ∨ off = 4294967295 then find4 (farOf l s) else find4 ((en, sz, off, s, s), true)) else findZ) else findZ) else findZ
  | _ => findZ
def find2 (l : List Int) (s : Int) (at_ : Int) (bad : Bool) : List Int → EndR × Int
  | [d1, d2, d3, en] => find3 l s d1 d2 d3 en (nxi l at_ bad 4 2).2.2 (nxi l at_ bad 4 2).1
  | _ => findZ
def find1 (l : List Int) (s : Int) : EndR × Int := find2 l s (nxi l (s + 4) false 2 4).2.1 (nxi l (s + 4) false 2 4).2.2 (nxi l (s + 4) false 2 4).1
def findOf (l : List Int) : EndR × Int := if foundOf l < 0 then findZ else find1 l (foundOf l)
theorem foundGo_range (l : List Int) : ∀ (k : Nat) (a : Int), -1 ≤ foundGo l k a ∧ (foundGo l k a ≤ a ∨ foundGo l k a = -1)
  | 0, a => by simp [foundGo]
  | k + 1, a => by
    rw [foundGo]
    split
    · split
      · omega
      · have := foundGo_range l k (a - 1); omega
    · simp
theorem found_range (l : List Int) : -1 ≤ foundOf l ∧ foundOf l ≤ (l.length : Int) := by
  have := foundGo_range l (l.length + 1) ((l.length : Int) - 22)
  unfold foundOf; omega
/-- the blocks: the result, the reader, the pointer to it, the end, three numbers. -/
structure Fi (w W : World) (H n : Nat) (A : Option Addr) (c : Nat) (l : List Int) (at_ : Int) (bad : Bool) (x : EndR) (d1 d2 d3 : Int) : Prop where
  h : W.heap[H]? = some (.cells z5 72 (0, 0))
  r : Rd W n A c l at_ bad
  p : W.heap[n + 1]? = some (.cells #[.pointer (some ⟨n, 0, none⟩)] 106 (0, 0))
  e : W.heap[n + 1 + 1]? = some (.cells #[.int .i64 x.1, .int .i64 x.2.1, .int .i64 x.2.2.1, .int .i64 x.2.2.2.1, .int .i64 x.2.2.2.2] 72 (0, 0))
  d1 : W.heap[n + 1 + 1 + 1]? = some (.cells #[.int .i64 d1] 3 (0, 0))
  d2 : W.heap[n + 1 + 1 + 1 + 1]? = some (.cells #[.int .i64 d2] 3 (0, 0))
  d3 : W.heap[n + 1 + 1 + 1 + 1 + 1]? = some (.cells #[.int .i64 d3] 3 (0, 0))
  low : Below w.heap.size w W
  hH : w.heap.size ≤ H
  hn : H < n
theorem Fi.below {w W W' : World} {H n : Nat} {A : Option Addr} {c : Nat} {l : List Int} {at_ : Int} {bad : Bool} {x : EndR} {d1 d2 d3 : Int} (h : Fi w W H n A c l at_ bad x d1 d2 d3) (hb : Below W.heap.size W W') : Fi w W' H n A c l at_ bad x d1 d2 d3 :=
  ⟨blk_below h.h hb, blk_below h.r hb, blk_below h.p hb, blk_below h.e hb, blk_below h.d1 hb, blk_below h.d2 hb, blk_below h.d3 hb, below_then h.low h.low.size hb, h.hH, h.hn⟩
theorem Fi.setE {w W : World} {H n : Nat} {A : Option Addr} {c : Nat} {l : List Int} {at_ : Int} {bad : Bool} {x : EndR} {d1 d2 d3 : Int} (h : Fi w W H n A c l at_ bad x d1 d2 d3) (y : EndR) : Fi w (W.setRow (n + 1 + 1) #[.int .i64 y.1, .int .i64 y.2.1, .int .i64 y.2.2.1, .int .i64 y.2.2.2.1, .int .i64 y.2.2.2.2]) H n A c l at_ bad y d1 d2 d3 := by
  have a := h.hH
  have b := h.hn
  exact ⟨(setRow_other _ _ _ _ (by omega)).trans h.h, (setRow_other _ _ _ _ (by omega)).trans h.r, (setRow_other _ _ _ _ (by omega)).trans h.p, setRow_heap _ _ _ _ _ _ h.e, (setRow_other _ _ _ _ (by omega)).trans h.d1, (setRow_other _ _ _ _ (by omega)).trans h.d2, (setRow_other _ _ _ _ (by omega)).trans h.d3, below_setRow h.low (by omega) _, h.hH, h.hn⟩
theorem Fi.res {w W : World} {H n : Nat} {A : Option Addr} {c : Nat} {l : List Int} {at_ : Int} {bad : Bool} {x : EndR} {d1 d2 d3 : Int} (h : Fi w W H n A c l at_ bad x d1 d2 d3) (cs : Array Value) : (W.setRow H cs).heap[H]? = some (.cells cs 72 (0, 0)) ∧ Below w.heap.size w (W.setRow H cs) :=
  ⟨setRow_heap _ _ _ _ _ _ h.h, below_setRow h.low h.hH _⟩
theorem sz_ {w w1 : World} {o : Obj} {k : Nat} (h : w1.heap.size = k) : (w1.alloc o).heap.size = k + 1 := by simp [h]
theorem new_ {w1 : World} {o : Obj} {k : Nat} (h : w1.heap.size = k) : (w1.alloc o).heap[k]? = some o := by subst h; exact blk_new _ _
theorem fi0 (w w1 : World) (A : Option Addr) (c : Nat) (l : List Int) (a s : Int) (H : Nat) (hh : w1.heap[H]? = some (.cells z5 72 (0, 0))) (hb : Below w.heap.size w w1) (hH : w.heap.size ≤ H) :
    Fi w ((((((w1.alloc (.cells #[.slice A l.length c, .int .i64 a, .bool false] 108)).alloc (.cells #[.pointer (some ⟨w1.heap.size, 0, none⟩)] 106)).alloc (.cells #[.int .i64 0, .int .i64 0, .int .i64 0, .int .i64 s, .int .i64 s] 72)).alloc (.cells #[.int .i64 0] 3)).alloc (.cells #[.int .i64 0] 3)).alloc (.cells #[.int .i64 0] 3)) H w1.heap.size A c l a false (0, 0, 0, s, s) 0 0 0 := by
  have hH2 := blk_lt hh
  have s0 : w1.heap.size = w1.heap.size := rfl
  have s1 := sz_ (w := w) (o := .cells #[.slice A l.length c, .int .i64 a, .bool false] 108) s0
  have s2 := sz_ (w := w) (o := .cells #[.pointer (some ⟨w1.heap.size, 0, none⟩)] 106) s1
  have s3 := sz_ (w := w) (o := .cells #[.int .i64 0, .int .i64 0, .int .i64 0, .int .i64 s, .int .i64 s] 72) s2
  have s4 := sz_ (w := w) (o := .cells #[.int .i64 0] 3) s3
  have s5 := sz_ (w := w) (o := .cells #[.int .i64 0] 3) s4
  exact ⟨blk_alloc (blk_alloc (blk_alloc (blk_alloc (blk_alloc (blk_alloc hh _) _) _) _) _) _, blk_alloc (blk_alloc (blk_alloc (blk_alloc (blk_alloc (blk_new _ _) _) _) _) _) _, blk_alloc (blk_alloc (blk_alloc (blk_alloc (new_ s1) _) _) _) _, blk_alloc (blk_alloc (blk_alloc (new_ s2) _) _) _, blk_alloc (blk_alloc (new_ s3) _) _, blk_alloc (new_ s4) _, new_ s5, below_alloc (below_alloc (below_alloc (below_alloc (below_alloc (below_alloc hb _) _) _) _) _) _, hH, hH2⟩
theorem four {vs : List Int} (h : vs.length = 4) : ∃ a b c d, vs = [a, b, c, d] := by
  match vs, h with
  | [a, b, c, d], _ => exact ⟨a, b, c, d, rfl⟩
theorem Fi.nums1 {w W : World} {H n : Nat} {A : Option Addr} {c : Nat} {l : List Int} {at_ : Int} {bad : Bool} {x : EndR} {d1 d2 d3 : Int} (h : Fi w W H n A c l at_ bad x d1 d2 d3) (st : List Int × Int × Bool) (tb : Nat) (htb : tb = W.heap.size) (hC : Kd.C (Kd.int .u8) w A l.length l) (hc : l.length ≤ c) (hl : l.length ≤ 140737488355328) (hst : nxi l at_ bad 2 4 = st) :
    Calls Try.prog 67 #[.pointer (some ⟨n, 0, none⟩), .int .i64 2, .slice (some ⟨tb, 0, none⟩) 4 4] (W.alloc (.cells #[.pointer (some ⟨n + 1 + 1 + 1, 0, none⟩), .pointer (some ⟨n + 1 + 1 + 1 + 1, 0, none⟩), .pointer (some ⟨n + 1 + 1 + 1 + 1 + 1, 0, none⟩), .pointer (some ⟨n + 1 + 1, 0, none⟩)] 110)) fun e w' => ∃ a b c' d, st.1 = [a, b, c', d] ∧ e = .returned (.tuple #[]) ∧ Fi w w' H n A c l st.2.1 st.2.2 (d, x.2) a b c' := by
  subst htb
  subst hst
  have k1 := h.hH
  have k2 := h.hn
  have k3 := blk_lt h.d3
  refine (numbers_ w n A c l at_ bad 2 [⟨n + 1 + 1 + 1, 0, none⟩, ⟨n + 1 + 1 + 1 + 1, 0, none⟩, ⟨n + 1 + 1 + 1 + 1 + 1, 0, none⟩, ⟨n + 1 + 1, 0, none⟩] W.heap.size 4 _ (blk_alloc h.r _) hC hc hl (below_alloc h.low _) (by omega) (blk_new W _) (by omega) ?_ (by simp)).mono ?_
  · intro p hp
    simp only [List.mem_cons, List.not_mem_nil, or_false] at hp
    rcases hp with rfl | rfl | rfl | rfl
    · exact ⟨by show _ ≤ n + 1 + 1 + 1; omega, by show n + 1 + 1 + 1 ≠ n; omega, by show n + 1 + 1 + 1 ≠ _; omega, rfl, _, _, blk_alloc h.d1 _, by show 0 < 1; omega⟩
    · exact ⟨by show _ ≤ n + 1 + 1 + 1 + 1; omega, by show n + 1 + 1 + 1 + 1 ≠ n; omega, by show n + 1 + 1 + 1 + 1 ≠ _; omega, rfl, _, _, blk_alloc h.d2 _, by show 0 < 1; omega⟩
    · exact ⟨by show _ ≤ n + 1 + 1 + 1 + 1 + 1; omega, by show n + 1 + 1 + 1 + 1 + 1 ≠ n; omega, by show n + 1 + 1 + 1 + 1 + 1 ≠ _; omega, rfl, _, _, blk_alloc h.d3 _, by show 0 < 1; omega⟩
    · exact ⟨by show _ ≤ n + 1 + 1; omega, by show n + 1 + 1 ≠ n; omega, by show n + 1 + 1 ≠ _; omega, rfl, _, _, blk_alloc h.e _, by show 0 < 5; omega⟩
  · rintro e w' ⟨rfl, hn⟩
    obtain ⟨⟨vs, at2, bad2⟩, hst⟩ : ∃ st, nxi l at_ bad 2 4 = st := ⟨_, rfl⟩
    have hlen : (nxi l at_ bad 2 4).1.length = 4 := nxi_len _ _ _ _ _
    rw [show ([⟨n + 1 + 1 + 1, 0, none⟩, ⟨n + 1 + 1 + 1 + 1, 0, none⟩, ⟨n + 1 + 1 + 1 + 1 + 1, 0, none⟩, ⟨n + 1 + 1, 0, none⟩] : List Addr).length = 4 from rfl, hst] at hn
    rw [hst] at hlen ⊢
    obtain ⟨a, b, c', d, rfl⟩ := four hlen
    have far : ∀ (g : Nat) (o : Obj), W.heap[g]? = some o → g < n + 1 + 1 → g ≠ n → w'.heap[g]? = some o := fun g o hg hlt hne => by
      refine Nums.far hn (blk_alloc hg _) hne (fun p hp => ?_)
      simp only [List.mem_cons, List.not_mem_nil, or_false] at hp
      rcases hp with rfl | rfl | rfl | rfl
      · show n + 1 + 1 + 1 ≠ g; omega
      · show n + 1 + 1 + 1 + 1 ≠ g; omega
      · show n + 1 + 1 + 1 + 1 + 1 ≠ g; omega
      · show n + 1 + 1 ≠ g; omega
    refine ⟨a, b, c', d, rfl, rfl, far H _ h.h (by omega) (by omega), hn.rd, far _ _ h.p (by omega) (by omega), ?_, ?_, ?_, ?_, hn.low, h.hH, h.hn⟩
    · rw [hn.all (n + 1 + 1) (by simp; omega) (by omega)]
      simp only [List.zip_cons_cons, List.zip_nil_right, poke]
      refine (blk_set (cs := #[.int .i64 x.1, .int .i64 x.2.1, .int .i64 x.2.2.1, .int .i64 x.2.2.2.1, .int .i64 x.2.2.2.2]) (t := 72) ?_ 0 _).trans rfl
      exact (Below.heap_setCell _ _ _ _ (by show n + 1 + 1 ≠ n + 1 + 1 + 1 + 1 + 1; omega)).trans ((Below.heap_setCell _ _ _ _ (by show n + 1 + 1 ≠ n + 1 + 1 + 1 + 1; omega)).trans ((Below.heap_setCell _ _ _ _ (by show n + 1 + 1 ≠ n + 1 + 1 + 1; omega)).trans (blk_alloc h.e _)))
    · rw [hn.all (n + 1 + 1 + 1) (by simp; omega) (by omega)]
      simp only [List.zip_cons_cons, List.zip_nil_right, poke]
      refine (Below.heap_setCell _ _ _ _ (by show n + 1 + 1 + 1 ≠ n + 1 + 1; omega)).trans ((Below.heap_setCell _ _ _ _ (by show n + 1 + 1 + 1 ≠ n + 1 + 1 + 1 + 1 + 1; omega)).trans ((Below.heap_setCell _ _ _ _ (by show n + 1 + 1 + 1 ≠ n + 1 + 1 + 1 + 1; omega)).trans ?_))
      exact poke1 (v := d1) (blk_alloc h.d1 _)
    · rw [hn.all (n + 1 + 1 + 1 + 1) (by simp; omega) (by omega)]
      simp only [List.zip_cons_cons, List.zip_nil_right, poke]
      refine (Below.heap_setCell _ _ _ _ (by show n + 1 + 1 + 1 + 1 ≠ n + 1 + 1; omega)).trans ((Below.heap_setCell _ _ _ _ (by show n + 1 + 1 + 1 + 1 ≠ n + 1 + 1 + 1 + 1 + 1; omega)).trans ?_)
      refine poke1 (v := d2) ?_
      exact (Below.heap_setCell _ _ _ _ (by show n + 1 + 1 + 1 + 1 ≠ n + 1 + 1 + 1; omega)).trans (blk_alloc h.d2 _)
    · rw [hn.all (n + 1 + 1 + 1 + 1 + 1) (by simp; omega) (by omega)]
      simp only [List.zip_cons_cons, List.zip_nil_right, poke]
      refine (Below.heap_setCell _ _ _ _ (by show n + 1 + 1 + 1 + 1 + 1 ≠ n + 1 + 1; omega)).trans ?_
      refine poke1 (v := d3) ?_
      exact (Below.heap_setCell _ _ _ _ (by show n + 1 + 1 + 1 + 1 + 1 ≠ n + 1 + 1 + 1 + 1; omega)).trans ((Below.heap_setCell _ _ _ _ (by show n + 1 + 1 + 1 + 1 + 1 ≠ n + 1 + 1 + 1; omega)).trans (blk_alloc h.d3 _))
theorem Fi.nums2 {w W : World} {H n : Nat} {A : Option Addr} {c : Nat} {l : List Int} {at_ : Int} {bad : Bool} {x : EndR} {d1 d2 d3 : Int} (h : Fi w W H n A c l at_ bad x d1 d2 d3) (st : List Int × Int × Bool) (tb : Nat) (htb : tb = W.heap.size) (hC : Kd.C (Kd.int .u8) w A l.length l) (hc : l.length ≤ c) (hl : l.length ≤ 140737488355328) (hst : nxi l at_ bad 4 2 = st) :
    Calls Try.prog 67 #[.pointer (some ⟨n, 0, none⟩), .int .i64 4, .slice (some ⟨tb, 0, none⟩) 2 2] (W.alloc (.cells #[.pointer (some ⟨n + 1 + 1, 1, none⟩), .pointer (some ⟨n + 1 + 1, 2, none⟩)] 110)) fun e w' => ∃ a b, st.1 = [a, b] ∧ e = .returned (.tuple #[]) ∧ Fi w w' H n A c l st.2.1 st.2.2 (x.1, a, b, x.2.2.2) d1 d2 d3 := by
  subst htb
  subst hst
  have k1 := h.hH
  have k2 := h.hn
  have k3 := blk_lt h.d3
  refine (numbers_ w n A c l at_ bad 4 [⟨n + 1 + 1, 1, none⟩, ⟨n + 1 + 1, 2, none⟩] W.heap.size 2 _ (blk_alloc h.r _) hC hc hl (below_alloc h.low _) (by omega) (blk_new W _) (by omega) ?_ (by simp)).mono ?_
  · intro p hp
    simp only [List.mem_cons, List.not_mem_nil, or_false] at hp
    rcases hp with rfl | rfl
    · exact ⟨by show _ ≤ n + 1 + 1; omega, by show n + 1 + 1 ≠ n; omega, by show n + 1 + 1 ≠ _; omega, rfl, _, _, blk_alloc h.e _, by show 1 < 5; omega⟩
    · exact ⟨by show _ ≤ n + 1 + 1; omega, by show n + 1 + 1 ≠ n; omega, by show n + 1 + 1 ≠ _; omega, rfl, _, _, blk_alloc h.e _, by show 2 < 5; omega⟩
  · rintro e w' ⟨rfl, hn⟩
    obtain ⟨⟨vs, at2, bad2⟩, hst⟩ : ∃ st, nxi l at_ bad 4 2 = st := ⟨_, rfl⟩
    have hlen : (nxi l at_ bad 4 2).1.length = 2 := nxi_len _ _ _ _ _
    rw [show ([⟨n + 1 + 1, 1, none⟩, ⟨n + 1 + 1, 2, none⟩] : List Addr).length = 2 from rfl, hst] at hn
    rw [hst] at hlen ⊢
    obtain ⟨a, b, rfl⟩ := two hlen
    have far : ∀ (g : Nat) (o : Obj), W.heap[g]? = some o → g ≠ n + 1 + 1 → g ≠ n → w'.heap[g]? = some o := fun g o hg hlt hne => by
      refine Nums.far hn (blk_alloc hg _) hne (fun p hp => ?_)
      simp only [List.mem_cons, List.not_mem_nil, or_false] at hp
      rcases hp with rfl | rfl <;> exact fun e => hlt e.symm
    refine ⟨a, b, rfl, rfl, far H _ h.h (by omega) (by omega), hn.rd, far _ _ h.p (by omega) (by omega), ?_, far _ _ h.d1 (by omega) (by omega), far _ _ h.d2 (by omega) (by omega), far _ _ h.d3 (by omega) (by omega), hn.low, h.hH, h.hn⟩
    rw [hn.all (n + 1 + 1) (by simp; omega) (by omega)]
    simp only [List.zip_cons_cons, List.zip_nil_right, poke]
    exact (blk_set (blk_set (blk_alloc h.e _) 1 _) 2 _).trans rfl
/-- the closure 'zero'. -/
theorem zero_ (n : Nat) (A : Option Addr) (c : Nat) (l : List Int) (at_ : Int) (bad : Bool) (x : Int) (W : World) (hr : Rd W n A c l at_ bad) (hp : W.heap[n + 1]? = some (.cells #[.pointer (some ⟨n, 0, none⟩)] 106 (0, 0))) :
    Calls Try.prog 68 #[.int .i64 x, .pointer (some ⟨n + 1, 0, none⟩)] W fun e w' => e = .returned (.bool (zeroB bad x)) ∧ w' = W := by
  have k1 := (blk_cell hp 0).trans (rfl : _ = some (Value.pointer (some ⟨n, 0, none⟩)))
  have k2 := (blk_cell hr 2).trans (rfl : _ = some (Value.bool bad))
  cases bad with
  | true =>
    go_enter Try.func68, Try.ntmps68
    go_wp2
    go_ret
    exact ⟨rfl, rfl⟩
  | false =>
    by_cases h0 : x = 0
    · have b0 : (x == 0) = true := by simp [h0]
      have hz : zeroB false x = true := by simp [zeroB, h0]
      rw [hz]
      clear hz h0
      go_enter Try.func68, Try.ntmps68
      go_wp2
      go_ret
      exact ⟨rfl, rfl⟩
    · have b0 : (x == 0) = false := by simp [h0]
      have hz : zeroB false x = (x == 65535) := by simp [zeroB, h0]
      rw [hz]
      clear hz h0
      go_enter Try.func68, Try.ntmps68
      go_wp2
      go_ret
      exact ⟨rfl, rfl⟩
def stop_T (p : Prop) : Prop := p
theorem stop_ {p : Prop} (h : stop_T p) : p := h
set_option maxHeartbeats 16000000 in
set_option maxRecDepth 100000 in
theorem find_ (A : Option Addr) (c : Nat) (l : List Int) (w : World) (hC : Kd.C (Kd.int .u8) w A l.length l) (hc : l.length ≤ c) (hl : l.length ≤ 1000000) :
    Calls Try.prog 43 #[.slice A l.length c] w fun e w' => e = .returned (.tuple #[.agg (ec (findOf l).1), .int .i64 (findOf l).2]) ∧ Below w.heap.size w w' := by
  have HU := Aside0.mk Try.underlying72
  have hl2 : l.length ≤ 140737488355328 := by omega
  have HC := Aside0.mk hC
  have hrg := found_range l
  have hFO := found_ A c l (w.alloc (.cells z5 72)) (Kd.C_below hC (below_alloc (Below.refl _ _) _)) hc hl
  obtain ⟨r, hr⟩ : ∃ r, findOf l = r := ⟨_, rfl⟩
  rw [hr]
  unfold findOf at hr
  obtain ⟨s, hs⟩ : ∃ s, foundOf l = s := ⟨_, rfl⟩
  rw [hs] at hr hrg hFO
  have HFO := Aside0.mk hFO
  have HF := Aside0.mk hr
  clear hC hr hFO hs
  go_enter Try.func43, Try.ntmps43
  go_wp2_with (fail)
  refine (HFO.out).mono ?_
  rintro e w1 ⟨rfl, hb⟩
  have hh : w1.heap[w.heap.size]? = some (.cells z5 72 (0, 0)) := blk_below (blk_new w _) hb
  have low1 : Below w.heap.size w w1 := below_then (below_alloc (Below.refl _ _) _) (by simp) hb
  have H1 := Aside0.mk hh
  have B1 := Aside0.mk low1
  clear HFO hb hh low1
  by_cases hneg : s < 0
  · have hf := HF.out
    rw [if_pos hneg] at hf
    clear HF
    go_wp2_with ((with_reducible refine gate_store (t := 72) (p := 2) rfl ?_); refine wpList_store_row rfl 72 (.tmp 2) (.tmp 16) rfl w.heap.size z5 rfl rfl 72 z5 H1.out (by kernel_rfl) rfl z5_one ?_)
    refine bodyPost_ret (results_ct rfl _ _ w.heap.size 72 z5 (0, 0) _ rfl (setRow_heap _ _ _ _ _ _ H1.out) HU.out rfl (by kernel_rfl)) rfl ?_
    rw [← hf]
    exact ⟨rfl, below_setRow B1.out (Nat.le_refl _) _⟩
  · have hf := HF.out
    rw [if_neg hneg] at hf
    have hw4 : IntKind.i64.wrap (s + 4) = s + 4 := by rw [wi64]; exact wrap64_id (by omega) (by omega)
    obtain ⟨⟨vs1, at1, bad1⟩, hn1⟩ : ∃ st, nxi l (s + 4) false 2 4 = st := ⟨_, rfl⟩
    unfold find1 at hf
    rw [hn1] at hf
    have HF2 := Aside0.mk hf
    have L0 := Aside0.mk (fi0 w w1 A c l (s + 4) s w.heap.size H1.out B1.out (Nat.le_refl _))
    have hp0 := (blk_cell L0.out.p 0).trans (rfl : _ = some (Value.pointer (some ⟨w1.heap.size, 0, none⟩)))
    have HN1 := Aside0.mk hn1
    clear HF hf hn1
    go_wp2_with (fail)
    refine (L0.out.nums1 _ _ ?hz HC.out hc hl2 HN1.out).mono ?_
    case hz => simp
    rintro e w2 ⟨d1, d2, d3, en, hv, rfl, hL⟩
    obtain rfl : vs1 = [d1, d2, d3, en] := hv
    have hf := HF2.out
    simp only [find2] at hf
    obtain ⟨⟨vs2, at2, bad2⟩, hn2⟩ : ∃ st, nxi l at1 bad1 4 2 = st := ⟨_, rfl⟩
    rw [hn2] at hf
    have hp2 := (blk_cell hL.p 0).trans (rfl : _ = some (Value.pointer (some ⟨w1.heap.size, 0, none⟩)))
    have L2 := Aside0.mk hL
    have HN2 := Aside0.mk hn2
    have HF3 := Aside0.mk hf
    clear HF2 hf hn2 hL HN1 L0 hp0
    go_wp2_with (fail)
    refine (L2.out.nums2 _ _ rfl HC.out hc hl2 HN2.out).mono ?_
    rintro e w3 ⟨sz, off, hv, rfl, hL⟩
    obtain rfl : vs2 = [sz, off] := hv
    have hf := HF3.out
    simp only [find3] at hf
    have hp3 := (blk_cell hL.p 0).trans (rfl : _ = some (Value.pointer (some ⟨w1.heap.size, 0, none⟩)))
    have q1 := (blk_cell hL.d1 0).trans (rfl : _ = some (Value.int .i64 d1))
    have q2 := (blk_cell hL.d2 0).trans (rfl : _ = some (Value.int .i64 d2))
    have q3 := (blk_cell hL.d3 0).trans (rfl : _ = some (Value.int .i64 d3))
    have e0 := (blk_cell hL.e 0).trans (rfl : _ = some (Value.int .i64 en))
    have e1 := (blk_cell hL.e 1).trans (rfl : _ = some (Value.int .i64 sz))
    have e2 := (blk_cell hL.e 2).trans (rfl : _ = some (Value.int .i64 off))
    have e3 := (blk_cell hL.e 3).trans (rfl : _ = some (Value.int .i64 s))
    have e4 := (blk_cell hL.e 4).trans (rfl : _ = some (Value.int .i64 s))
    have L3 := Aside0.mk hL
    have Z1 := Aside0.mk (zero_ w1.heap.size A c l at2 bad2 d1 w3 hL.r hL.p)
    have Z2 := Aside0.mk (zero_ w1.heap.size A c l at2 bad2 d2 w3 hL.r hL.p)
    clear HF3 HN2 L2 hp2 hL H1 B1
    cases hz1 : zeroB bad2 d1 with
    | false =>
      rw [hz1] at hf Z1
      rw [if_neg (by simp)] at hf
      have HF := Aside0.mk hf
      clear hf hz1 Z2
      go_wp2_with (first | (go_at_call 68; (with_reducible refine (Z1.out).mono ?_); rintro e w_ ⟨rfl, hw_⟩; subst hw_) | ((with_reducible refine gate_store (t := 72) (p := 2) rfl ?_); refine wpList_store_row rfl 72 (.tmp 2) (.tmp 90) rfl w.heap.size z5 rfl rfl 72 z5 L3.out.h (by kernel_rfl) rfl z5_one ?_))
      obtain ⟨f1, f2⟩ := L3.out.res z5
      refine bodyPost_ret (results_ct rfl _ _ w.heap.size 72 z5 (0, 0) _ rfl f1 HU.out rfl (by kernel_rfl)) rfl ?_
      rw [← HF.out]
      exact ⟨rfl, f2⟩
    | true =>
      rw [hz1] at hf Z1
      rw [if_pos rfl] at hf
      cases hz2 : zeroB bad2 d2 with
      | false =>
        rw [hz2] at hf Z2
        rw [if_neg (by simp)] at hf
        have HF := Aside0.mk hf
        clear hf hz1 hz2
        go_wp2_with (first | (go_at_call 68; (with_reducible refine (Z1.out).mono ?_); rintro e w_ ⟨rfl, hw_⟩; subst hw_) | (go_at_call 68; (with_reducible refine (Z2.out).mono ?_); rintro e w_ ⟨rfl, hw_⟩; subst hw_) | ((with_reducible refine gate_store (t := 72) (p := 2) rfl ?_); refine wpList_store_row rfl 72 (.tmp 2) (.tmp 90) rfl w.heap.size z5 rfl rfl 72 z5 L3.out.h (by kernel_rfl) rfl z5_one ?_))
        obtain ⟨f1, f2⟩ := L3.out.res z5
        refine bodyPost_ret (results_ct rfl _ _ w.heap.size 72 z5 (0, 0) _ rfl f1 HU.out rfl (by kernel_rfl)) rfl ?_
        rw [← HF.out]
        exact ⟨rfl, f2⟩
      | true =>
        rw [hz2] at hf Z2
        rw [if_pos rfl] at hf
        clear hz1 hz2
        by_cases h3 : d3 = en
        · rw [if_pos h3] at hf
          have b3 : (d3 == en) = true := by simp [h3]
          clear h3
          rcases (show en = 65535 ∨ (¬ en = 65535 ∧ sz = 4294967295) ∨ (¬ en = 65535 ∧ ¬ sz = 4294967295 ∧ off = 4294967295) ∨ (¬ en = 65535 ∧ ¬ sz = 4294967295 ∧ ¬ off = 4294967295) by omega) with k1 | ⟨k1, k2⟩ | ⟨k1, k2, k3⟩ | ⟨k1, k2, k3⟩
          · rw [if_pos (.inl k1)] at hf
            have c1 : (en == 65535) = true := by simp [k1]
            clear k1
            have FA := Aside0.mk (far_ A c l s w3 (Kd.C_below HC.out L3.out.low) hc hl (by omega))
            obtain ⟨⟨⟨x0, x1, x2, x3, x4⟩, ok⟩, hfo⟩ : ∃ q, farOf l s = q := ⟨_, rfl⟩
            rw [hfo] at hf FA
            have HF0 := Aside0.mk hf
            clear hf hfo
            go_wp2_with (first | (go_at_call 68; (with_reducible refine (Z1.out).mono ?_); rintro e w_ ⟨rfl, hw_⟩; subst hw_) | (go_at_call 68; (with_reducible refine (Z2.out).mono ?_); rintro e w_ ⟨rfl, hw_⟩; subst hw_) | (go_at_call 69; (refine (FA.out).mono ?_); rintro e w4 ⟨rfl, hb⟩; have L4 := Aside0.mk (L3.out.below hb); have L5 := Aside0.mk ((L3.out.below hb).setE (x0, x1, x2, x3, x4)); clear hb FA) | ((with_reducible refine gate_store (t := 72) (p := 6) rfl ?_); refine wpList_store_row rfl 72 (.tmp 6) (.tmp 69) rfl (w1.heap.size + 1 + 1) #[.int .i64 x0, .int .i64 x1, .int .i64 x2, .int .i64 x3, .int .i64 x4] rfl rfl 72 #[.int .i64 en, .int .i64 sz, .int .i64 off, .int .i64 s, .int .i64 s] L4.out.e (by kernel_rfl) rfl (ec_one _ _ _ _ _) ?_; refine stop_ ?_))
            unfold stop_T
            have y0 := (blk_cell L5.out.e 0).trans (rfl : _ = some (Value.int .i64 x0))
            have y1 := (blk_cell L5.out.e 1).trans (rfl : _ = some (Value.int .i64 x1))
            have y2 := (blk_cell L5.out.e 2).trans (rfl : _ = some (Value.int .i64 x2))
            have y3 := (blk_cell L5.out.e 3).trans (rfl : _ = some (Value.int .i64 x3))
            have y4 := (blk_cell L5.out.e 4).trans (rfl : _ = some (Value.int .i64 x4))
            have hf := HF0.out
            clear HF0
            cases ok with
            | false =>
              simp only [find4] at hf
              rw [if_neg (by simp)] at hf
              have HF := Aside0.mk hf
              clear hf
              go_wp2_with (first | ((with_reducible refine gate_store (t := 72) (p := 2) rfl ?_); refine wpList_store_row rfl 72 (.tmp 2) (.tmp 90) rfl w.heap.size z5 rfl rfl 72 z5 L5.out.h (by kernel_rfl) rfl z5_one ?_))
              obtain ⟨f1, f2⟩ := L5.out.res z5
              refine bodyPost_ret (results_ct rfl _ _ w.heap.size 72 z5 (0, 0) _ rfl f1 HU.out rfl (by kernel_rfl)) rfl ?_
              rw [← HF.out]
              exact ⟨rfl, f2⟩
            | true =>
              obtain ⟨dd, hdd⟩ : ∃ dd, wrap64 (x3 - x2) = dd := ⟨_, rfl⟩
              have hwd : IntKind.i64.wrap (x3 - x2) = dd := by rw [wi64]; exact hdd
              simp only [find4, if_true] at hf
              rw [hdd] at hf
              by_cases hle : x2 ≤ x3
              · rw [if_pos hle] at hf
                have hle' : ¬ x3 < x2 := by omega
                by_cases heq : x1 = dd
                · rw [if_pos heq] at hf
                  have HF := Aside0.mk hf
                  have b0 : (x1 != dd) = false := by simp [heq]
                  clear hf heq hdd
                  go_wp2_with (first | ((with_reducible refine gate_store (t := 72) (p := 2) rfl ?_); refine wpList_store_row rfl 72 (.tmp 2) (.tmp 91) rfl w.heap.size #[.int .i64 x0, .int .i64 x1, .int .i64 x2, .int .i64 x3, .int .i64 x4] rfl rfl 72 z5 L5.out.h (by kernel_rfl) rfl (ec_one _ _ _ _ _) ?_))
                  obtain ⟨f1, f2⟩ := L5.out.res #[.int .i64 x0, .int .i64 x1, .int .i64 x2, .int .i64 x3, .int .i64 x4]
                  refine bodyPost_ret (results_ct rfl _ _ w.heap.size 72 _ (0, 0) _ rfl f1 HU.out rfl (by kernel_rfl)) rfl ?_
                  rw [← HF.out]
                  exact ⟨rfl, f2⟩
                · rw [if_neg heq] at hf
                  have HF := Aside0.mk hf
                  have b0 : (x1 != dd) = true := by simp [heq]
                  clear hf heq hdd
                  go_wp2_with (first | ((with_reducible refine gate_store (t := 72) (p := 2) rfl ?_); refine wpList_store_row rfl 72 (.tmp 2) (.tmp 90) rfl w.heap.size z5 rfl rfl 72 z5 L5.out.h (by kernel_rfl) rfl z5_one ?_))
                  obtain ⟨f1, f2⟩ := L5.out.res z5
                  refine bodyPost_ret (results_ct rfl _ _ w.heap.size 72 z5 (0, 0) _ rfl f1 HU.out rfl (by kernel_rfl)) rfl ?_
                  rw [← HF.out]
                  exact ⟨rfl, f2⟩
              · rw [if_neg hle] at hf
                have HF := Aside0.mk hf
                have hlt : x3 < x2 := by omega
                clear hf hle hdd
                go_wp2_with (first | ((with_reducible refine gate_store (t := 72) (p := 2) rfl ?_); refine wpList_store_row rfl 72 (.tmp 2) (.tmp 90) rfl w.heap.size z5 rfl rfl 72 z5 L5.out.h (by kernel_rfl) rfl z5_one ?_))
                obtain ⟨f1, f2⟩ := L5.out.res z5
                refine bodyPost_ret (results_ct rfl _ _ w.heap.size 72 z5 (0, 0) _ rfl f1 HU.out rfl (by kernel_rfl)) rfl ?_
                rw [← HF.out]
                exact ⟨rfl, f2⟩
          · rw [if_pos (.inr (.inl k2))] at hf
            have c1 : (en == 65535) = false := by simp [k1]
            have c2 : (sz == 4294967295) = true := by simp [k2]
            clear k1 k2
            have FA := Aside0.mk (far_ A c l s w3 (Kd.C_below HC.out L3.out.low) hc hl (by omega))
            obtain ⟨⟨⟨x0, x1, x2, x3, x4⟩, ok⟩, hfo⟩ : ∃ q, farOf l s = q := ⟨_, rfl⟩
            rw [hfo] at hf FA
            have HF0 := Aside0.mk hf
            clear hf hfo
            go_wp2_with (first | (go_at_call 68; (with_reducible refine (Z1.out).mono ?_); rintro e w_ ⟨rfl, hw_⟩; subst hw_) | (go_at_call 68; (with_reducible refine (Z2.out).mono ?_); rintro e w_ ⟨rfl, hw_⟩; subst hw_) | (go_at_call 69; (refine (FA.out).mono ?_); rintro e w4 ⟨rfl, hb⟩; have L4 := Aside0.mk (L3.out.below hb); have L5 := Aside0.mk ((L3.out.below hb).setE (x0, x1, x2, x3, x4)); clear hb FA) | ((with_reducible refine gate_store (t := 72) (p := 6) rfl ?_); refine wpList_store_row rfl 72 (.tmp 6) (.tmp 69) rfl (w1.heap.size + 1 + 1) #[.int .i64 x0, .int .i64 x1, .int .i64 x2, .int .i64 x3, .int .i64 x4] rfl rfl 72 #[.int .i64 en, .int .i64 sz, .int .i64 off, .int .i64 s, .int .i64 s] L4.out.e (by kernel_rfl) rfl (ec_one _ _ _ _ _) ?_; refine stop_ ?_))
            unfold stop_T
            have y0 := (blk_cell L5.out.e 0).trans (rfl : _ = some (Value.int .i64 x0))
            have y1 := (blk_cell L5.out.e 1).trans (rfl : _ = some (Value.int .i64 x1))
            have y2 := (blk_cell L5.out.e 2).trans (rfl : _ = some (Value.int .i64 x2))
            have y3 := (blk_cell L5.out.e 3).trans (rfl : _ = some (Value.int .i64 x3))
            have y4 := (blk_cell L5.out.e 4).trans (rfl : _ = some (Value.int .i64 x4))
            have hf := HF0.out
            clear HF0
            cases ok with
            | false =>
              simp only [find4] at hf
              rw [if_neg (by simp)] at hf
              have HF := Aside0.mk hf
              clear hf
              go_wp2_with (first | ((with_reducible refine gate_store (t := 72) (p := 2) rfl ?_); refine wpList_store_row rfl 72 (.tmp 2) (.tmp 90) rfl w.heap.size z5 rfl rfl 72 z5 L5.out.h (by kernel_rfl) rfl z5_one ?_))
              obtain ⟨f1, f2⟩ := L5.out.res z5
              refine bodyPost_ret (results_ct rfl _ _ w.heap.size 72 z5 (0, 0) _ rfl f1 HU.out rfl (by kernel_rfl)) rfl ?_
              rw [← HF.out]
              exact ⟨rfl, f2⟩
            | true =>
              obtain ⟨dd, hdd⟩ : ∃ dd, wrap64 (x3 - x2) = dd := ⟨_, rfl⟩
              have hwd : IntKind.i64.wrap (x3 - x2) = dd := by rw [wi64]; exact hdd
              simp only [find4, if_true] at hf
              rw [hdd] at hf
              by_cases hle : x2 ≤ x3
              · rw [if_pos hle] at hf
                have hle' : ¬ x3 < x2 := by omega
                by_cases heq : x1 = dd
                · rw [if_pos heq] at hf
                  have HF := Aside0.mk hf
                  have b0 : (x1 != dd) = false := by simp [heq]
                  clear hf heq hdd
                  go_wp2_with (first | ((with_reducible refine gate_store (t := 72) (p := 2) rfl ?_); refine wpList_store_row rfl 72 (.tmp 2) (.tmp 91) rfl w.heap.size #[.int .i64 x0, .int .i64 x1, .int .i64 x2, .int .i64 x3, .int .i64 x4] rfl rfl 72 z5 L5.out.h (by kernel_rfl) rfl (ec_one _ _ _ _ _) ?_))
                  obtain ⟨f1, f2⟩ := L5.out.res #[.int .i64 x0, .int .i64 x1, .int .i64 x2, .int .i64 x3, .int .i64 x4]
                  refine bodyPost_ret (results_ct rfl _ _ w.heap.size 72 _ (0, 0) _ rfl f1 HU.out rfl (by kernel_rfl)) rfl ?_
                  rw [← HF.out]
                  exact ⟨rfl, f2⟩
                · rw [if_neg heq] at hf
                  have HF := Aside0.mk hf
                  have b0 : (x1 != dd) = true := by simp [heq]
                  clear hf heq hdd
                  go_wp2_with (first | ((with_reducible refine gate_store (t := 72) (p := 2) rfl ?_); refine wpList_store_row rfl 72 (.tmp 2) (.tmp 90) rfl w.heap.size z5 rfl rfl 72 z5 L5.out.h (by kernel_rfl) rfl z5_one ?_))
                  obtain ⟨f1, f2⟩ := L5.out.res z5
                  refine bodyPost_ret (results_ct rfl _ _ w.heap.size 72 z5 (0, 0) _ rfl f1 HU.out rfl (by kernel_rfl)) rfl ?_
                  rw [← HF.out]
                  exact ⟨rfl, f2⟩
              · rw [if_neg hle] at hf
                have HF := Aside0.mk hf
                have hlt : x3 < x2 := by omega
                clear hf hle hdd
                go_wp2_with (first | ((with_reducible refine gate_store (t := 72) (p := 2) rfl ?_); refine wpList_store_row rfl 72 (.tmp 2) (.tmp 90) rfl w.heap.size z5 rfl rfl 72 z5 L5.out.h (by kernel_rfl) rfl z5_one ?_))
                obtain ⟨f1, f2⟩ := L5.out.res z5
                refine bodyPost_ret (results_ct rfl _ _ w.heap.size 72 z5 (0, 0) _ rfl f1 HU.out rfl (by kernel_rfl)) rfl ?_
                rw [← HF.out]
                exact ⟨rfl, f2⟩
          · rw [if_pos (.inr (.inr k3))] at hf
            have c1 : (en == 65535) = false := by simp [k1]
            have c2 : (sz == 4294967295) = false := by simp [k2]
            have c3 : (off == 4294967295) = true := by simp [k3]
            clear k1 k2 k3
            have FA := Aside0.mk (far_ A c l s w3 (Kd.C_below HC.out L3.out.low) hc hl (by omega))
            obtain ⟨⟨⟨x0, x1, x2, x3, x4⟩, ok⟩, hfo⟩ : ∃ q, farOf l s = q := ⟨_, rfl⟩
            rw [hfo] at hf FA
            have HF0 := Aside0.mk hf
            clear hf hfo
            go_wp2_with (first | (go_at_call 68; (with_reducible refine (Z1.out).mono ?_); rintro e w_ ⟨rfl, hw_⟩; subst hw_) | (go_at_call 68; (with_reducible refine (Z2.out).mono ?_); rintro e w_ ⟨rfl, hw_⟩; subst hw_) | (go_at_call 69; (refine (FA.out).mono ?_); rintro e w4 ⟨rfl, hb⟩; have L4 := Aside0.mk (L3.out.below hb); have L5 := Aside0.mk ((L3.out.below hb).setE (x0, x1, x2, x3, x4)); clear hb FA) | ((with_reducible refine gate_store (t := 72) (p := 6) rfl ?_); refine wpList_store_row rfl 72 (.tmp 6) (.tmp 69) rfl (w1.heap.size + 1 + 1) #[.int .i64 x0, .int .i64 x1, .int .i64 x2, .int .i64 x3, .int .i64 x4] rfl rfl 72 #[.int .i64 en, .int .i64 sz, .int .i64 off, .int .i64 s, .int .i64 s] L4.out.e (by kernel_rfl) rfl (ec_one _ _ _ _ _) ?_; refine stop_ ?_))
            unfold stop_T
            have y0 := (blk_cell L5.out.e 0).trans (rfl : _ = some (Value.int .i64 x0))
            have y1 := (blk_cell L5.out.e 1).trans (rfl : _ = some (Value.int .i64 x1))
            have y2 := (blk_cell L5.out.e 2).trans (rfl : _ = some (Value.int .i64 x2))
            have y3 := (blk_cell L5.out.e 3).trans (rfl : _ = some (Value.int .i64 x3))
            have y4 := (blk_cell L5.out.e 4).trans (rfl : _ = some (Value.int .i64 x4))
            have hf := HF0.out
            clear HF0
            cases ok with
            | false =>
              simp only [find4] at hf
              rw [if_neg (by simp)] at hf
              have HF := Aside0.mk hf
              clear hf
              go_wp2_with (first | ((with_reducible refine gate_store (t := 72) (p := 2) rfl ?_); refine wpList_store_row rfl 72 (.tmp 2) (.tmp 90) rfl w.heap.size z5 rfl rfl 72 z5 L5.out.h (by kernel_rfl) rfl z5_one ?_))
              obtain ⟨f1, f2⟩ := L5.out.res z5
              refine bodyPost_ret (results_ct rfl _ _ w.heap.size 72 z5 (0, 0) _ rfl f1 HU.out rfl (by kernel_rfl)) rfl ?_
              rw [← HF.out]
              exact ⟨rfl, f2⟩
            | true =>
              obtain ⟨dd, hdd⟩ : ∃ dd, wrap64 (x3 - x2) = dd := ⟨_, rfl⟩
              have hwd : IntKind.i64.wrap (x3 - x2) = dd := by rw [wi64]; exact hdd
              simp only [find4, if_true] at hf
              rw [hdd] at hf
              by_cases hle : x2 ≤ x3
              · rw [if_pos hle] at hf
                have hle' : ¬ x3 < x2 := by omega
                by_cases heq : x1 = dd
                · rw [if_pos heq] at hf
                  have HF := Aside0.mk hf
                  have b0 : (x1 != dd) = false := by simp [heq]
                  clear hf heq hdd
                  go_wp2_with (first | ((with_reducible refine gate_store (t := 72) (p := 2) rfl ?_); refine wpList_store_row rfl 72 (.tmp 2) (.tmp 91) rfl w.heap.size #[.int .i64 x0, .int .i64 x1, .int .i64 x2, .int .i64 x3, .int .i64 x4] rfl rfl 72 z5 L5.out.h (by kernel_rfl) rfl (ec_one _ _ _ _ _) ?_))
                  obtain ⟨f1, f2⟩ := L5.out.res #[.int .i64 x0, .int .i64 x1, .int .i64 x2, .int .i64 x3, .int .i64 x4]
                  refine bodyPost_ret (results_ct rfl _ _ w.heap.size 72 _ (0, 0) _ rfl f1 HU.out rfl (by kernel_rfl)) rfl ?_
                  rw [← HF.out]
                  exact ⟨rfl, f2⟩
                · rw [if_neg heq] at hf
                  have HF := Aside0.mk hf
                  have b0 : (x1 != dd) = true := by simp [heq]
                  clear hf heq hdd
                  go_wp2_with (first | ((with_reducible refine gate_store (t := 72) (p := 2) rfl ?_); refine wpList_store_row rfl 72 (.tmp 2) (.tmp 90) rfl w.heap.size z5 rfl rfl 72 z5 L5.out.h (by kernel_rfl) rfl z5_one ?_))
                  obtain ⟨f1, f2⟩ := L5.out.res z5
                  refine bodyPost_ret (results_ct rfl _ _ w.heap.size 72 z5 (0, 0) _ rfl f1 HU.out rfl (by kernel_rfl)) rfl ?_
                  rw [← HF.out]
                  exact ⟨rfl, f2⟩
              · rw [if_neg hle] at hf
                have HF := Aside0.mk hf
                have hlt : x3 < x2 := by omega
                clear hf hle hdd
                go_wp2_with (first | ((with_reducible refine gate_store (t := 72) (p := 2) rfl ?_); refine wpList_store_row rfl 72 (.tmp 2) (.tmp 90) rfl w.heap.size z5 rfl rfl 72 z5 L5.out.h (by kernel_rfl) rfl z5_one ?_))
                obtain ⟨f1, f2⟩ := L5.out.res z5
                refine bodyPost_ret (results_ct rfl _ _ w.heap.size 72 z5 (0, 0) _ rfl f1 HU.out rfl (by kernel_rfl)) rfl ?_
                rw [← HF.out]
                exact ⟨rfl, f2⟩
          · rw [if_neg (by omega)] at hf
            have c1 : (en == 65535) = false := by simp [k1]
            have c2 : (sz == 4294967295) = false := by simp [k2]
            have c3 : (off == 4294967295) = false := by simp [k3]
            clear k1 k2 k3
            obtain ⟨dd, hdd⟩ : ∃ dd, wrap64 (s - off) = dd := ⟨_, rfl⟩
            have hwd : IntKind.i64.wrap (s - off) = dd := by rw [wi64]; exact hdd
            simp only [find4, if_true] at hf
            rw [hdd] at hf
            by_cases hle : off ≤ s
            · rw [if_pos hle] at hf
              have hle' : ¬ s < off := by omega
              by_cases heq : sz = dd
              · rw [if_pos heq] at hf
                have HF := Aside0.mk hf
                have b0 : (sz != dd) = false := by simp [heq]
                clear hf heq hdd
                go_wp2_with (first | (go_at_call 68; (with_reducible refine (Z1.out).mono ?_); rintro e w_ ⟨rfl, hw_⟩; subst hw_) | (go_at_call 68; (with_reducible refine (Z2.out).mono ?_); rintro e w_ ⟨rfl, hw_⟩; subst hw_) | ((with_reducible refine gate_store (t := 72) (p := 2) rfl ?_); refine wpList_store_row rfl 72 (.tmp 2) (.tmp 91) rfl w.heap.size #[.int .i64 en, .int .i64 sz, .int .i64 off, .int .i64 s, .int .i64 s] rfl rfl 72 z5 L3.out.h (by kernel_rfl) rfl (ec_one _ _ _ _ _) ?_))
                obtain ⟨f1, f2⟩ := L3.out.res #[.int .i64 en, .int .i64 sz, .int .i64 off, .int .i64 s, .int .i64 s]
                refine bodyPost_ret (results_ct rfl _ _ w.heap.size 72 _ (0, 0) _ rfl f1 HU.out rfl (by kernel_rfl)) rfl ?_
                rw [← HF.out]
                exact ⟨rfl, f2⟩
              · rw [if_neg heq] at hf
                have HF := Aside0.mk hf
                have b0 : (sz != dd) = true := by simp [heq]
                clear hf heq hdd
                go_wp2_with (first | (go_at_call 68; (with_reducible refine (Z1.out).mono ?_); rintro e w_ ⟨rfl, hw_⟩; subst hw_) | (go_at_call 68; (with_reducible refine (Z2.out).mono ?_); rintro e w_ ⟨rfl, hw_⟩; subst hw_) | ((with_reducible refine gate_store (t := 72) (p := 2) rfl ?_); refine wpList_store_row rfl 72 (.tmp 2) (.tmp 90) rfl w.heap.size z5 rfl rfl 72 z5 L3.out.h (by kernel_rfl) rfl z5_one ?_))
                obtain ⟨f1, f2⟩ := L3.out.res z5
                refine bodyPost_ret (results_ct rfl _ _ w.heap.size 72 z5 (0, 0) _ rfl f1 HU.out rfl (by kernel_rfl)) rfl ?_
                rw [← HF.out]
                exact ⟨rfl, f2⟩
            · rw [if_neg hle] at hf
              have HF := Aside0.mk hf
              have hlt : s < off := by omega
              clear hf hle hdd
              go_wp2_with (first | (go_at_call 68; (with_reducible refine (Z1.out).mono ?_); rintro e w_ ⟨rfl, hw_⟩; subst hw_) | (go_at_call 68; (with_reducible refine (Z2.out).mono ?_); rintro e w_ ⟨rfl, hw_⟩; subst hw_) | ((with_reducible refine gate_store (t := 72) (p := 2) rfl ?_); refine wpList_store_row rfl 72 (.tmp 2) (.tmp 90) rfl w.heap.size z5 rfl rfl 72 z5 L3.out.h (by kernel_rfl) rfl z5_one ?_))
              obtain ⟨f1, f2⟩ := L3.out.res z5
              refine bodyPost_ret (results_ct rfl _ _ w.heap.size 72 z5 (0, 0) _ rfl f1 HU.out rfl (by kernel_rfl)) rfl ?_
              rw [← HF.out]
              exact ⟨rfl, f2⟩
        · rw [if_neg h3] at hf
          have HF := Aside0.mk hf
          have b3 : (d3 == en) = false := by simp [h3]
          clear hf h3
          go_wp2_with (first | (go_at_call 68; (with_reducible refine (Z1.out).mono ?_); rintro e w_ ⟨rfl, hw_⟩; subst hw_) | (go_at_call 68; (with_reducible refine (Z2.out).mono ?_); rintro e w_ ⟨rfl, hw_⟩; subst hw_) | ((with_reducible refine gate_store (t := 72) (p := 2) rfl ?_); refine wpList_store_row rfl 72 (.tmp 2) (.tmp 90) rfl w.heap.size z5 rfl rfl 72 z5 L3.out.h (by kernel_rfl) rfl z5_one ?_))
          obtain ⟨f1, f2⟩ := L3.out.res z5
          refine bodyPost_ret (results_ct rfl _ _ w.heap.size 72 z5 (0, 0) _ rfl f1 HU.out rfl (by kernel_rfl)) rfl ?_
          rw [← HF.out]
          exact ⟨rfl, f2⟩
def zipdir_Find.f (l : List Int) : Option (Int × Int × Int × Int × Int × Int) := if l.length ≤ 1000000 then some ((findOf l).1.1, (findOf l).1.2.1, (findOf l).1.2.2.1, (findOf l).1.2.2.2.1, (findOf l).1.2.2.2.2, (findOf l).2) else none
theorem zipdir_Find.calls (A : Option Addr) (c : Nat) (l : List Int) (r1 r2 r3 r4 r5 r6 : Int) (w : World) (hC : Kd.C (Kd.int .u8) w A l.length l) (hc : l.length ≤ c) (h : zipdir_Find.f l = some (r1, r2, r3, r4, r5, r6)) :
    Calls Try.prog 43 #[.slice A l.length c] w fun e w' => e = .returned (.tuple #[.agg #[.int .i64 r1, .int .i64 r2, .int .i64 r3, .int .i64 r4, .int .i64 r5], .int .i64 r6]) ∧ Below w.heap.size w w' := by
  unfold zipdir_Find.f at h
  split at h
  · rename_i hl
    injection h with h
    simp only [Prod.mk.injEq] at h
    obtain ⟨rfl, rfl, rfl, rfl, rfl, rfl⟩ := h
    exact find_ A c l w hC hc hl
  · cases h
end Go.Proofs.Ytfnicahlnpngkaa.ZipFind

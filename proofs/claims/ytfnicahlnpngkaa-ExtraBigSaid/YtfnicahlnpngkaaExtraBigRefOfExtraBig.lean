/- stevedoreref27.Big, walked by hand: it comes to what extra.Big comes to. ExtraBig: the printed namespace. -/
import Derived.Test.YtfnicahlnpngkaaExtraBigOfExtraBig
import Derived.Test.YtfnicahlnpngkaaExtraRefOfExtraBig
set_option linter.unusedVariables false
set_option linter.unusedSimpArgs false
namespace Go.Proofs.Ytfnicahlnpngkaa.ExtraBigRefOfExtraBig
open Go.RowKit Go.Proofs.YtfnicahlnpngkaaW.PrintWords Go.Proofs.YtfnicahlnpngkaaW.PrintLast Go.Proofs.YtfnicahlnpngkaaW.PrintMore Go.Proofs.Ytfnicahlnpngkaa.Base Go.Proofs.Ytfnicahlnpngkaa.NumRead Go.Proofs.Ytfnicahlnpngkaa.ExtraNum Go.Proofs.Ytfnicahlnpngkaa.PExtraBig Go.Proofs.Ytfnicahlnpngkaa.ExtraBigOfExtraBig

def stevedoreref27_Big.f (l0 : List S38) (l1 : List Bool) : Option (List Int × Int) := extra_Big.f l0 l1

theorem num8_calls (A : Option Addr) (c n : Nat) (l : List Int) (at_ : Int) (w : World) (hr : Kd.C (Kd.int .u8) w A n l) (hn : n = l.length) (hc : n ≤ c) (hl : n ≤ 1000000000) (ha : 0 ≤ at_ ∧ at_ ≤ 2000000000) :
    Calls Try.prog 36 #[.slice A n c, .int .i64 at_, .int .i64 8, .bool false] w fun e w' => e = .returned (.tuple #[.int .u64 (rdNum l at_ 8 (fun i => 8 - 1 - i)).1, .int .i64 (rdNum l at_ 8 (fun i => 8 - 1 - i)).2]) ∧ Below w.heap.size w w' := by
  subst hn
  refine (Num1.stevedoreref1_Number.calls A c l at_ 8 false _ _ w hr hc (by unfold Num1.stevedoreref1_Number.f; rw [if_pos ⟨by omega, by omega, by omega⟩])).mono ?_
  rintro e w' ⟨rfl, hd⟩
  exact ⟨rfl, hd.below⟩
theorem in_range (s : ByteArray) (at_ : Int) (h0 : 0 ≤ at_) (h1 : at_ + 8 ≤ s.size) : (rdNum (bytesOf s) at_ 8 (fun i => 8 - 1 - i)).2 = 0 := by
  unfold rdNum
  rw [if_neg (by omega), if_neg (by rw [bytesOf_length]; omega)]
theorem big_none {s : ByteArray} {at_ : Int} (h : exNum (bytesOf s) at_ 8 = none) (h0 : 0 ≤ at_) (h1 : at_ + 8 ≤ s.size) : 4611686018427387904 < (rdNum (bytesOf s) at_ 8 (fun i => 8 - 1 - i)).1 := by
  have hr := in_range s at_ h0 h1
  unfold exNum at h
  split at h
  · cases h
  · rename_i hh
    have : ¬ (rdNum (bytesOf s) at_ 8 (fun i => 8 - 1 - i)).1 ≤ 4611686018427387904 := fun hc => hh ⟨hr, hc⟩
    omega
theorem big_some {s : ByteArray} {at_ v : Int} (h : exNum (bytesOf s) at_ 8 = some v) : rdNum (bytesOf s) at_ 8 (fun i => 8 - 1 - i) = (v, 0) ∧ 0 ≤ v ∧ v ≤ 4611686018427387904 := by
  unfold exNum at h
  split at h
  · rename_i hh
    injection h with h
    have := (rdNum_range (bytesOf s) at_ 8 (fun i => 8 - 1 - i)).1
    exact ⟨Prod.ext h hh.1, by omega, by omega⟩
  · cases h

/-- memory at the rounds' heads: the row that is made. -/
def InvC (w wr : World) (m : Nat) (xs : List Int) : Prop :=
  wr.ownsRow w.heap.size 3 1 (.slice (some ⟨w.heap.size, 0, none⟩) m m) m (nums .i64 xs) ∧ Below w.heap.size w wr ∧ w.heap.size + 1 ≤ wr.heap.size
theorem InvC.below {w wr w1 : World} {m : Nat} {xs : List Int} (h : InvC w wr m xs) (hb : Below wr.heap.size wr w1) : InvC w w1 m xs := by
  obtain ⟨h3, h4, h5⟩ := h
  exact ⟨pw_own_below h3 hb, below_then h4 h4.size hb, Nat.le_trans h5 hb.size⟩
theorem InvC.store {w wr : World} {m : Nat} {xs : List Int} (h : InvC w wr m xs) (i x : Int) : InvC w (wr.setCell ⟨w.heap.size, i.toNat, none⟩ (.int .i64 x)) m (xs.set i.toNat x) := by
  obtain ⟨h3, h4, h5⟩ := h
  exact ⟨(own_store h3 i x).1, h4.setCell (Nat.le_refl _) _, by simp [World.setCell]; omega⟩
theorem invC0 (w : World) (m : Nat) (hm : m ≤ 100000000) : InvC w (w.alloc (.cells (madeCells #[.int .i64 0] m) 3)) m (List.replicate m 0) := by
  have ho := own_made w w.heap.size 3 .i64 m (by omega) (by omega)
  exact ⟨ho, (Below.refl _ _).alloc (by omega) _, by simp⟩

set_option maxHeartbeats 8000000 in
set_option maxRecDepth 100000 in
theorem stevedoreref27_Big.calls (A0 : Option Addr) (c0 : Nat) (l0 : List S38) (A1 : Option Addr) (c1 : Nat) (l1 : List Bool) (r1 : List Int) (r2 : Int) (w : World) (hr0 : Kd.C k38 w A0 l0.length l0) (hc0 : l0.length ≤ c0) (hr1 : Kd.C Kd.bool w A1 l1.length l1) (hc1 : l1.length ≤ c1) (h : stevedoreref27_Big.f l0 l1 = some (r1, r2)) :
    Calls Try.prog 23 #[.slice A0 l0.length c0, .slice A1 l1.length c1] w fun e w' => ∃ v0_ : Value, e = .returned (.tuple #[v0_, .int .i64 r2]) ∧ Kd.R (Kd.int .i64) 3 w' w.heap.size (fun _ => True) v0_ r1 ∧ Below w.heap.size w w' := by
  unfold stevedoreref27_Big.f extra_Big.f at h
  by_cases hl : l0.length ≤ 100000000 ∧ l1.length ≤ 100000000
  · rw [if_pos hl, Option.some.injEq] at h
    have HF := Aside0.mk h
    have HR0 := Aside0.mk hr0
    have HR1 := Aside0.mk hr1
    obtain ⟨hl0, hl1⟩ := hl
    have hmk := print_make (P := Try.prog) 35 3 .i64 8 Try.underlying35 inf3 (by omega) l1.length (by omega)
    have hcr := cnt_range l1
    clear h hr0 hr1 hc0 hc1
    go_enter Try.func23, Try.ntmps23
    go_wp2
    have HI0 := Aside0.mk (invC0 w l1.length hl1)
    generalize w.alloc (.cells (madeCells #[.int .i64 0] l1.length) 3) = W0 at HI0 ⊢
    clear hmk
    go_loopg [7, 8] (l1.length + 1) (fun kq v7 v8 wr => ∃ (j k : Int), v8 = .int .i64 j ∧ v7 = .int .i64 k ∧ Aside0 (0 ≤ j ∧ j ≤ (l1.length : Int) ∧ (l1.length : Int) - j < kq) ∧ Aside0 (0 ≤ k ∧ k ≤ j ∧ k + cnt (l1.drop j.toNat) = cnt l1) ∧ wr = W0)
    case atStart => exact ⟨0, 0, rfl, rfl, ⟨by omega, by omega, by omega⟩, ⟨by omega, by omega, by simp⟩, rfl⟩
    case round =>
      obtain ⟨j, k, rfl, rfl, HJ, HK, rfl⟩ := hrel
      have hj := HJ.out
      have hk := HK.out
      have hj0 : 0 ≤ j := hj.1
      by_cases hlt : j < (l1.length : Int)
      · obtain ⟨ad, hA, hx⟩ := Kd.at_bool HR1.out j hj0 hlt
        cases hA
        have hx' := (HI0.out.2.1.cell (World.block_lt_of_cell? w _ hx)).trans hx
        have hd := drop_bool l1 j.toNat (by omega)
        rw [show ((j.toNat : Nat) : Int) = j by omega] at hd
        obtain ⟨kq, rfl⟩ : ∃ kq, gk = kq + 1 := ⟨gk - 1, by omega⟩
        have p1 := eq_true hj0
        have q1 := eq_true hlt
        cases hb : rdOf false l1 j with
        | true =>
          rw [hb] at hx' hd
          have hcnt : cnt (l1.drop j.toNat) = 1 + cnt (l1.drop (j.toNat + 1)) := by rw [hd]; rfl
          have hk0 : 0 ≤ k := hk.1
          have hk1 : k ≤ 100000000 := by omega
          have hj1 : j ≤ 100000000 := by omega
          have HD := Aside0.mk hcnt
          clear hd hb hx hcnt hlt hcr hj hk
          go_wp2
          go_roundg kq
          case measure => omega
          case rel => exact ⟨j + 1, k + 1, rfl, rfl, ⟨by omega, by have := HJ.out; have := of_eq_true q1; omega, by have := HJ.out; omega⟩, ⟨by omega, by have := HK.out; omega, by have := HK.out; rw [show (j + 1).toNat = j.toNat + 1 by omega]; have := HD.out; omega⟩, rfl⟩
        | false =>
          rw [hb] at hx' hd
          have hcnt : cnt (l1.drop j.toNat) = cnt (l1.drop (j.toNat + 1)) := by rw [hd]; rfl
          have hk0 : 0 ≤ k := hk.1
          have hk1 : k ≤ 100000000 := by omega
          have hj1 : j ≤ 100000000 := by omega
          have HD := Aside0.mk hcnt
          clear hd hb hx hcnt hlt hcr hj hk
          go_wp2
          go_roundg kq
          case measure => omega
          case rel => exact ⟨j + 1, k, rfl, rfl, ⟨by omega, by have := HJ.out; have := of_eq_true q1; omega, by have := HJ.out; omega⟩, ⟨by omega, by have := HK.out; omega, by have := HK.out; rw [show (j + 1).toNat = j.toNat + 1 by omega]; have := HD.out; omega⟩, rfl⟩
      · have hkc : k = cnt l1 := by
          have := hk.2.2
          rw [List.drop_of_length_le (by omega)] at this
          simp only [cnt] at this
          omega
        subst hkc
        have b0 : decide (j < (l1.length : Int)) = false := decide_eq_false hlt
        clear hlt hj hk hj0 HJ HK
        by_cases hz : cnt l1 = 0
        · have hz0 : (cnt l1 == 0) = true := beq_iff_eq.mpr hz
          have hf := HF.out
          rw [if_pos hz] at hf
          obtain ⟨rfl, rfl⟩ := Prod.mk.inj hf
          clear hz hf HF
          go_wp2
          refine bodyPost_ret (v := .tuple #[.slice (some ⟨w.heap.size, 0, none⟩) l1.length l1.length, .int .i64 0]) (by simp [results, Try.results23, go_sem]) rfl ⟨_, rfl, Kd.R_of_own (by rw [List.length_replicate]; exact HI0.out.1) (fun _ _ => trivial), HI0.out.2.1⟩
        · have hz0 : (cnt l1 == 0) = false := beq_eq_false_iff_ne.mpr hz
          have hf := HF.out
          rw [if_neg hz] at hf
          have HFF := Aside0.mk hf
          clear hz hf HF
          go_wp2
          go_loopg [9] (l0.length + 1) (fun kq v9 wr => ∃ (i : Int), v9 = .int .i64 i ∧ Aside0 (0 ≤ i ∧ i ≤ (l0.length : Int) ∧ (l0.length : Int) - i < kq) ∧ Aside0 (bigRes l1 (l0.drop i.toNat) = (r1, r2)) ∧ Aside0 (InvC w wr l1.length (List.replicate l1.length 0)))
          case atStart => exact ⟨0, rfl, ⟨by omega, by omega, by omega⟩, HFF, HI0⟩
          case round =>
            clear HI0
            obtain ⟨i, rfl, HJ, HP, HI⟩ := hrel
            have hj := HJ.out
            have hi0 : 0 ≤ i := hj.1
            obtain ⟨kq, rfl⟩ : ∃ kq, gk = kq + 1 := ⟨gk - 1, by omega⟩
            by_cases hlt : i < (l0.length : Int)
            · have hp := HP.out
              rw [drop_rd l0 i.toNat (by omega), bigRes, show ((i.toNat : Nat) : Int) = i by omega] at hp
              obtain ⟨ad, hA, hx0, hx1⟩ := at_T38 HR0.out i hi0 hlt
              cases hA
              have HX1 := Aside0.mk hx1
              replace hx0 := (HI.out.2.1.cell (World.block_lt_of_cell? w _ hx0)).trans hx0
              replace hx1 := (HI.out.2.1.cell (World.block_lt_of_cell? w _ hx1)).trans hx1
              have p1 := eq_true hi0
              have q1 := eq_true hlt
              have hi8 : i ≤ 100000000 := by omega
              obtain ⟨d, hd⟩ : ∃ d, (rd_T38 l0 i).f1 = d := ⟨_, rfl⟩
              rw [hd] at hx1 hp HX1
              clear hlt hi0 hj hd
              by_cases h1 : (rd_T38 l0 i).f0 = 1
              · rw [if_pos h1] at hp
                have e0 : ((rd_T38 l0 i).f0 == 1) = true := beq_iff_eq.mpr h1
                have e1 : ((rd_T38 l0 i).f0 != 1) = false := bne_eq_false_iff_eq.mpr h1
                clear h1
                by_cases h2 : (d.size : Int) = 8 * cnt l1
                · rw [if_pos h2] at hp
                  have e2 : ((d.size : Int) == 8 * cnt l1) = true := beq_iff_eq.mpr h2
                  have e3 : ((d.size : Int) != 8 * cnt l1) = false := bne_eq_false_iff_eq.mpr h2
                  have hds : d.size ≤ 800000000 := by omega
                  have HPP := Aside0.mk hp
                  have HDS := Aside0.mk h2
                  clear h2 hp HP
                  have kb := run_bytes d
                  go_wp2
                  obtain ⟨RS, hRS⟩ : ∃ RS, bigGo d l1 0 0 (List.replicate l1.length 0) = RS := ⟨_, rfl⟩
                  rw [hRS] at HPP
                  have HRS := Aside0.mk hRS
                  clear hRS hx0 hx1
                  go_loopg [10, 11] (l1.length + 1) (fun kq v10 v11 wr => ∃ (at_ j : Int) (xs : List Int), v10 = .int .i64 at_ ∧ v11 = .int .i64 j ∧ Aside0 (0 ≤ j ∧ j ≤ (l1.length : Int) ∧ (l1.length : Int) - j < kq) ∧ Aside0 (0 ≤ at_ ∧ at_ ≤ 8 * j ∧ at_ + 8 * cnt (l1.drop j.toNat) = 8 * cnt l1) ∧ Aside0 (bigGo d (l1.drop j.toNat) at_ j.toNat xs = RS) ∧ Aside0 (InvC w wr l1.length xs))
                  case atStart => exact ⟨0, 0, _, rfl, rfl, ⟨by omega, by omega, by omega⟩, ⟨by omega, by omega, by simp⟩, ⟨by simpa using HRS.out⟩, HI⟩
                  case round =>
                    clear HI
                    obtain ⟨at_, j, xs, rfl, rfl, HJ3, HAT, HGO, HI⟩ := hrel
                    have hj := HJ3.out
                    have hat := HAT.out
                    have hj0 : 0 ≤ j := hj.1
                    have hat0 : 0 ≤ at_ := hat.1
                    have hat1 : at_ ≤ 800000000 := by omega
                    have hx1 := (HI.out.2.1.cell (World.block_lt_of_cell? w _ HX1.out)).trans HX1.out
                    by_cases hlt : j < (l1.length : Int)
                    · obtain ⟨ad1, hA1, hxw⟩ := Kd.at_bool HR1.out j hj0 hlt
                      cases hA1
                      have hxw' := (HI.out.2.1.cell (World.block_lt_of_cell? w _ hxw)).trans hxw
                      have hdw := drop_bool l1 j.toNat (by omega)
                      rw [show ((j.toNat : Nat) : Int) = j by omega] at hdw
                      obtain ⟨kq, rfl⟩ : ∃ kq, gk = kq + 1 := ⟨gk - 1, by omega⟩
                      have p2 := eq_true hj0
                      have q2 := eq_true hlt
                      have hj8 : j ≤ 100000000 := by omega
                      have hgo := HGO.out
                      rw [hdw] at hgo
                      have hc2 := hat.2.2
                      rw [hdw] at hc2
                      clear hdw hxw hj hat HGO
                      cases hb : rdOf false l1 j with
                      | false =>
                        rw [hb] at hxw' hgo hc2
                        rw [bigGo] at hgo
                        have HGO := Aside0.mk hgo
                        have HLT := Aside0.mk hlt
                        have HC2 := Aside0.mk hc2
                        clear hb hgo hlt hc2
                        go_wp2
                        go_roundg kq
                        case measure => omega
                        case rel => exact ⟨at_, j + 1, xs, rfl, rfl, ⟨by omega, by have := HLT.out; omega, by have := HJ3.out; omega⟩, ⟨hat0, by have := HAT.out; omega, by rw [show (j + 1).toNat = j.toNat + 1 by omega]; exact HC2.out⟩, ⟨by rw [show (j + 1).toNat = j.toNat + 1 by omega]; exact HGO.out⟩, HI⟩
                      | true =>
                        rw [hb] at hxw' hgo hc2
                        rw [bigGo] at hgo
                        have hc3 : at_ + (8 + 8 * cnt (l1.drop (j.toNat + 1))) = 8 * cnt l1 := by simp only [cnt] at hc2; omega
                        have hcn := (cnt_range (l1.drop (j.toNat + 1))).1
                        have hin : at_ + 8 ≤ d.size := by have := HDS.out; omega
                        have hbb : Below wr.heap.size wr (Lib.bytesWorld wr 5 d) := bytes_below (Below.refl _ _) (Nat.le_refl _) 5 d
                        obtain ⟨ob, hob, hIB⟩ := bytes_block wr d (by omega)
                        have HC4 := Aside0.mk (hIB _ _ hob)
                        have hcap := cap_bytes wr d
                        have HIW := Aside0.mk (HI.out.below hbb)
                        have HLD := Aside0.mk (bytesOf_length d).symm
                        have HC3 := Aside0.mk hc3
                        have HN := Aside0.mk (num8_calls (some ⟨wr.heap.size, 0, none⟩) (grownCap wr d.size 0 5) d.size (bytesOf d) at_ (Lib.bytesWorld wr 5 d) HC4.out HLD.out hcap (by omega) ⟨by omega, by omega⟩)
                        cases hx : exNum (bytesOf d) at_ 8 with
                        | none =>
                          rw [hx] at hgo
                          have hgt := big_none hx hat0 hin
                          rw [← hgo] at HPP
                          obtain ⟨rfl, rfl⟩ := Prod.mk.inj HPP.out
                          generalize (rdNum (bytesOf d) at_ 8 (fun i => 8 - 1 - i)).1 = x1 at HN hgt
                          generalize (rdNum (bytesOf d) at_ 8 (fun i => 8 - 1 - i)).2 = x2 at HN
                          have g1 : decide (4611686018427387904 < x1) = true := decide_eq_true hgt
                          clear hb hgo hx hbb hob hIB hcap hgt hin hcn hc3 hc2 hlt
                          go_wp2_with (go_at_call 36; (with_reducible refine (HN.out).mono ?_); rintro e w5 ⟨rfl, hb5⟩)
                          refine bodyPost_ret (v := .tuple #[.slice none 0 0, .int .i64 2]) (by simp [results, Try.results23, go_sem]) rfl ⟨_, rfl, Kd.R_nil _ _ _ _ _, (HIW.out.below hb5).2.1⟩
                        | some v =>
                          rw [hx] at hgo
                          have hv := big_some hx
                          rw [hv.1] at HN
                          have HGO := Aside0.mk hgo
                          have HLT := Aside0.mk hlt
                          have hv0 := hv.2.1
                          have hv1 := hv.2.2
                          have g1 : decide (4611686018427387904 < v) = false := decide_eq_false (by omega)
                          clear hb hgo hx hbb hob hIB hcap hin hcn hc3 hc2 hv hlt
                          go_wp2_with (go_at_call 36; (with_reducible refine (HN.out).mono ?_); rintro e w5 ⟨rfl, hb5⟩; have HI5 := Aside0.mk (HIW.out.below hb5); obtain ⟨hcS, hfS⟩ := own_at HI5.out.1 j hj0 HLT.out)
                          go_roundg kq
                          case measure => omega
                          case rel => exact ⟨at_ + 8, j + 1, xs.set j.toNat v, rfl, rfl, ⟨by omega, by have := HLT.out; omega, by have := HJ3.out; omega⟩, ⟨by omega, by have := HAT.out; omega, by have := HC3.out; rw [show (j + 1).toNat = j.toNat + 1 by omega]; omega⟩, ⟨by rw [show (j + 1).toNat = j.toNat + 1 by omega]; exact HGO.out⟩, ⟨HI5.out.store j v⟩⟩
                    · have hgo := HGO.out
                      rw [List.drop_of_length_le (by omega), bigGo] at hgo
                      rw [← hgo] at HPP
                      have HXL := Aside0.mk (bigGo_length d l1 0 0 _ _ (HRS.out.trans hgo.symm))
                      obtain ⟨rfl, rfl⟩ := Prod.mk.inj HPP.out
                      have b0' : decide (j < (l1.length : Int)) = false := decide_eq_false hlt
                      have hxl : xs.length = l1.length := by have := HXL.out; rw [this]; simp
                      clear hlt hj hgo HGO HPP HFF HRS
                      go_wp2
                      refine bodyPost_ret (v := .tuple #[.slice (some ⟨w.heap.size, 0, none⟩) l1.length l1.length, .int .i64 0]) (by simp [results, Try.results23, go_sem]) rfl ⟨_, rfl, Kd.R_of_own (by rw [hxl]; exact HI.out.1) (fun _ _ => trivial), HI.out.2.1⟩
                · rw [if_neg h2] at hp
                  obtain ⟨rfl, rfl⟩ := Prod.mk.inj hp
                  have e2 : ((d.size : Int) == 8 * cnt l1) = false := beq_eq_false_iff_ne.mpr h2
                  have e3 : ((d.size : Int) != 8 * cnt l1) = true := bne_iff_ne.mpr h2
                  clear h2 hp HP HFF
                  go_wp2
                  refine bodyPost_ret (v := .tuple #[.slice none 0 0, .int .i64 2]) (by simp [results, Try.results23, go_sem]) rfl ⟨_, rfl, Kd.R_nil _ _ _ _ _, HI.out.2.1⟩
              · rw [if_neg h1] at hp
                have e0 : ((rd_T38 l0 i).f0 == 1) = false := beq_eq_false_iff_ne.mpr h1
                have e1 : ((rd_T38 l0 i).f0 != 1) = true := bne_iff_ne.mpr h1
                have HPP := Aside0.mk hp
                clear h1 hp HP
                go_wp2
                go_roundg kq
                case measure => omega
                case rel => exact ⟨i + 1, by rw [wrap64_id (n := i + 1) (by have := HJ.out; omega) (by have := HJ.out; omega)], ⟨by have := HJ.out; omega, by have := HJ.out; have := of_eq_true q1; omega, by have := HJ.out; omega⟩, ⟨by have := HJ.out; rw [show (i + 1).toNat = i.toNat + 1 by omega]; exact HPP.out⟩, HI⟩
            · have hp := HP.out
              rw [List.drop_of_length_le (by omega), bigRes] at hp
              obtain ⟨rfl, rfl⟩ := Prod.mk.inj hp
              have b0' : decide (i < (l0.length : Int)) = false := decide_eq_false hlt
              clear hlt hj hi0 hp HP HFF
              go_wp2
              refine bodyPost_ret (v := .tuple #[.slice none 0 0, .int .i64 2]) (by simp [results, Try.results23, go_sem]) rfl ⟨_, rfl, Kd.R_nil _ _ _ _ _, HI.out.2.1⟩
  · rw [if_neg hl] at h; cases h
end Go.Proofs.Ytfnicahlnpngkaa.ExtraBigRefOfExtraBig

/- ExtraBig, walked by hand: what it reaches, one after the other. -/
import Derived.Test.YtfnicahlnpngkaaPExtraBigx
import Derived.Test.YtfnicahlnpngkaaBase
set_option linter.unusedVariables false
set_option linter.unusedSimpArgs false
namespace Go.Proofs.Ytfnicahlnpngkaa.WalkBig
open Go.RowKit Go.Proofs.YtfnicahlnpngkaaW.PrintWords Go.Proofs.YtfnicahlnpngkaaW.PrintLast Go.Proofs.YtfnicahlnpngkaaW.PrintMore Go.Proofs.Ytfnicahlnpngkaa.Base Go.Proofs.Ytfnicahlnpngkaa.NumRead Go.Proofs.Ytfnicahlnpngkaa.ExtraNum Go.Proofs.Ytfnicahlnpngkaa.Num1 Go.Proofs.Ytfnicahlnpngkaa.PExtraBig Go.Proofs.Ytfnicahlnpngkaa.ExtraBigOfExtraBig Go.Proofs.Ytfnicahlnpngkaa.ExtraBigRefOfExtraBig
attribute [local go_sem] max2_int min2_int max_two min_two max_three min_three max_four min_four
attribute [local go_sem high] eqA38

theorem inf38 : (Try.prog.info? 38).map (fun i => (i.zero, i.size, i.bytes)) = some (some (.agg #[.int .i64 0, .string ⟨#[]⟩]), 2, 24) := by kernel_rfl
set_option maxHeartbeats 8000000 in
set_option maxRecDepth 100000 in
theorem no (k : Nat) (A0 : Option Addr) (c0 : Nat) (l0 : List S38) (A1 : Option Addr) (c1 : Nat) (l1 : List Bool) (A2 : Option Addr) (c2 : Nat) (l2 : List Int) (b : Bool) (w : World) (hr0 : Kd.C k38 w A0 l0.length l0) (hc0 : l0.length ≤ c0)
    (hf : stevedorelaw27_Few.f k l0 = some b) (ht : stevedorelaw27_told.f k = some true) (hno : b = false ∨ 5 < (l1.length : Int) ∨ 5 < (l2.length : Int)) :
    Calls Try.prog 4 #[.slice A0 l0.length c0, .slice A1 l1.length c1, .slice A2 l2.length c2] w fun e w' => e = .returned (.bool true) ∧ Below w.heap.size w w' := by
  have HF := Aside0.mk hf
  have HT := Aside0.mk ht
  have HR0 := Aside0.mk hr0
  have HC0 := Aside0.mk hc0
  clear hf ht hr0 hc0
  cases b with
  | false =>
    clear hno
    go_enter Try.func4, Try.ntmps4
    go_wp2_with (first | (go_at_call 18; (with_reducible refine (stevedorelaw27_Few.calls k A0 c0 l0 false w HR0.out HC0.out HF.out).mono ?_); rintro e w1 ⟨rfl, hb1⟩) | (go_at_call 19; (with_reducible refine (stevedorelaw27_told.calls k true _ HT.out).mono ?_); rintro e w2 ⟨rfl, hb2⟩))
    refine bodyPost_ret (v := .bool true) (by simp [results, Try.results4, go_sem]) rfl ⟨rfl, below_then hb1.below hb1.below.size hb2⟩
  | true =>
    have h : 5 < (l1.length : Int) ∨ 5 < (l2.length : Int) := by simpa using hno
    clear hno
    by_cases h1 : 5 < (l1.length : Int)
    · have g1 : decide (5 < (l1.length : Int)) = true := decide_eq_true h1
      clear h h1
      go_enter Try.func4, Try.ntmps4
      go_wp2_with (first | (go_at_call 18; (with_reducible refine (stevedorelaw27_Few.calls k A0 c0 l0 true w HR0.out HC0.out HF.out).mono ?_); rintro e w1 ⟨rfl, hb1⟩) | (go_at_call 19; (with_reducible refine (stevedorelaw27_told.calls k true _ HT.out).mono ?_); rintro e w2 ⟨rfl, hb2⟩))
      refine bodyPost_ret (v := .bool true) (by simp [results, Try.results4, go_sem]) rfl ⟨rfl, below_then hb1.below hb1.below.size hb2⟩
    · have g1 : decide (5 < (l1.length : Int)) = false := decide_eq_false h1
      have g2 : decide (5 < (l2.length : Int)) = true := decide_eq_true (by omega)
      clear h h1
      go_enter Try.func4, Try.ntmps4
      go_wp2_with (first | (go_at_call 18; (with_reducible refine (stevedorelaw27_Few.calls k A0 c0 l0 true w HR0.out HC0.out HF.out).mono ?_); rintro e w1 ⟨rfl, hb1⟩) | (go_at_call 19; (with_reducible refine (stevedorelaw27_told.calls k true _ HT.out).mono ?_); rintro e w2 ⟨rfl, hb2⟩))
      refine bodyPost_ret (v := .bool true) (by simp [results, Try.results4, go_sem]) rfl ⟨rfl, below_then hb1.below hb1.below.size hb2⟩

set_option maxHeartbeats 8000000 in
set_option maxRecDepth 100000 in
theorem yes (k : Nat) (A0 : Option Addr) (c0 : Nat) (l0 : List S38) (A1 : Option Addr) (c1 : Nat) (l1 : List Bool) (A2 : Option Addr) (c2 : Nat) (l2 : List Int) (s : ByteArray) (w : World) (hr0 : Kd.C k38 w A0 l0.length l0) (hc0 : l0.length ≤ c0)
    (hr1 : Kd.C Kd.bool w A1 l1.length l1) (hc1 : l1.length ≤ c1) (hr2 : Kd.C (Kd.int .i64) w A2 l2.length l2) (hc2 : l2.length ≤ c2)
    (hf : stevedorelaw27_Few.f k l0 = some true) (ht : stevedorelaw27_told.f k = some true) (h1 : ¬ 5 < (l1.length : Int)) (h2 : ¬ 5 < (l2.length : Int)) (hl : l0.length ≤ 10)
    (hp : extra_PutBig.f k l2 = some (1, s)) (hq : stevedoreref27_PutBig.f k l2 = some (1, s)) :
    Calls Try.prog 4 #[.slice A0 l0.length c0, .slice A1 l1.length c1, .slice A2 l2.length c2] w fun e w' => e = .returned (.bool true) ∧ Below w.heap.size w w' := by
  have HF := Aside0.mk hf
  have HT := Aside0.mk ht
  have HR0 := Aside0.mk hr0
  have HC0 := Aside0.mk hc0
  have HR1 := Aside0.mk hr1
  have HC1 := Aside0.mk hc1
  have HR2 := Aside0.mk hr2
  have HC2 := Aside0.mk hc2
  have HP := Aside0.mk hp
  have HQ := Aside0.mk hq
  have HL := Aside0.mk hl
  have g1 : decide (5 < (l1.length : Int)) = false := decide_eq_false h1
  have g2 : decide (5 < (l2.length : Int)) = false := decide_eq_false h2
  have HL1 := Aside0.mk h1
  have HL2 := Aside0.mk h2
  clear hf ht hr0 hc0 hr1 hc1 hr2 hc2 hp hq h1 h2 hl
  go_enter Try.func4, Try.ntmps4
  go_wp2_with (first
    | (go_at_call 18; (with_reducible refine (stevedorelaw27_Few.calls k A0 c0 l0 true w HR0.out HC0.out HF.out).mono ?_); rintro e w1 ⟨rfl, hb1⟩; have HB1 := Aside0.mk hb1.below; clear hb1)
    | ((with_reducible refine gate_dst (N := 29) rfl ?_); refine Kd.R_lit k38 _ 38 ?hg (N := 29) ?hd (xs := ([] : List S38)) (inner := []) (ok := fun _ => True) (okp := fun _ => True) ?hr ?hp (fun _ hk => hk) trivial (Below.refl _ _) (Nat.le_refl _) (by simp) ?_; (case hd => rfl); (case hg => rfl); (case hr => first | (go_simp; done) | (go_simp; rfl)); (case hp => exact (Reps.none _ _)); intro v29 w2 ho2 hb2 hg_ hnew_; have HO2 := Aside0.mk (Kd.R_lower ho2 HB1.out.size); have HB2 := Aside0.mk (below_step HB1.out hb2); clear hg_ hnew_ ho2 hb2; obtain ⟨A29, c29, e29⟩ := Kd.R_slice HO2.out; subst e29)
    | ((with_reducible refine gate_builtin (b := .append) (xs := #[.tmp 29, .tmp 30]) rfl ?_); at_builtin; refine Kd.R_append_rows k38 (w0 := w) w.heap.size rfl (.tmp 29) (.tmp 30) 33 38 (.agg #[.int .i64 0, .string ⟨#[]⟩]) 24 rfl Try.underlying33 inf38 rfl (by decide) (by omega) (.slice A29 0 c29) ([] : List S38) l0 _ _ _ (fun _ => True) (fun _ => False) rfl rfl HO2.out (Kd.C_below HR0.out HB2.out) (fun x cs hx => by rw [k38_open hx]; exact k38_mkM _ _ _ x) (fun _ h => h.elim) (fun _ _ => trivial) HB2.out HB2.out.size (by have := HL.out; simp; omega) ?_; intro v31 w3 ho3 hb3 hg_ hnew_; have HO3 := Aside0.mk ho3; have HB3 := Aside0.mk hb3; clear hg_ hnew_ ho3 hb3; obtain ⟨A31, c31, e31⟩ := Kd.R_slice HO3.out; subst e31)
    | (go_at_call 20; (with_reducible refine (extra_PutBig.calls k A2 c2 l2 1 s w3 (Kd.C_below HR2.out HB3.out) HC2.out HP.out).mono ?_); rintro e w4 ⟨rfl, hb4⟩; have HO4 := Aside0.mk (Kd.R_below HO3.out hb4); have HB4 := Aside0.mk (below_step HB3.out hb4); clear hb4 HO3)
    | ((with_reducible refine gate_dst (N := 34) rfl ?_); refine Kd.R_lit k38 _ 38 ?hg (N := 34) ?hd (xs := [(⟨1, s⟩ : S38)]) (inner := [.int .i64 1, .string s]) (ok := fun _ => True) (okp := fun _ => True) ?hr ?hp (fun _ hk => hk) trivial (Below.refl _ _) (Nat.le_refl _) (by simp) ?_; (case hd => rfl); (case hg => rfl); (case hr => first | (go_simp; done) | (go_simp; rfl)); (case hp => exact (Reps.c2 (show Kd.M k38 _ _ _ (⟨1, s⟩ : S38) [.int .i64 1, .string s] from (k38_mkM _ _ _ (⟨1, s⟩ : S38) )) (Reps.none _ _))); intro v34 w5 ho5 hb5 hg_ hnew_; have HO5 := Aside0.mk (Kd.R_below HO4.out hb5); have HB5 := Aside0.mk (below_step HB4.out hb5); obtain ⟨A34, c34, e34⟩ := Kd.R_slice ho5; subst e34; have HR5 := Aside0.mk (Kd.R_reads' ho5).2.2; clear hg_ hnew_ ho5 hb5 HO4)
    | ((with_reducible refine gate_builtin (b := .append) (xs := #[.tmp 31, .tmp 34]) rfl ?_); at_builtin; refine Kd.R_append_rows k38 (w0 := w) w.heap.size rfl (.tmp 31) (.tmp 34) 33 38 (.agg #[.int .i64 0, .string ⟨#[]⟩]) 24 rfl Try.underlying33 inf38 rfl (by decide) (by omega) (.slice A31 l0.length c31) l0 [(⟨1, s⟩ : S38)] _ _ _ (fun _ => True) (fun _ => False) rfl rfl HO5.out HR5.out (fun x cs hx => by rw [k38_open hx]; exact k38_mkM _ _ _ x) (fun _ h => h.elim) (fun _ _ => trivial) HB5.out HB5.out.size (by have := HL.out; simp; omega) ?_; intro v35 w6 ho6 hb6 hg_ hnew_; have HO6 := Aside0.mk ho6; have HB6 := Aside0.mk hb6; clear hg_ hnew_ ho6 hb6; obtain ⟨A35, c35, e35⟩ := Kd.R_slice HO6.out; subst e35)
    | (go_at_call 20; (with_reducible refine (extra_PutBig.calls k A2 c2 l2 1 s w6 (Kd.C_below HR2.out HB6.out) HC2.out HP.out).mono ?_); rintro e w7 ⟨rfl, hb7⟩; have HO7 := Aside0.mk (Kd.R_below HO6.out hb7); have HB7 := Aside0.mk (below_step HB6.out hb7); clear hb7 HO6)
    | (go_at_call 21; (with_reducible refine (stevedoreref27_PutBig.calls k A2 c2 l2 1 s w7 (Kd.C_below HR2.out HB7.out) HC2.out HQ.out).mono ?_); rintro e w8 ⟨rfl, hb8⟩; have HO8 := Aside0.mk (Kd.R_below HO7.out hb8); have HB8 := Aside0.mk (below_step HB7.out hb8); clear hb8 HO7))
  have hg9 : (w8.alloc (.cells #[.slice A0 l0.length c0, .slice A35 (l0.length + 1) c35] 33)).heap[w8.heap.size]? = some (.cells #[.slice A0 l0.length c0, .slice A35 (l0.length + 1) c35] 33 (0, 0)) := heap_alloc_new _ _
  have hbA : Below w8.heap.size w8 (w8.alloc (.cells #[.slice A0 l0.length c0, .slice A35 (l0.length + 1) c35] 33)) := (Below.refl _ _).alloc (Nat.le_refl _) _
  have h8 := Kd.R_reads' HO8.out
  have hM := Kd.C_below h8.2.2 hbA
  have hml : l0.length + 1 ≤ c35 := by simpa using h8.2.1
  have hB9 := below_step HB8.out hbA
  obtain ⟨g, hg⟩ : ∃ g, w8.heap.size = g := ⟨_, rfl⟩
  rw [hg] at hg9 ⊢
  generalize w8.alloc (.cells #[.slice A0 l0.length c0, .slice A35 (l0.length + 1) c35] 33) = W9 at hg9 hM hB9 ⊢
  have HG := Aside0.mk hg9
  have HM := Aside0.mk hM
  have HB9 := Aside0.mk hB9
  clear hg9 hM hB9 hbA h8 hg HO8 HB8 HB7 HB6 HO5 HR5 HB5 HB4 HB3 HB2 HO2 HB1
  have hml := Aside0.mk hml
  go_loopg [45] 3 (fun kq v45 wr => ∃ (i : Int), v45 = .int .i64 i ∧ Aside0 (0 ≤ i ∧ i ≤ 2 ∧ 2 - i < kq) ∧ Aside0 (Below W9.heap.size W9 wr))
  case atStart => exact ⟨0, rfl, ⟨by omega, by omega, by omega⟩, ⟨Below.refl _ _⟩⟩
  case round =>
    obtain ⟨i, rfl, HJ, HI⟩ := hrel
    have hj := HJ.out
    have hi0 : 0 ≤ i := hj.1
    have HBr := Aside0.mk (below_step HB9.out HI.out)
    by_cases hlt : i < 2
    · have hX : ∃ AX cX X, W9.cell? ⟨g, i.toNat, none⟩ = some (.slice AX X.length cX) ∧ Kd.C k38 wr AX X.length X ∧ X.length ≤ cX ∧ X.length ≤ 11 := by
        have hl := HL.out
        rcases (show i = 0 ∨ i = 1 by omega) with rfl | rfl
        · exact ⟨A0, c0, l0, (blk_cell HG.out 0).trans rfl, Kd.C_below HR0.out HBr.out, HC0.out, by omega⟩
        · exact ⟨A35, c35, l0 ++ [⟨1, s⟩], (blk_cell HG.out 1).trans (by simp), by simpa using Kd.C_below HM.out HI.out, by simpa using hml.out, by simp; omega⟩
      obtain ⟨AX, cX, X, hcell, hCX, hcX, hlX⟩ := hX
      have hcell' := (HI.out.cell (World.block_lt_of_cell? W9 _ hcell)).trans hcell
      obtain ⟨⟨r1, r2⟩, hr⟩ : ∃ p, extra_Big.f X l1 = some p := by
        unfold extra_Big.f
        rw [if_pos ⟨by omega, by have := HL1.out; omega⟩]
        exact ⟨_, rfl⟩
      obtain ⟨kq, rfl⟩ : ∃ kq, gk = kq + 1 := ⟨gk - 1, by omega⟩
      have p1 := eq_true hi0
      have q1 := eq_true hlt
      have HCX := Aside0.mk hCX
      have HLX := Aside0.mk hcX
      have HF1 := Aside0.mk hr
      have HF2 : Aside0 (stevedoreref27_Big.f X l1 = some (r1, r2)) := ⟨hr⟩
      clear hcell hj hlt hr hlX hCX hcX
      go_wp2_with (first
        | (go_at_call 22; (with_reducible refine (extra_Big.calls AX cX X A1 c1 l1 r1 r2 wr HCX.out HLX.out (Kd.C_below HR1.out HBr.out) HC1.out HF1.out).mono ?_); rintro e w10 ⟨v10, rfl, ho10, hb10⟩; obtain ⟨A10, c10, e10⟩ := Kd.R_slice ho10; subst e10; have HA := Aside0.mk (Kd.R_reads' ho10).2.2; have HB10 := Aside0.mk hb10; clear ho10 hb10)
        | (go_at_call 23; (with_reducible refine (stevedoreref27_Big.calls AX cX X A1 c1 l1 r1 r2 w10 (Kd.C_below HCX.out HB10.out) HLX.out (Kd.C_below HR1.out (below_step HBr.out HB10.out)) HC1.out HF2.out).mono ?_); rintro e w11 ⟨v11, rfl, ho11, hb11⟩; obtain ⟨A11, c11, e11⟩ := Kd.R_slice ho11; subst e11; have HD := Aside0.mk (Kd.R_reads' ho11).2.2; have HE := Aside0.mk (Kd.C_below HA.out hb11); have HB11 := Aside0.mk (below_then HB10.out HB10.out.size hb11); clear ho11 hb11 HA))
      go_loopg [14] (r1.length + 1) (fun kq2 v14 wi => ∃ (j : Int), v14 = .int .i64 j ∧ Aside0 (0 ≤ j ∧ j ≤ (r1.length : Int) ∧ (r1.length : Int) - j < kq2) ∧ Aside0 (Below w11.heap.size w11 wi))
      case atStart => exact ⟨0, rfl, ⟨by omega, by omega, by omega⟩, ⟨Below.refl _ _⟩⟩
      case round =>
        obtain ⟨j, rfl, HJ2, HI2⟩ := hrel
        have hj2 := HJ2.out
        have hj0 : 0 ≤ j := hj2.1
        have hrl : (r1.length : Int) ≤ 9223372036854775807 := by have := HD.out.2.1; omega
        by_cases hlt : j < (r1.length : Int)
        · obtain ⟨ada, ha, hca⟩ := Kd.at_int (Kd.C_below HD.out HI2.out) j hj0 hlt
          cases ha
          obtain ⟨adb, hb, hcb⟩ := Kd.at_int (Kd.C_below HE.out HI2.out) j hj0 hlt
          cases hb
          obtain ⟨kq2, rfl⟩ : ∃ kq2, gk = kq2 + 1 := ⟨gk - 1, by omega⟩
          have p2 := eq_true hj0
          have q2 := eq_true hlt
          have HLT := Aside0.mk hlt
          clear hj2 hlt
          go_wp2
          go_region
          go_wp2
          go_roundg kq2
          case measure => omega
          case rel => exact ⟨j + 1, by rw [wrap64_id (n := j + 1) (by omega) (by have := of_eq_true q2; omega)], ⟨by omega, by have := HLT.out; omega, by have := HJ2.out; omega⟩, ⟨below_drew HI2.out⟩⟩
        · have b0 : decide (j < (r1.length : Int)) = false := decide_eq_false hlt
          clear hlt hj2
          go_wp2
          go_roundg kq
          case measure => omega
          case rel => exact ⟨i + 1, by rw [wrap64_id (n := i + 1) (by omega) (by have := of_eq_true q1; omega)], ⟨by omega, by have := of_eq_true q1; omega, by have := HJ.out; omega⟩, ⟨below_step HI.out (below_then HB11.out HB11.out.size HI2.out)⟩⟩
    · have b0 : decide (i < 2) = false := decide_eq_false hlt
      clear hlt hj
      go_wp2_with (go_at_call 19; (with_reducible refine (stevedorelaw27_told.calls k true _ HT.out).mono ?_); rintro e w12 ⟨rfl, hb12⟩)
      refine bodyPost_ret (v := .bool true) (by simp [results, Try.results4, go_sem]) rfl ⟨rfl, below_step HBr.out hb12⟩
end Go.Proofs.Ytfnicahlnpngkaa.WalkBig

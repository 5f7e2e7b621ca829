/- slices.symMergeCmpFunc: two sorted blocks merged, the whole. (Written by symmid.py.) -/
import Derived.Test.YtfmfikodnpnblaaDoorRankSym
set_option linter.unusedVariables false
set_option linter.unusedSectionVars false
namespace Go.Proofs.YtfmfikodnpnblaaDoor.RankMid
open Go.Shelf Go.RowKit Go.Lib Go.Sort Go.Proofs Go.Proofs.YtfmfikodnpnblaaDoor.SymMerge Go.Proofs.YtfmfikodnpnblaaDoor.RankSwap Go.Proofs.YtfmfikodnpnblaaDoor.RankSym
variable {α : Type} [Inhabited α]
set_option maxHeartbeats 64000000 in
set_option maxRecDepth 1000000 in
theorem sym_mid (e : α → Int) (cf : α → α → Int) (ix : α → Nat) (g : Nat) (cb : Array Value) (blk off cap sz : Nat) (d0 : Array α) (w0 : World) (N : Nat)
    (IH : ∀ (a m b : Nat) (d : Array α) (w : World), b - a < N → d.size = sz → SW (en e) w0 blk off d w → Pre (ltOf cf) ix d a m b → a < m → m < b → b ≤ sz →
      Calls Tryd.prog 106 #[.slice (some ⟨blk, off, none⟩) sz cap, .int .i64 a, .int .i64 m, .int .i64 b, .func (.func g) #[] cb] w (MergesTo e cf ix blk off w0 a b d))
    (a m b : Nat) (d : Array α) (w : World) (hN : b - a ≤ N)
    (eg : ∀ args w, (callFunc g args).run Tryd.prog w = .ok (.enter g args) w) (hcmp : CmpLays1 Tryd.prog g cb (en e) cf blk off sz w0) (hS : SWO (ltOf cf)) (R : Row1 (en e) w0 blk off d0) (hs : d0.size = sz) (hd : d.size = sz) (S : SW (en e) w0 blk off d w)
    (hP : Pre (ltOf cf) ix d a m b) (ham : a < m) (hmb : m < b) (hm1 : ¬ m = a + 1) (hm2 : ¬ b = m + 1) (hb : b ≤ sz) (hsz : sz < 4611686018427387904) :
    Calls Tryd.prog 106 #[.slice (some ⟨blk, off, none⟩) sz cap, .int .i64 a, .int .i64 m, .int .i64 b, .func (.func g) #[] cb] w (MergesTo e cf ix blk off w0 a b d) := by
  have HC : Aside _ := hcmp
  have S0 : Aside (SW (en e) w0 blk off d w) := S
  have HPr : Aside (Pre (ltOf cf) ix d a m b) := hP
  have HSW : Aside _ := hS
  have mixed := Tryd.insL.mixed
  obtain ⟨D, hD⟩ : ∃ D, a + D = m := ⟨m - a, by omega⟩
  obtain ⟨G, hG⟩ : ∃ G, m + G = b := ⟨b - m, by omega⟩
  have rma : IntKind.i64.wrap ((m : Int) - (a : Int)) = (D : Int) := by rw [IntKind.wrap_i64]; omega
  have rbm : IntKind.i64.wrap ((b : Int) - (m : Int)) = (G : Int) := by rw [IntKind.wrap_i64]; omega
  have hD1 : ((D : Int) == 1) = false := by rw [beq_eq_false_iff_ne]; omega
  have hD2 : ¬ (D : Int) = 1 := by omega
  have hD3 : ¬ D = 1 := by omega
  have hG1 : ((G : Int) == 1) = false := by rw [beq_eq_false_iff_ne]; omega
  have hG2 : ¬ (G : Int) = 1 := by omega
  have hG3 : ¬ G = 1 := by omega
  obtain ⟨c, hcc⟩ : ∃ c, (a + b) / 2 = c := ⟨_, rfl⟩
  have HCC : Aside ((a + b) / 2 = c) := hcc
  have hc1 : 2 * c ≤ a + b := by omega
  have hc2 : a + b ≤ 2 * c + 1 := by omega
  have hcz : ((a : Int) + (b : Int)) / 2 = (c : Int) := by omega
  have rab : IntKind.i64.wrap ((a : Int) + (b : Int)) = (a : Int) + (b : Int) := by rw [IntKind.wrap_i64]; omega
  have rn : IntKind.i64.wrap ((c : Int) + (m : Int)) = (c : Int) + (m : Int) := by rw [IntKind.wrap_i64]; omega
  obtain ⟨p, hp⟩ : ∃ p, p + 1 = c + m := ⟨c + m - 1, by omega⟩
  have rp : IntKind.i64.wrap ((c : Int) + (m : Int) - 1) = (p : Int) := by rw [IntKind.wrap_i64]; omega
  have hm3 : a + 2 ≤ m := by omega
  have hm4 : m + 2 ≤ b := by omega
  clear S hcmp hP hS hm1 hm2 hD hG hcc
  go_enter Tryd.func106, Tryd.ntmps106
  by_cases hmc : c < m
  · have hmz : (c : Int) < (m : Int) := by omega
    obtain ⟨lo, hlo⟩ : ∃ lo, lo + b = c + m := ⟨c + m - b, by omega⟩
    have rlo : IntKind.i64.wrap ((c : Int) + (m : Int) - (b : Int)) = (lo : Int) := by rw [IntKind.wrap_i64]; omega
    go_wp2
    go_loopg [20, 21] (b - a) (fun g1 vi vj wr => ∃ (i j : Nat), vi = .int .i64 i ∧ vj = .int .i64 j ∧ lo ≤ i ∧ i ≤ j ∧ j ≤ c ∧ j ≤ i + g1 ∧ Aside (Bs (fun q => !ltOf cf d[(a + b) / 2 + m - 1 - q]! d[q]!) lo c i j) ∧ Aside (SW (en e) w0 blk off d wr))
    case atStart => exact ⟨lo, c, rfl, rfl, by omega, by omega, by omega, by omega, Bs.start (by omega), S0⟩
    case round =>
      clear S0
      obtain ⟨i, j, rfl, rfl, hai, hij, hjb, hg1, HB, S1⟩ := hrel
      by_cases hlt : i < j
      · have hltz : (i : Int) < (j : Int) := by omega
        have rs : IntKind.i64.wrap ((i : Int) + (j : Int)) = (i : Int) + (j : Int) := by rw [IntKind.wrap_i64]; omega
        have rh : IntKind.i64.wrap (((i : Int) + (j : Int)) / 2 + 1) = ((i : Int) + (j : Int)) / 2 + 1 := by rw [IntKind.wrap_i64]; omega
        obtain ⟨hN, hhN⟩ : ∃ q, q = (i + j) / 2 := ⟨_, rfl⟩
        obtain ⟨P, hP1⟩ : ∃ P, P + hN = p := ⟨p - hN, by omega⟩
        have hPe : Aside ((a + b) / 2 + m - 1 - hN = P) := by have := HCC.out; show _ = _; omega
        have rP : IntKind.i64.wrap ((p : Int) - ((i : Int) + (j : Int)) / 2) = (P : Int) := by rw [IntKind.wrap_i64]; omega
        have ea : (((i : Int) + (j : Int)) / 2).toNat = hN := by omega
        have pa : (0 : Int) ≤ ((i : Int) + (j : Int)) / 2 := by omega
        have ba : ((i : Int) + (j : Int)) / 2 < (sz : Int) := by omega
        have bb : (P : Int) < (sz : Int) := by omega
        obtain ⟨x, hx⟩ : ∃ x, x = d[P]! := ⟨_, rfl⟩
        obtain ⟨y, hy⟩ : ∃ y, y = d[hN]! := ⟨_, rfl⟩
        have la : ∀ n os, (grow (wr.drewN n) os).cell? ⟨blk, off + P, none⟩ = some (.int .i64 (e x)) := by rw [hx]; exact S1.out.cl R (by omega) P (by omega)
        have lb : ∀ n os, (grow (wr.drewN n) os).cell? ⟨blk, off + (i + j) / 2, none⟩ = some (.int .i64 (e y)) := by rw [hy, ← hhN]; exact S1.out.cl R (by omega) hN (by omega)
        have hc : ∀ n os, Calls Tryd.prog g (#[.int .i64 (e x), .int .i64 (e y)] ++ cb) (grow (wr.drewN n) os) fun e' w' => e' = .returned (.int .i64 (cf x y)) ∧ ∃ q os', w' = grow ((grow (wr.drewN n) os).drewN q) os' := S1.out.cmp HC.out hd x y
        clear hP1
        cases hlv : ltOf cf x y with
        | false =>
          have hv : ¬ cf x y < 0 := of_decide_eq_false hlv
          have hdv : decide (cf x y < 0) = false := hlv
          have HB2 : Aside (Bs (fun q => !ltOf cf d[(a + b) / 2 + m - 1 - q]! d[q]!) lo c (hN + 1) j) := Bs.up HB.out (by omega) (by omega) (by show (!ltOf cf d[(a + b) / 2 + m - 1 - hN]! d[hN]!) = true; rw [hPe.out, ← hx, ← hy, hlv]; rfl)
          clear HB hlv hx hy hPe
          go_wp2_with fail
          go_quiet_grown (first | (go_at_fn g; refine Calls.grown_of (hc _ _)))
          have S2 : Aside (SW (en e) w0 blk off d (grow (wr.drewN nq) osq)) := S1.out.grown nq osq
          clear la lb hc S1
          generalize grow (wr.drewN nq) osq = w2 at S2 ⊢
          clear nq osq ea
          go_wp2
          go_roundg (j - (hN + 1))
          case measure => omega
          case rel => exact ⟨hN + 1, j, by first | rfl | go_num | (congr 1; omega), rfl, by omega, by omega, by omega, by omega, HB2, S2⟩
        | true =>
          have hv : cf x y < 0 := of_decide_eq_true hlv
          have hdv : decide (cf x y < 0) = true := hlv
          have HB2 : Aside (Bs (fun q => !ltOf cf d[(a + b) / 2 + m - 1 - q]! d[q]!) lo c i hN) := Bs.down HB.out (by omega) (by omega) (by show (!ltOf cf d[(a + b) / 2 + m - 1 - hN]! d[hN]!) = false; rw [hPe.out, ← hx, ← hy, hlv]; rfl)
          clear HB hlv hx hy hPe
          go_wp2_with fail
          go_quiet_grown (first | (go_at_fn g; refine Calls.grown_of (hc _ _)))
          have S2 : Aside (SW (en e) w0 blk off d (grow (wr.drewN nq) osq)) := S1.out.grown nq osq
          clear la lb hc S1
          generalize grow (wr.drewN nq) osq = w2 at S2 ⊢
          clear nq osq ea
          go_wp2
          go_roundg (hN - i)
          case measure => omega
          case rel => exact ⟨i, hN, rfl, by first | rfl | go_num | (congr 1; omega), by omega, by omega, by omega, by omega, HB2, S2⟩
      · have hltz : ¬ (i : Int) < (j : Int) := by omega
        obtain rfl : i = j := by omega
        obtain ⟨s, hsi⟩ : ∃ s, s = i := ⟨_, rfl⟩
        subst hsi
        obtain ⟨E, hE⟩ : ∃ E, E + s = c + m := ⟨c + m - s, by omega⟩
        have rE : IntKind.i64.wrap ((c : Int) + (m : Int) - (s : Int)) = (E : Int) := by rw [IntKind.wrap_i64]; omega
        have F : Aside (Four (ltOf cf) ix d a s m E b ∧ s + (E - m) = c) := by
          have hcc := HCC.out
          obtain ⟨f1, f2, f3⟩ := four_mid HSW.out HPr.out ham (by omega) (show lo = _ by rw [hcc]; split <;> omega) (show c = _ by rw [hcc]; split <;> omega) HB.out
          have hEe : (a + b) / 2 + m - s = E := by omega
          rw [hEe] at f1 f2
          exact ⟨f1, by omega⟩
        clear HB
        by_cases g0 : s < m
        · by_cases g1 : s < c
          · by_cases g2 : a < s
            · by_cases g3 : E < b
              · have kA : (s : Int) < (m : Int) := by omega
                have kB : (m : Int) < (E : Int) := by omega
                have kC : (a : Int) < (s : Int) := by omega
                have kB2 : (s : Int) < (c : Int) := by omega
                have kA2 : (c : Int) < (E : Int) := by omega
                have kD : (E : Int) < (b : Int) := by omega
                go_wp2_with (first | (go_at_call 123; (with_reducible refine (rotate e blk off cap sz s m E d0 d w0 _ R hs hd S1.out (by omega) (by omega) (by omega) hsz _).mono ?_); rintro e1 w1 ⟨rfl, d1, x1, x2, x3⟩; have HR : Aside _ := x1; have HP : Aside _ := x2; have S2 : Aside _ := x3; have hd1 : d1.size = sz := x2.1.trans hd; clear x1 x2 x3 S1) | (go_at_call 106; have q1 := Four.preL' F.out.1 (d1 := d1) HR.out F.out.2; have q2 := IH a s c _ _ (by omega) hd1 S2.out q1 (by omega) (by omega) (by omega); (with_reducible refine q2.mono ?_); clear q1 q2; rintro e1 w1 ⟨rfl, d2, x1, x2, x3⟩; have P2 : Aside _ := x1; have Q2 : Aside _ := x2; have S3 : Aside _ := x3; have hd2 : d2.size = sz := x1.1.trans hd1; clear x1 x2 x3 S2) | (go_at_call 106; have q1 := Four.preR' F.out.1 (d1 := d1) (d2 := d2) HR.out F.out.2 P2.out; have q2 := IH c E b _ _ (by omega) hd2 S3.out q1 (by omega) (by omega) (by omega); (with_reducible refine q2.mono ?_); clear q1 q2; rintro e1 w1 ⟨rfl, d3, x1, x2, x3⟩; have P3 : Aside _ := x1; have Q3 : Aside _ := x2; have S4 : Aside _ := x3; clear x1 x2 x3 S3))
                all_goals go_end0
                all_goals obtain ⟨z1, z2⟩ := mid_done (d1 := d1) (d2 := d2) (d3 := d3) HSW.out F.out.1 F.out.2 (by omega) HR.out HP.out P2.out Q2.out P3.out Q3.out
                all_goals exact ⟨rfl, d3, z1, z2, S4.out⟩
              · have kA : (s : Int) < (m : Int) := by omega
                have kB : (m : Int) < (E : Int) := by omega
                have kC : (a : Int) < (s : Int) := by omega
                have kB2 : (s : Int) < (c : Int) := by omega
                have kA2 : (c : Int) < (E : Int) := by omega
                have kD : ¬ ((E : Int) < (b : Int)) := by omega
                go_wp2_with (first | (go_at_call 123; (with_reducible refine (rotate e blk off cap sz s m E d0 d w0 _ R hs hd S1.out (by omega) (by omega) (by omega) hsz _).mono ?_); rintro e1 w1 ⟨rfl, d1, x1, x2, x3⟩; have HR : Aside _ := x1; have HP : Aside _ := x2; have S2 : Aside _ := x3; have hd1 : d1.size = sz := x2.1.trans hd; clear x1 x2 x3 S1) | (go_at_call 106; have q1 := Four.preL' F.out.1 (d1 := d1) HR.out F.out.2; have q2 := IH a s c _ _ (by omega) hd1 S2.out q1 (by omega) (by omega) (by omega); (with_reducible refine q2.mono ?_); clear q1 q2; rintro e1 w1 ⟨rfl, d2, x1, x2, x3⟩; have P2 : Aside _ := x1; have Q2 : Aside _ := x2; have S3 : Aside _ := x3; have hd2 : d2.size = sz := x1.1.trans hd1; clear x1 x2 x3 S2))
                all_goals go_end0
                all_goals obtain ⟨z1, z2⟩ := mid_done (d1 := d1) (d2 := d2) (d3 := d2) HSW.out F.out.1 F.out.2 (by omega) HR.out HP.out P2.out Q2.out (permIn_refl _ _ _) (Four.rightDone F.out.1 HR.out F.out.2 P2.out (Or.inr (by omega)))
                all_goals exact ⟨rfl, d2, z1, z2, S3.out⟩
            · by_cases g3 : E < b
              · have kA : (s : Int) < (m : Int) := by omega
                have kB : (m : Int) < (E : Int) := by omega
                have kC : ¬ ((a : Int) < (s : Int)) := by omega
                have kB2 : (s : Int) < (c : Int) := by omega
                have kA2 : (c : Int) < (E : Int) := by omega
                have kD : (E : Int) < (b : Int) := by omega
                go_wp2_with (first | (go_at_call 123; (with_reducible refine (rotate e blk off cap sz s m E d0 d w0 _ R hs hd S1.out (by omega) (by omega) (by omega) hsz _).mono ?_); rintro e1 w1 ⟨rfl, d1, x1, x2, x3⟩; have HR : Aside _ := x1; have HP : Aside _ := x2; have S2 : Aside _ := x3; have hd1 : d1.size = sz := x2.1.trans hd; clear x1 x2 x3 S1) | (go_at_call 106; have q1 := Four.preR' F.out.1 (d1 := d1) (d2 := d1) HR.out F.out.2 (permIn_refl _ _ _); have q2 := IH c E b _ _ (by omega) hd1 S2.out q1 (by omega) (by omega) (by omega); (with_reducible refine q2.mono ?_); clear q1 q2; rintro e1 w1 ⟨rfl, d3, x1, x2, x3⟩; have P3 : Aside _ := x1; have Q3 : Aside _ := x2; have S4 : Aside _ := x3; clear x1 x2 x3 S2))
                all_goals go_end0
                all_goals obtain ⟨z1, z2⟩ := mid_done (d1 := d1) (d2 := d1) (d3 := d3) HSW.out F.out.1 F.out.2 (by omega) HR.out HP.out (permIn_refl _ _ _) (Four.leftDone F.out.1 HR.out F.out.2 (Or.inl (by omega))) P3.out Q3.out
                all_goals exact ⟨rfl, d3, z1, z2, S4.out⟩
              · have kA : (s : Int) < (m : Int) := by omega
                have kB : (m : Int) < (E : Int) := by omega
                have kC : ¬ ((a : Int) < (s : Int)) := by omega
                have kB2 : (s : Int) < (c : Int) := by omega
                have kA2 : (c : Int) < (E : Int) := by omega
                have kD : ¬ ((E : Int) < (b : Int)) := by omega
                go_wp2_with (first | (go_at_call 123; (with_reducible refine (rotate e blk off cap sz s m E d0 d w0 _ R hs hd S1.out (by omega) (by omega) (by omega) hsz _).mono ?_); rintro e1 w1 ⟨rfl, d1, x1, x2, x3⟩; have HR : Aside _ := x1; have HP : Aside _ := x2; have S2 : Aside _ := x3; have hd1 : d1.size = sz := x2.1.trans hd; clear x1 x2 x3 S1))
                all_goals go_end0
                all_goals obtain ⟨z1, z2⟩ := mid_done (d1 := d1) (d2 := d1) (d3 := d1) HSW.out F.out.1 F.out.2 (by omega) HR.out HP.out (permIn_refl _ _ _) (Four.leftDone F.out.1 HR.out F.out.2 (Or.inl (by omega))) (permIn_refl _ _ _) (Four.rightDone F.out.1 HR.out F.out.2 (permIn_refl _ _ _) (Or.inr (by omega)))
                all_goals exact ⟨rfl, d1, z1, z2, S2.out⟩
          · by_cases g2 : a < s
            · by_cases g3 : E < b
              · have kA : (s : Int) < (m : Int) := by omega
                have kB : ¬ ((m : Int) < (E : Int)) := by omega
                have kC : (a : Int) < (s : Int) := by omega
                have kB2 : ¬ ((s : Int) < (c : Int)) := by omega
                have kA2 : (c : Int) < (E : Int) := by omega
                have kD : (E : Int) < (b : Int) := by omega
                go_wp2_with (first | (go_at_call 106; have q1 := Four.preR' F.out.1 (d1 := d) (d2 := d) (by rw [show E = m by omega]; exact Rotd.right _ _ _) F.out.2 (permIn_refl _ _ _); have q2 := IH c E b _ _ (by omega) hd S1.out q1 (by omega) (by omega) (by omega); (with_reducible refine q2.mono ?_); clear q1 q2; rintro e1 w1 ⟨rfl, d3, x1, x2, x3⟩; have P3 : Aside _ := x1; have Q3 : Aside _ := x2; have S4 : Aside _ := x3; clear x1 x2 x3 S1))
                all_goals go_end0
                all_goals obtain ⟨z1, z2⟩ := mid_done (d1 := d) (d2 := d) (d3 := d3) HSW.out F.out.1 F.out.2 (by omega) (by rw [show E = m by omega]; exact Rotd.right _ _ _) (permIn_refl _ _ _) (permIn_refl _ _ _) (Four.leftDone F.out.1 (by rw [show E = m by omega]; exact Rotd.right _ _ _) F.out.2 (Or.inr (by omega))) P3.out Q3.out
                all_goals exact ⟨rfl, d3, z1, z2, S4.out⟩
              · have kA : (s : Int) < (m : Int) := by omega
                have kB : ¬ ((m : Int) < (E : Int)) := by omega
                have kC : (a : Int) < (s : Int) := by omega
                have kB2 : ¬ ((s : Int) < (c : Int)) := by omega
                have kA2 : (c : Int) < (E : Int) := by omega
                have kD : ¬ ((E : Int) < (b : Int)) := by omega
                go_wp2
                all_goals go_end0
                all_goals obtain ⟨z1, z2⟩ := mid_done (d1 := d) (d2 := d) (d3 := d) HSW.out F.out.1 F.out.2 (by omega) (by rw [show E = m by omega]; exact Rotd.right _ _ _) (permIn_refl _ _ _) (permIn_refl _ _ _) (Four.leftDone F.out.1 (by rw [show E = m by omega]; exact Rotd.right _ _ _) F.out.2 (Or.inr (by omega))) (permIn_refl _ _ _) (Four.rightDone F.out.1 (by rw [show E = m by omega]; exact Rotd.right _ _ _) F.out.2 (permIn_refl _ _ _) (Or.inr (by omega)))
                all_goals exact ⟨rfl, d, z1, z2, S1.out⟩
            · by_cases g3 : E < b
              · have kA : (s : Int) < (m : Int) := by omega
                have kB : ¬ ((m : Int) < (E : Int)) := by omega
                have kC : ¬ ((a : Int) < (s : Int)) := by omega
                have kB2 : ¬ ((s : Int) < (c : Int)) := by omega
                have kA2 : (c : Int) < (E : Int) := by omega
                have kD : (E : Int) < (b : Int) := by omega
                go_wp2_with (first | (go_at_call 106; have q1 := Four.preR' F.out.1 (d1 := d) (d2 := d) (by rw [show E = m by omega]; exact Rotd.right _ _ _) F.out.2 (permIn_refl _ _ _); have q2 := IH c E b _ _ (by omega) hd S1.out q1 (by omega) (by omega) (by omega); (with_reducible refine q2.mono ?_); clear q1 q2; rintro e1 w1 ⟨rfl, d3, x1, x2, x3⟩; have P3 : Aside _ := x1; have Q3 : Aside _ := x2; have S4 : Aside _ := x3; clear x1 x2 x3 S1))
                all_goals go_end0
                all_goals obtain ⟨z1, z2⟩ := mid_done (d1 := d) (d2 := d) (d3 := d3) HSW.out F.out.1 F.out.2 (by omega) (by rw [show E = m by omega]; exact Rotd.right _ _ _) (permIn_refl _ _ _) (permIn_refl _ _ _) (Four.leftDone F.out.1 (by rw [show E = m by omega]; exact Rotd.right _ _ _) F.out.2 (Or.inl (by omega))) P3.out Q3.out
                all_goals exact ⟨rfl, d3, z1, z2, S4.out⟩
              · have kA : (s : Int) < (m : Int) := by omega
                have kB : ¬ ((m : Int) < (E : Int)) := by omega
                have kC : ¬ ((a : Int) < (s : Int)) := by omega
                have kB2 : ¬ ((s : Int) < (c : Int)) := by omega
                have kA2 : (c : Int) < (E : Int) := by omega
                have kD : ¬ ((E : Int) < (b : Int)) := by omega
                go_wp2
                all_goals go_end0
                all_goals obtain ⟨z1, z2⟩ := mid_done (d1 := d) (d2 := d) (d3 := d) HSW.out F.out.1 F.out.2 (by omega) (by rw [show E = m by omega]; exact Rotd.right _ _ _) (permIn_refl _ _ _) (permIn_refl _ _ _) (Four.leftDone F.out.1 (by rw [show E = m by omega]; exact Rotd.right _ _ _) F.out.2 (Or.inl (by omega))) (permIn_refl _ _ _) (Four.rightDone F.out.1 (by rw [show E = m by omega]; exact Rotd.right _ _ _) F.out.2 (permIn_refl _ _ _) (Or.inr (by omega)))
                all_goals exact ⟨rfl, d, z1, z2, S1.out⟩
        · by_cases g1 : s < c
          · by_cases g2 : a < s
            · by_cases g3 : E < b
              · have kA : ¬ ((s : Int) < (m : Int)) := by omega
                have kB : (m : Int) < (E : Int) := by omega
                have kC : (a : Int) < (s : Int) := by omega
                have kB2 : (s : Int) < (c : Int) := by omega
                have kA2 : ¬ ((c : Int) < (E : Int)) := by omega
                have kD : (E : Int) < (b : Int) := by omega
                go_wp2_with (first | (go_at_call 106; have q1 := Four.preL' F.out.1 (d1 := d) (by rw [show s = m by omega]; exact Rotd.left _ _ _) F.out.2; have q2 := IH a s c _ _ (by omega) hd S1.out q1 (by omega) (by omega) (by omega); (with_reducible refine q2.mono ?_); clear q1 q2; rintro e1 w1 ⟨rfl, d2, x1, x2, x3⟩; have P2 : Aside _ := x1; have Q2 : Aside _ := x2; have S3 : Aside _ := x3; have hd2 : d2.size = sz := x1.1.trans hd; clear x1 x2 x3 S1))
                all_goals go_end0
                all_goals obtain ⟨z1, z2⟩ := mid_done (d1 := d) (d2 := d2) (d3 := d2) HSW.out F.out.1 F.out.2 (by omega) (by rw [show s = m by omega]; exact Rotd.left _ _ _) (permIn_refl _ _ _) P2.out Q2.out (permIn_refl _ _ _) (Four.rightDone F.out.1 (by rw [show s = m by omega]; exact Rotd.left _ _ _) F.out.2 P2.out (Or.inl (by omega)))
                all_goals exact ⟨rfl, d2, z1, z2, S3.out⟩
              · have kA : ¬ ((s : Int) < (m : Int)) := by omega
                have kB : (m : Int) < (E : Int) := by omega
                have kC : (a : Int) < (s : Int) := by omega
                have kB2 : (s : Int) < (c : Int) := by omega
                have kA2 : ¬ ((c : Int) < (E : Int)) := by omega
                have kD : ¬ ((E : Int) < (b : Int)) := by omega
                go_wp2_with (first | (go_at_call 106; have q1 := Four.preL' F.out.1 (d1 := d) (by rw [show s = m by omega]; exact Rotd.left _ _ _) F.out.2; have q2 := IH a s c _ _ (by omega) hd S1.out q1 (by omega) (by omega) (by omega); (with_reducible refine q2.mono ?_); clear q1 q2; rintro e1 w1 ⟨rfl, d2, x1, x2, x3⟩; have P2 : Aside _ := x1; have Q2 : Aside _ := x2; have S3 : Aside _ := x3; have hd2 : d2.size = sz := x1.1.trans hd; clear x1 x2 x3 S1))
                all_goals go_end0
                all_goals obtain ⟨z1, z2⟩ := mid_done (d1 := d) (d2 := d2) (d3 := d2) HSW.out F.out.1 F.out.2 (by omega) (by rw [show s = m by omega]; exact Rotd.left _ _ _) (permIn_refl _ _ _) P2.out Q2.out (permIn_refl _ _ _) (Four.rightDone F.out.1 (by rw [show s = m by omega]; exact Rotd.left _ _ _) F.out.2 P2.out (Or.inl (by omega)))
                all_goals exact ⟨rfl, d2, z1, z2, S3.out⟩
            · by_cases g3 : E < b
              · have kA : ¬ ((s : Int) < (m : Int)) := by omega
                have kB : (m : Int) < (E : Int) := by omega
                have kC : ¬ ((a : Int) < (s : Int)) := by omega
                have kB2 : (s : Int) < (c : Int) := by omega
                have kA2 : ¬ ((c : Int) < (E : Int)) := by omega
                have kD : (E : Int) < (b : Int) := by omega
                go_wp2
                all_goals go_end0
                all_goals obtain ⟨z1, z2⟩ := mid_done (d1 := d) (d2 := d) (d3 := d) HSW.out F.out.1 F.out.2 (by omega) (by rw [show s = m by omega]; exact Rotd.left _ _ _) (permIn_refl _ _ _) (permIn_refl _ _ _) (Four.leftDone F.out.1 (by rw [show s = m by omega]; exact Rotd.left _ _ _) F.out.2 (Or.inl (by omega))) (permIn_refl _ _ _) (Four.rightDone F.out.1 (by rw [show s = m by omega]; exact Rotd.left _ _ _) F.out.2 (permIn_refl _ _ _) (Or.inl (by omega)))
                all_goals exact ⟨rfl, d, z1, z2, S1.out⟩
              · have kA : ¬ ((s : Int) < (m : Int)) := by omega
                have kB : (m : Int) < (E : Int) := by omega
                have kC : ¬ ((a : Int) < (s : Int)) := by omega
                have kB2 : (s : Int) < (c : Int) := by omega
                have kA2 : ¬ ((c : Int) < (E : Int)) := by omega
                have kD : ¬ ((E : Int) < (b : Int)) := by omega
                go_wp2
                all_goals go_end0
                all_goals obtain ⟨z1, z2⟩ := mid_done (d1 := d) (d2 := d) (d3 := d) HSW.out F.out.1 F.out.2 (by omega) (by rw [show s = m by omega]; exact Rotd.left _ _ _) (permIn_refl _ _ _) (permIn_refl _ _ _) (Four.leftDone F.out.1 (by rw [show s = m by omega]; exact Rotd.left _ _ _) F.out.2 (Or.inl (by omega))) (permIn_refl _ _ _) (Four.rightDone F.out.1 (by rw [show s = m by omega]; exact Rotd.left _ _ _) F.out.2 (permIn_refl _ _ _) (Or.inl (by omega)))
                all_goals exact ⟨rfl, d, z1, z2, S1.out⟩
          · by_cases g2 : a < s
            · by_cases g3 : E < b
              · have kA : ¬ ((s : Int) < (m : Int)) := by omega
                have kB : ¬ ((m : Int) < (E : Int)) := by omega
                have kC : (a : Int) < (s : Int) := by omega
                have kB2 : ¬ ((s : Int) < (c : Int)) := by omega
                have kA2 : ¬ ((c : Int) < (E : Int)) := by omega
                have kD : (E : Int) < (b : Int) := by omega
                go_wp2
                all_goals go_end0
                all_goals obtain ⟨z1, z2⟩ := mid_done (d1 := d) (d2 := d) (d3 := d) HSW.out F.out.1 F.out.2 (by omega) (by rw [show s = m by omega]; exact Rotd.left _ _ _) (permIn_refl _ _ _) (permIn_refl _ _ _) (Four.leftDone F.out.1 (by rw [show s = m by omega]; exact Rotd.left _ _ _) F.out.2 (Or.inr (by omega))) (permIn_refl _ _ _) (Four.rightDone F.out.1 (by rw [show s = m by omega]; exact Rotd.left _ _ _) F.out.2 (permIn_refl _ _ _) (Or.inl (by omega)))
                all_goals exact ⟨rfl, d, z1, z2, S1.out⟩
              · have kA : ¬ ((s : Int) < (m : Int)) := by omega
                have kB : ¬ ((m : Int) < (E : Int)) := by omega
                have kC : (a : Int) < (s : Int) := by omega
                have kB2 : ¬ ((s : Int) < (c : Int)) := by omega
                have kA2 : ¬ ((c : Int) < (E : Int)) := by omega
                have kD : ¬ ((E : Int) < (b : Int)) := by omega
                go_wp2
                all_goals go_end0
                all_goals obtain ⟨z1, z2⟩ := mid_done (d1 := d) (d2 := d) (d3 := d) HSW.out F.out.1 F.out.2 (by omega) (by rw [show s = m by omega]; exact Rotd.left _ _ _) (permIn_refl _ _ _) (permIn_refl _ _ _) (Four.leftDone F.out.1 (by rw [show s = m by omega]; exact Rotd.left _ _ _) F.out.2 (Or.inr (by omega))) (permIn_refl _ _ _) (Four.rightDone F.out.1 (by rw [show s = m by omega]; exact Rotd.left _ _ _) F.out.2 (permIn_refl _ _ _) (Or.inl (by omega)))
                all_goals exact ⟨rfl, d, z1, z2, S1.out⟩
            · by_cases g3 : E < b
              · have kA : ¬ ((s : Int) < (m : Int)) := by omega
                have kB : ¬ ((m : Int) < (E : Int)) := by omega
                have kC : ¬ ((a : Int) < (s : Int)) := by omega
                have kB2 : ¬ ((s : Int) < (c : Int)) := by omega
                have kA2 : ¬ ((c : Int) < (E : Int)) := by omega
                have kD : (E : Int) < (b : Int) := by omega
                go_wp2
                all_goals go_end0
                all_goals obtain ⟨z1, z2⟩ := mid_done (d1 := d) (d2 := d) (d3 := d) HSW.out F.out.1 F.out.2 (by omega) (by rw [show s = m by omega]; exact Rotd.left _ _ _) (permIn_refl _ _ _) (permIn_refl _ _ _) (Four.leftDone F.out.1 (by rw [show s = m by omega]; exact Rotd.left _ _ _) F.out.2 (Or.inl (by omega))) (permIn_refl _ _ _) (Four.rightDone F.out.1 (by rw [show s = m by omega]; exact Rotd.left _ _ _) F.out.2 (permIn_refl _ _ _) (Or.inl (by omega)))
                all_goals exact ⟨rfl, d, z1, z2, S1.out⟩
              · have kA : ¬ ((s : Int) < (m : Int)) := by omega
                have kB : ¬ ((m : Int) < (E : Int)) := by omega
                have kC : ¬ ((a : Int) < (s : Int)) := by omega
                have kB2 : ¬ ((s : Int) < (c : Int)) := by omega
                have kA2 : ¬ ((c : Int) < (E : Int)) := by omega
                have kD : ¬ ((E : Int) < (b : Int)) := by omega
                go_wp2
                all_goals go_end0
                all_goals obtain ⟨z1, z2⟩ := mid_done (d1 := d) (d2 := d) (d3 := d) HSW.out F.out.1 F.out.2 (by omega) (by rw [show s = m by omega]; exact Rotd.left _ _ _) (permIn_refl _ _ _) (permIn_refl _ _ _) (Four.leftDone F.out.1 (by rw [show s = m by omega]; exact Rotd.left _ _ _) F.out.2 (Or.inl (by omega))) (permIn_refl _ _ _) (Four.rightDone F.out.1 (by rw [show s = m by omega]; exact Rotd.left _ _ _) F.out.2 (permIn_refl _ _ _) (Or.inl (by omega)))
                all_goals exact ⟨rfl, d, z1, z2, S1.out⟩
  · have hmz : ¬ (c : Int) < (m : Int) := by omega
    go_wp2
    go_loopg [20, 21] (b - a) (fun g1 vi vj wr => ∃ (i j : Nat), vi = .int .i64 i ∧ vj = .int .i64 j ∧ a ≤ i ∧ i ≤ j ∧ j ≤ m ∧ j ≤ i + g1 ∧ Aside (Bs (fun q => !ltOf cf d[(a + b) / 2 + m - 1 - q]! d[q]!) a m i j) ∧ Aside (SW (en e) w0 blk off d wr))
    case atStart => exact ⟨a, m, rfl, rfl, by omega, by omega, by omega, by omega, Bs.start (by omega), S0⟩
    case round =>
      clear S0
      obtain ⟨i, j, rfl, rfl, hai, hij, hjb, hg1, HB, S1⟩ := hrel
      by_cases hlt : i < j
      · have hltz : (i : Int) < (j : Int) := by omega
        have rs : IntKind.i64.wrap ((i : Int) + (j : Int)) = (i : Int) + (j : Int) := by rw [IntKind.wrap_i64]; omega
        have rh : IntKind.i64.wrap (((i : Int) + (j : Int)) / 2 + 1) = ((i : Int) + (j : Int)) / 2 + 1 := by rw [IntKind.wrap_i64]; omega
        obtain ⟨hN, hhN⟩ : ∃ q, q = (i + j) / 2 := ⟨_, rfl⟩
        obtain ⟨P, hP1⟩ : ∃ P, P + hN = p := ⟨p - hN, by omega⟩
        have hPe : Aside ((a + b) / 2 + m - 1 - hN = P) := by have := HCC.out; show _ = _; omega
        have rP : IntKind.i64.wrap ((p : Int) - ((i : Int) + (j : Int)) / 2) = (P : Int) := by rw [IntKind.wrap_i64]; omega
        have ea : (((i : Int) + (j : Int)) / 2).toNat = hN := by omega
        have pa : (0 : Int) ≤ ((i : Int) + (j : Int)) / 2 := by omega
        have ba : ((i : Int) + (j : Int)) / 2 < (sz : Int) := by omega
        have bb : (P : Int) < (sz : Int) := by omega
        obtain ⟨x, hx⟩ : ∃ x, x = d[P]! := ⟨_, rfl⟩
        obtain ⟨y, hy⟩ : ∃ y, y = d[hN]! := ⟨_, rfl⟩
        have la : ∀ n os, (grow (wr.drewN n) os).cell? ⟨blk, off + P, none⟩ = some (.int .i64 (e x)) := by rw [hx]; exact S1.out.cl R (by omega) P (by omega)
        have lb : ∀ n os, (grow (wr.drewN n) os).cell? ⟨blk, off + (i + j) / 2, none⟩ = some (.int .i64 (e y)) := by rw [hy, ← hhN]; exact S1.out.cl R (by omega) hN (by omega)
        have hc : ∀ n os, Calls Tryd.prog g (#[.int .i64 (e x), .int .i64 (e y)] ++ cb) (grow (wr.drewN n) os) fun e' w' => e' = .returned (.int .i64 (cf x y)) ∧ ∃ q os', w' = grow ((grow (wr.drewN n) os).drewN q) os' := S1.out.cmp HC.out hd x y
        clear hP1
        cases hlv : ltOf cf x y with
        | false =>
          have hv : ¬ cf x y < 0 := of_decide_eq_false hlv
          have hdv : decide (cf x y < 0) = false := hlv
          have HB2 : Aside (Bs (fun q => !ltOf cf d[(a + b) / 2 + m - 1 - q]! d[q]!) a m (hN + 1) j) := Bs.up HB.out (by omega) (by omega) (by show (!ltOf cf d[(a + b) / 2 + m - 1 - hN]! d[hN]!) = true; rw [hPe.out, ← hx, ← hy, hlv]; rfl)
          clear HB hlv hx hy hPe
          go_wp2_with fail
          go_quiet_grown (first | (go_at_fn g; refine Calls.grown_of (hc _ _)))
          have S2 : Aside (SW (en e) w0 blk off d (grow (wr.drewN nq) osq)) := S1.out.grown nq osq
          clear la lb hc S1
          generalize grow (wr.drewN nq) osq = w2 at S2 ⊢
          clear nq osq ea
          go_wp2
          go_roundg (j - (hN + 1))
          case measure => omega
          case rel => exact ⟨hN + 1, j, by first | rfl | go_num | (congr 1; omega), rfl, by omega, by omega, by omega, by omega, HB2, S2⟩
        | true =>
          have hv : cf x y < 0 := of_decide_eq_true hlv
          have hdv : decide (cf x y < 0) = true := hlv
          have HB2 : Aside (Bs (fun q => !ltOf cf d[(a + b) / 2 + m - 1 - q]! d[q]!) a m i hN) := Bs.down HB.out (by omega) (by omega) (by show (!ltOf cf d[(a + b) / 2 + m - 1 - hN]! d[hN]!) = false; rw [hPe.out, ← hx, ← hy, hlv]; rfl)
          clear HB hlv hx hy hPe
          go_wp2_with fail
          go_quiet_grown (first | (go_at_fn g; refine Calls.grown_of (hc _ _)))
          have S2 : Aside (SW (en e) w0 blk off d (grow (wr.drewN nq) osq)) := S1.out.grown nq osq
          clear la lb hc S1
          generalize grow (wr.drewN nq) osq = w2 at S2 ⊢
          clear nq osq ea
          go_wp2
          go_roundg (hN - i)
          case measure => omega
          case rel => exact ⟨i, hN, rfl, by first | rfl | go_num | (congr 1; omega), by omega, by omega, by omega, by omega, HB2, S2⟩
      · have hltz : ¬ (i : Int) < (j : Int) := by omega
        obtain rfl : i = j := by omega
        obtain ⟨s, hsi⟩ : ∃ s, s = i := ⟨_, rfl⟩
        subst hsi
        obtain ⟨E, hE⟩ : ∃ E, E + s = c + m := ⟨c + m - s, by omega⟩
        have rE : IntKind.i64.wrap ((c : Int) + (m : Int) - (s : Int)) = (E : Int) := by rw [IntKind.wrap_i64]; omega
        have F : Aside (Four (ltOf cf) ix d a s m E b ∧ s + (E - m) = c) := by
          have hcc := HCC.out
          obtain ⟨f1, f2, f3⟩ := four_mid HSW.out HPr.out ham (by omega) (show a = _ by rw [hcc]; split <;> omega) (show m = _ by rw [hcc]; split <;> omega) HB.out
          have hEe : (a + b) / 2 + m - s = E := by omega
          rw [hEe] at f1 f2
          exact ⟨f1, by omega⟩
        clear HB
        by_cases g0 : s < m
        · by_cases g1 : s < c
          · by_cases g2 : a < s
            · by_cases g3 : E < b
              · have kA : (s : Int) < (m : Int) := by omega
                have kB : (m : Int) < (E : Int) := by omega
                have kC : (a : Int) < (s : Int) := by omega
                have kB2 : (s : Int) < (c : Int) := by omega
                have kA2 : (c : Int) < (E : Int) := by omega
                have kD : (E : Int) < (b : Int) := by omega
                go_wp2_with (first | (go_at_call 123; (with_reducible refine (rotate e blk off cap sz s m E d0 d w0 _ R hs hd S1.out (by omega) (by omega) (by omega) hsz _).mono ?_); rintro e1 w1 ⟨rfl, d1, x1, x2, x3⟩; have HR : Aside _ := x1; have HP : Aside _ := x2; have S2 : Aside _ := x3; have hd1 : d1.size = sz := x2.1.trans hd; clear x1 x2 x3 S1) | (go_at_call 106; have q1 := Four.preL' F.out.1 (d1 := d1) HR.out F.out.2; have q2 := IH a s c _ _ (by omega) hd1 S2.out q1 (by omega) (by omega) (by omega); (with_reducible refine q2.mono ?_); clear q1 q2; rintro e1 w1 ⟨rfl, d2, x1, x2, x3⟩; have P2 : Aside _ := x1; have Q2 : Aside _ := x2; have S3 : Aside _ := x3; have hd2 : d2.size = sz := x1.1.trans hd1; clear x1 x2 x3 S2) | (go_at_call 106; have q1 := Four.preR' F.out.1 (d1 := d1) (d2 := d2) HR.out F.out.2 P2.out; have q2 := IH c E b _ _ (by omega) hd2 S3.out q1 (by omega) (by omega) (by omega); (with_reducible refine q2.mono ?_); clear q1 q2; rintro e1 w1 ⟨rfl, d3, x1, x2, x3⟩; have P3 : Aside _ := x1; have Q3 : Aside _ := x2; have S4 : Aside _ := x3; clear x1 x2 x3 S3))
                all_goals go_end0
                all_goals obtain ⟨z1, z2⟩ := mid_done (d1 := d1) (d2 := d2) (d3 := d3) HSW.out F.out.1 F.out.2 (by omega) HR.out HP.out P2.out Q2.out P3.out Q3.out
                all_goals exact ⟨rfl, d3, z1, z2, S4.out⟩
              · have kA : (s : Int) < (m : Int) := by omega
                have kB : (m : Int) < (E : Int) := by omega
                have kC : (a : Int) < (s : Int) := by omega
                have kB2 : (s : Int) < (c : Int) := by omega
                have kA2 : (c : Int) < (E : Int) := by omega
                have kD : ¬ ((E : Int) < (b : Int)) := by omega
                go_wp2_with (first | (go_at_call 123; (with_reducible refine (rotate e blk off cap sz s m E d0 d w0 _ R hs hd S1.out (by omega) (by omega) (by omega) hsz _).mono ?_); rintro e1 w1 ⟨rfl, d1, x1, x2, x3⟩; have HR : Aside _ := x1; have HP : Aside _ := x2; have S2 : Aside _ := x3; have hd1 : d1.size = sz := x2.1.trans hd; clear x1 x2 x3 S1) | (go_at_call 106; have q1 := Four.preL' F.out.1 (d1 := d1) HR.out F.out.2; have q2 := IH a s c _ _ (by omega) hd1 S2.out q1 (by omega) (by omega) (by omega); (with_reducible refine q2.mono ?_); clear q1 q2; rintro e1 w1 ⟨rfl, d2, x1, x2, x3⟩; have P2 : Aside _ := x1; have Q2 : Aside _ := x2; have S3 : Aside _ := x3; have hd2 : d2.size = sz := x1.1.trans hd1; clear x1 x2 x3 S2))
                all_goals go_end0
                all_goals obtain ⟨z1, z2⟩ := mid_done (d1 := d1) (d2 := d2) (d3 := d2) HSW.out F.out.1 F.out.2 (by omega) HR.out HP.out P2.out Q2.out (permIn_refl _ _ _) (Four.rightDone F.out.1 HR.out F.out.2 P2.out (Or.inr (by omega)))
                all_goals exact ⟨rfl, d2, z1, z2, S3.out⟩
            · by_cases g3 : E < b
              · have kA : (s : Int) < (m : Int) := by omega
                have kB : (m : Int) < (E : Int) := by omega
                have kC : ¬ ((a : Int) < (s : Int)) := by omega
                have kB2 : (s : Int) < (c : Int) := by omega
                have kA2 : (c : Int) < (E : Int) := by omega
                have kD : (E : Int) < (b : Int) := by omega
                go_wp2_with (first | (go_at_call 123; (with_reducible refine (rotate e blk off cap sz s m E d0 d w0 _ R hs hd S1.out (by omega) (by omega) (by omega) hsz _).mono ?_); rintro e1 w1 ⟨rfl, d1, x1, x2, x3⟩; have HR : Aside _ := x1; have HP : Aside _ := x2; have S2 : Aside _ := x3; have hd1 : d1.size = sz := x2.1.trans hd; clear x1 x2 x3 S1) | (go_at_call 106; have q1 := Four.preR' F.out.1 (d1 := d1) (d2 := d1) HR.out F.out.2 (permIn_refl _ _ _); have q2 := IH c E b _ _ (by omega) hd1 S2.out q1 (by omega) (by omega) (by omega); (with_reducible refine q2.mono ?_); clear q1 q2; rintro e1 w1 ⟨rfl, d3, x1, x2, x3⟩; have P3 : Aside _ := x1; have Q3 : Aside _ := x2; have S4 : Aside _ := x3; clear x1 x2 x3 S2))
                all_goals go_end0
                all_goals obtain ⟨z1, z2⟩ := mid_done (d1 := d1) (d2 := d1) (d3 := d3) HSW.out F.out.1 F.out.2 (by omega) HR.out HP.out (permIn_refl _ _ _) (Four.leftDone F.out.1 HR.out F.out.2 (Or.inl (by omega))) P3.out Q3.out
                all_goals exact ⟨rfl, d3, z1, z2, S4.out⟩
              · have kA : (s : Int) < (m : Int) := by omega
                have kB : (m : Int) < (E : Int) := by omega
                have kC : ¬ ((a : Int) < (s : Int)) := by omega
                have kB2 : (s : Int) < (c : Int) := by omega
                have kA2 : (c : Int) < (E : Int) := by omega
                have kD : ¬ ((E : Int) < (b : Int)) := by omega
                go_wp2_with (first | (go_at_call 123; (with_reducible refine (rotate e blk off cap sz s m E d0 d w0 _ R hs hd S1.out (by omega) (by omega) (by omega) hsz _).mono ?_); rintro e1 w1 ⟨rfl, d1, x1, x2, x3⟩; have HR : Aside _ := x1; have HP : Aside _ := x2; have S2 : Aside _ := x3; have hd1 : d1.size = sz := x2.1.trans hd; clear x1 x2 x3 S1))
                all_goals go_end0
                all_goals obtain ⟨z1, z2⟩ := mid_done (d1 := d1) (d2 := d1) (d3 := d1) HSW.out F.out.1 F.out.2 (by omega) HR.out HP.out (permIn_refl _ _ _) (Four.leftDone F.out.1 HR.out F.out.2 (Or.inl (by omega))) (permIn_refl _ _ _) (Four.rightDone F.out.1 HR.out F.out.2 (permIn_refl _ _ _) (Or.inr (by omega)))
                all_goals exact ⟨rfl, d1, z1, z2, S2.out⟩
          · by_cases g2 : a < s
            · by_cases g3 : E < b
              · have kA : (s : Int) < (m : Int) := by omega
                have kB : ¬ ((m : Int) < (E : Int)) := by omega
                have kC : (a : Int) < (s : Int) := by omega
                have kB2 : ¬ ((s : Int) < (c : Int)) := by omega
                have kA2 : (c : Int) < (E : Int) := by omega
                have kD : (E : Int) < (b : Int) := by omega
                go_wp2_with (first | (go_at_call 106; have q1 := Four.preR' F.out.1 (d1 := d) (d2 := d) (by rw [show E = m by omega]; exact Rotd.right _ _ _) F.out.2 (permIn_refl _ _ _); have q2 := IH c E b _ _ (by omega) hd S1.out q1 (by omega) (by omega) (by omega); (with_reducible refine q2.mono ?_); clear q1 q2; rintro e1 w1 ⟨rfl, d3, x1, x2, x3⟩; have P3 : Aside _ := x1; have Q3 : Aside _ := x2; have S4 : Aside _ := x3; clear x1 x2 x3 S1))
                all_goals go_end0
                all_goals obtain ⟨z1, z2⟩ := mid_done (d1 := d) (d2 := d) (d3 := d3) HSW.out F.out.1 F.out.2 (by omega) (by rw [show E = m by omega]; exact Rotd.right _ _ _) (permIn_refl _ _ _) (permIn_refl _ _ _) (Four.leftDone F.out.1 (by rw [show E = m by omega]; exact Rotd.right _ _ _) F.out.2 (Or.inr (by omega))) P3.out Q3.out
                all_goals exact ⟨rfl, d3, z1, z2, S4.out⟩
              · have kA : (s : Int) < (m : Int) := by omega
                have kB : ¬ ((m : Int) < (E : Int)) := by omega
                have kC : (a : Int) < (s : Int) := by omega
                have kB2 : ¬ ((s : Int) < (c : Int)) := by omega
                have kA2 : (c : Int) < (E : Int) := by omega
                have kD : ¬ ((E : Int) < (b : Int)) := by omega
                go_wp2
                all_goals go_end0
                all_goals obtain ⟨z1, z2⟩ := mid_done (d1 := d) (d2 := d) (d3 := d) HSW.out F.out.1 F.out.2 (by omega) (by rw [show E = m by omega]; exact Rotd.right _ _ _) (permIn_refl _ _ _) (permIn_refl _ _ _) (Four.leftDone F.out.1 (by rw [show E = m by omega]; exact Rotd.right _ _ _) F.out.2 (Or.inr (by omega))) (permIn_refl _ _ _) (Four.rightDone F.out.1 (by rw [show E = m by omega]; exact Rotd.right _ _ _) F.out.2 (permIn_refl _ _ _) (Or.inr (by omega)))
                all_goals exact ⟨rfl, d, z1, z2, S1.out⟩
            · by_cases g3 : E < b
              · have kA : (s : Int) < (m : Int) := by omega
                have kB : ¬ ((m : Int) < (E : Int)) := by omega
                have kC : ¬ ((a : Int) < (s : Int)) := by omega
                have kB2 : ¬ ((s : Int) < (c : Int)) := by omega
                have kA2 : (c : Int) < (E : Int) := by omega
                have kD : (E : Int) < (b : Int) := by omega
                go_wp2_with (first | (go_at_call 106; have q1 := Four.preR' F.out.1 (d1 := d) (d2 := d) (by rw [show E = m by omega]; exact Rotd.right _ _ _) F.out.2 (permIn_refl _ _ _); have q2 := IH c E b _ _ (by omega) hd S1.out q1 (by omega) (by omega) (by omega); (with_reducible refine q2.mono ?_); clear q1 q2; rintro e1 w1 ⟨rfl, d3, x1, x2, x3⟩; have P3 : Aside _ := x1; have Q3 : Aside _ := x2; have S4 : Aside _ := x3; clear x1 x2 x3 S1))
                all_goals go_end0
                all_goals obtain ⟨z1, z2⟩ := mid_done (d1 := d) (d2 := d) (d3 := d3) HSW.out F.out.1 F.out.2 (by omega) (by rw [show E = m by omega]; exact Rotd.right _ _ _) (permIn_refl _ _ _) (permIn_refl _ _ _) (Four.leftDone F.out.1 (by rw [show E = m by omega]; exact Rotd.right _ _ _) F.out.2 (Or.inl (by omega))) P3.out Q3.out
                all_goals exact ⟨rfl, d3, z1, z2, S4.out⟩
              · have kA : (s : Int) < (m : Int) := by omega
                have kB : ¬ ((m : Int) < (E : Int)) := by omega
                have kC : ¬ ((a : Int) < (s : Int)) := by omega
                have kB2 : ¬ ((s : Int) < (c : Int)) := by omega
                have kA2 : (c : Int) < (E : Int) := by omega
                have kD : ¬ ((E : Int) < (b : Int)) := by omega
                go_wp2
                all_goals go_end0
                all_goals obtain ⟨z1, z2⟩ := mid_done (d1 := d) (d2 := d) (d3 := d) HSW.out F.out.1 F.out.2 (by omega) (by rw [show E = m by omega]; exact Rotd.right _ _ _) (permIn_refl _ _ _) (permIn_refl _ _ _) (Four.leftDone F.out.1 (by rw [show E = m by omega]; exact Rotd.right _ _ _) F.out.2 (Or.inl (by omega))) (permIn_refl _ _ _) (Four.rightDone F.out.1 (by rw [show E = m by omega]; exact Rotd.right _ _ _) F.out.2 (permIn_refl _ _ _) (Or.inr (by omega)))
                all_goals exact ⟨rfl, d, z1, z2, S1.out⟩
        · by_cases g1 : s < c
          · by_cases g2 : a < s
            · by_cases g3 : E < b
              · have kA : ¬ ((s : Int) < (m : Int)) := by omega
                have kB : (m : Int) < (E : Int) := by omega
                have kC : (a : Int) < (s : Int) := by omega
                have kB2 : (s : Int) < (c : Int) := by omega
                have kA2 : ¬ ((c : Int) < (E : Int)) := by omega
                have kD : (E : Int) < (b : Int) := by omega
                go_wp2_with (first | (go_at_call 106; have q1 := Four.preL' F.out.1 (d1 := d) (by rw [show s = m by omega]; exact Rotd.left _ _ _) F.out.2; have q2 := IH a s c _ _ (by omega) hd S1.out q1 (by omega) (by omega) (by omega); (with_reducible refine q2.mono ?_); clear q1 q2; rintro e1 w1 ⟨rfl, d2, x1, x2, x3⟩; have P2 : Aside _ := x1; have Q2 : Aside _ := x2; have S3 : Aside _ := x3; have hd2 : d2.size = sz := x1.1.trans hd; clear x1 x2 x3 S1))
                all_goals go_end0
                all_goals obtain ⟨z1, z2⟩ := mid_done (d1 := d) (d2 := d2) (d3 := d2) HSW.out F.out.1 F.out.2 (by omega) (by rw [show s = m by omega]; exact Rotd.left _ _ _) (permIn_refl _ _ _) P2.out Q2.out (permIn_refl _ _ _) (Four.rightDone F.out.1 (by rw [show s = m by omega]; exact Rotd.left _ _ _) F.out.2 P2.out (Or.inl (by omega)))
                all_goals exact ⟨rfl, d2, z1, z2, S3.out⟩
              · have kA : ¬ ((s : Int) < (m : Int)) := by omega
                have kB : (m : Int) < (E : Int) := by omega
                have kC : (a : Int) < (s : Int) := by omega
                have kB2 : (s : Int) < (c : Int) := by omega
                have kA2 : ¬ ((c : Int) < (E : Int)) := by omega
                have kD : ¬ ((E : Int) < (b : Int)) := by omega
                go_wp2_with (first | (go_at_call 106; have q1 := Four.preL' F.out.1 (d1 := d) (by rw [show s = m by omega]; exact Rotd.left _ _ _) F.out.2; have q2 := IH a s c _ _ (by omega) hd S1.out q1 (by omega) (by omega) (by omega); (with_reducible refine q2.mono ?_); clear q1 q2; rintro e1 w1 ⟨rfl, d2, x1, x2, x3⟩; have P2 : Aside _ := x1; have Q2 : Aside _ := x2; have S3 : Aside _ := x3; have hd2 : d2.size = sz := x1.1.trans hd; clear x1 x2 x3 S1))
                all_goals go_end0
                all_goals obtain ⟨z1, z2⟩ := mid_done (d1 := d) (d2 := d2) (d3 := d2) HSW.out F.out.1 F.out.2 (by omega) (by rw [show s = m by omega]; exact Rotd.left _ _ _) (permIn_refl _ _ _) P2.out Q2.out (permIn_refl _ _ _) (Four.rightDone F.out.1 (by rw [show s = m by omega]; exact Rotd.left _ _ _) F.out.2 P2.out (Or.inl (by omega)))
                all_goals exact ⟨rfl, d2, z1, z2, S3.out⟩
            · by_cases g3 : E < b
              · have kA : ¬ ((s : Int) < (m : Int)) := by omega
                have kB : (m : Int) < (E : Int) := by omega
                have kC : ¬ ((a : Int) < (s : Int)) := by omega
                have kB2 : (s : Int) < (c : Int) := by omega
                have kA2 : ¬ ((c : Int) < (E : Int)) := by omega
                have kD : (E : Int) < (b : Int) := by omega
                go_wp2
                all_goals go_end0
                all_goals obtain ⟨z1, z2⟩ := mid_done (d1 := d) (d2 := d) (d3 := d) HSW.out F.out.1 F.out.2 (by omega) (by rw [show s = m by omega]; exact Rotd.left _ _ _) (permIn_refl _ _ _) (permIn_refl _ _ _) (Four.leftDone F.out.1 (by rw [show s = m by omega]; exact Rotd.left _ _ _) F.out.2 (Or.inl (by omega))) (permIn_refl _ _ _) (Four.rightDone F.out.1 (by rw [show s = m by omega]; exact Rotd.left _ _ _) F.out.2 (permIn_refl _ _ _) (Or.inl (by omega)))
                all_goals exact ⟨rfl, d, z1, z2, S1.out⟩
              · have kA : ¬ ((s : Int) < (m : Int)) := by omega
                have kB : (m : Int) < (E : Int) := by omega
                have kC : ¬ ((a : Int) < (s : Int)) := by omega
                have kB2 : (s : Int) < (c : Int) := by omega
                have kA2 : ¬ ((c : Int) < (E : Int)) := by omega
                have kD : ¬ ((E : Int) < (b : Int)) := by omega
                go_wp2
                all_goals go_end0
                all_goals obtain ⟨z1, z2⟩ := mid_done (d1 := d) (d2 := d) (d3 := d) HSW.out F.out.1 F.out.2 (by omega) (by rw [show s = m by omega]; exact Rotd.left _ _ _) (permIn_refl _ _ _) (permIn_refl _ _ _) (Four.leftDone F.out.1 (by rw [show s = m by omega]; exact Rotd.left _ _ _) F.out.2 (Or.inl (by omega))) (permIn_refl _ _ _) (Four.rightDone F.out.1 (by rw [show s = m by omega]; exact Rotd.left _ _ _) F.out.2 (permIn_refl _ _ _) (Or.inl (by omega)))
                all_goals exact ⟨rfl, d, z1, z2, S1.out⟩
          · by_cases g2 : a < s
            · by_cases g3 : E < b
              · have kA : ¬ ((s : Int) < (m : Int)) := by omega
                have kB : ¬ ((m : Int) < (E : Int)) := by omega
                have kC : (a : Int) < (s : Int) := by omega
                have kB2 : ¬ ((s : Int) < (c : Int)) := by omega
                have kA2 : ¬ ((c : Int) < (E : Int)) := by omega
                have kD : (E : Int) < (b : Int) := by omega
                go_wp2
                all_goals go_end0
                all_goals obtain ⟨z1, z2⟩ := mid_done (d1 := d) (d2 := d) (d3 := d) HSW.out F.out.1 F.out.2 (by omega) (by rw [show s = m by omega]; exact Rotd.left _ _ _) (permIn_refl _ _ _) (permIn_refl _ _ _) (Four.leftDone F.out.1 (by rw [show s = m by omega]; exact Rotd.left _ _ _) F.out.2 (Or.inr (by omega))) (permIn_refl _ _ _) (Four.rightDone F.out.1 (by rw [show s = m by omega]; exact Rotd.left _ _ _) F.out.2 (permIn_refl _ _ _) (Or.inl (by omega)))
                all_goals exact ⟨rfl, d, z1, z2, S1.out⟩
              · have kA : ¬ ((s : Int) < (m : Int)) := by omega
                have kB : ¬ ((m : Int) < (E : Int)) := by omega
                have kC : (a : Int) < (s : Int) := by omega
                have kB2 : ¬ ((s : Int) < (c : Int)) := by omega
                have kA2 : ¬ ((c : Int) < (E : Int)) := by omega
                have kD : ¬ ((E : Int) < (b : Int)) := by omega
                go_wp2
                all_goals go_end0
                all_goals obtain ⟨z1, z2⟩ := mid_done (d1 := d) (d2 := d) (d3 := d) HSW.out F.out.1 F.out.2 (by omega) (by rw [show s = m by omega]; exact Rotd.left _ _ _) (permIn_refl _ _ _) (permIn_refl _ _ _) (Four.leftDone F.out.1 (by rw [show s = m by omega]; exact Rotd.left _ _ _) F.out.2 (Or.inr (by omega))) (permIn_refl _ _ _) (Four.rightDone F.out.1 (by rw [show s = m by omega]; exact Rotd.left _ _ _) F.out.2 (permIn_refl _ _ _) (Or.inl (by omega)))
                all_goals exact ⟨rfl, d, z1, z2, S1.out⟩
            · by_cases g3 : E < b
              · have kA : ¬ ((s : Int) < (m : Int)) := by omega
                have kB : ¬ ((m : Int) < (E : Int)) := by omega
                have kC : ¬ ((a : Int) < (s : Int)) := by omega
                have kB2 : ¬ ((s : Int) < (c : Int)) := by omega
                have kA2 : ¬ ((c : Int) < (E : Int)) := by omega
                have kD : (E : Int) < (b : Int) := by omega
                go_wp2
                all_goals go_end0
                all_goals obtain ⟨z1, z2⟩ := mid_done (d1 := d) (d2 := d) (d3 := d) HSW.out F.out.1 F.out.2 (by omega) (by rw [show s = m by omega]; exact Rotd.left _ _ _) (permIn_refl _ _ _) (permIn_refl _ _ _) (Four.leftDone F.out.1 (by rw [show s = m by omega]; exact Rotd.left _ _ _) F.out.2 (Or.inl (by omega))) (permIn_refl _ _ _) (Four.rightDone F.out.1 (by rw [show s = m by omega]; exact Rotd.left _ _ _) F.out.2 (permIn_refl _ _ _) (Or.inl (by omega)))
                all_goals exact ⟨rfl, d, z1, z2, S1.out⟩
              · have kA : ¬ ((s : Int) < (m : Int)) := by omega
                have kB : ¬ ((m : Int) < (E : Int)) := by omega
                have kC : ¬ ((a : Int) < (s : Int)) := by omega
                have kB2 : ¬ ((s : Int) < (c : Int)) := by omega
                have kA2 : ¬ ((c : Int) < (E : Int)) := by omega
                have kD : ¬ ((E : Int) < (b : Int)) := by omega
                go_wp2
                all_goals go_end0
                all_goals obtain ⟨z1, z2⟩ := mid_done (d1 := d) (d2 := d) (d3 := d) HSW.out F.out.1 F.out.2 (by omega) (by rw [show s = m by omega]; exact Rotd.left _ _ _) (permIn_refl _ _ _) (permIn_refl _ _ _) (Four.leftDone F.out.1 (by rw [show s = m by omega]; exact Rotd.left _ _ _) F.out.2 (Or.inl (by omega))) (permIn_refl _ _ _) (Four.rightDone F.out.1 (by rw [show s = m by omega]; exact Rotd.left _ _ _) F.out.2 (permIn_refl _ _ _) (Or.inl (by omega)))
                all_goals exact ⟨rfl, d, z1, z2, S1.out⟩
theorem symm (e : α → Int) (cf : α → α → Int) (ix : α → Nat) (g : Nat) (cb : Array Value) (blk off cap sz : Nat) (d0 : Array α) (w0 : World)
    (eg : ∀ args w, (callFunc g args).run Tryd.prog w = .ok (.enter g args) w) (hcmp : CmpLays1 Tryd.prog g cb (en e) cf blk off sz w0) (hS : SWO (ltOf cf)) (R : Row1 (en e) w0 blk off d0) (hs : d0.size = sz) (hsz : sz < 4611686018427387904) (N : Nat) :
    ∀ (a m b : Nat) (d : Array α) (w : World), b - a ≤ N → d.size = sz → SW (en e) w0 blk off d w → Pre (ltOf cf) ix d a m b → a < m → m < b → b ≤ sz →
      Calls Tryd.prog 106 #[.slice (some ⟨blk, off, none⟩) sz cap, .int .i64 a, .int .i64 m, .int .i64 b, .func (.func g) #[] cb] w (MergesTo e cf ix blk off w0 a b d) := by
  induction N with
  | zero => intro a m b d w hN _ _ _ h1 h2; omega
  | succ N ih =>
    intro a m b d w hN hd S hP h1 h2 h3
    by_cases hm : m = a + 1
    · exact sym_left e cf ix g cb blk off cap sz a m b d0 d w0 w eg hcmp hS R hs hd S hP hm h2 h3 hsz
    · by_cases hm2 : b = m + 1
      · exact sym_right e cf ix g cb blk off cap sz a m b d0 d w0 w eg hcmp hS R hs hd S hP h1 hm hm2 h3 hsz
      · exact sym_mid e cf ix g cb blk off cap sz d0 w0 (N + 1) (fun a m b d w h => ih a m b d w (by omega)) a m b d w hN eg hcmp hS R hs hd S hP h1 h2 hm hm2 h3 hsz
end Go.Proofs.YtfmfikodnpnblaaDoor.RankMid

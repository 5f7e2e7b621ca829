/- slices.symMergeCmpFunc: two sorted blocks merged. -/
import Derived.Test.YtfmfikodnpnblaaDoorRankSwap
set_option linter.unusedVariables false
set_option linter.unusedSectionVars false
namespace Go.Proofs.YtfmfikodnpnblaaDoor.RankSym
open Go.Shelf Go.RowKit Go.Lib Go.Sort Go.Proofs Go.Proofs.YtfmfikodnpnblaaDoor.SymMerge Go.Proofs.YtfmfikodnpnblaaDoor.RankSwap
variable {α : Type} [Inhabited α]
/-- what a merge comes to. -/
def MergesTo (e : α → Int) (cf : α → α → Int) (ix : α → Nat) (blk off : Nat) (w0 : World) (a b : Nat) (d : Array α) (e' : Ending) (w' : World) : Prop :=
  e' = .returned (.tuple #[]) ∧ ∃ d', PermIn a b d d' ∧ SortedIn (lx (ltOf cf) ix) a b d' ∧ SW (en e) w0 blk off d' w'
set_option maxHeartbeats 16000000 in
set_option maxRecDepth 1000000 in
theorem sym_left (e : α → Int) (cf : α → α → Int) (ix : α → Nat) (g : Nat) (cb : Array Value) (blk off cap sz a m b : Nat) (d0 d : Array α) (w0 w : World)
    (eg : ∀ args w, (callFunc g args).run Tryd.prog w = .ok (.enter g args) w) (hcmp : CmpLays1 Tryd.prog g cb (en e) cf blk off sz w0) (hS : SWO (ltOf cf)) (R : Row1 (en e) w0 blk off d0) (hs : d0.size = sz) (hd : d.size = sz) (S : SW (en e) w0 blk off d w)
    (hP : Pre (ltOf cf) ix d a m b) (hm : m = a + 1) (hmb : m < b) (hb : b ≤ sz) (hsz : sz < 4611686018427387904) :
    Calls Tryd.prog 106 #[.slice (some ⟨blk, off, none⟩) sz cap, .int .i64 a, .int .i64 m, .int .i64 b, .func (.func g) #[] cb] w (MergesTo e cf ix blk off w0 a b d) := by
  have HC : Aside _ := hcmp
  have S0 : Aside (SW (en e) w0 blk off d w) := S
  have HPr : Aside (Pre (ltOf cf) ix d a (a + 1) b) := by subst hm; exact hP
  have HSW : Aside _ := hS
  have HM : Aside (m = a + 1) := hm
  have hm1 : a + 1 ≤ m := by omega
  have hm2 : m ≤ a + 1 := by omega
  have mixed := Tryd.insL.mixed
  clear S hcmp hP hS hm
  have rma : IntKind.i64.wrap ((m : Int) - (a : Int)) = 1 := by rw [IntKind.wrap_i64]; omega
  go_enter Tryd.func106, Tryd.ntmps106
  go_wp2
  go_loopg [10, 11] (b - a) (fun g1 vi vj wr => ∃ (i j : Nat), vi = .int .i64 i ∧ vj = .int .i64 j ∧ m ≤ i ∧ i ≤ j ∧ j ≤ b ∧ j ≤ i + g1 ∧ Aside (Bs (fun k => ltOf cf d[k]! d[a]!) (a + 1) b i j) ∧ Aside (SW (en e) w0 blk off d wr))
  case atStart => exact ⟨m, b, rfl, rfl, by omega, by omega, by omega, by omega, by have hm := HM.out; subst hm; exact Bs.start (by omega), S0⟩
  case round =>
    clear S0
    obtain ⟨i, j, rfl, rfl, hai, hij, hjb, hg1, HB, S1⟩ := hrel
    by_cases hlt : i < j
    · have hltz : (i : Int) < (j : Int) := by omega
      have rs : IntKind.i64.wrap ((i : Int) + (j : Int)) = (i : Int) + (j : Int) := by rw [IntKind.wrap_i64]; omega
      have rh : IntKind.i64.wrap (((i : Int) + (j : Int)) / 2 + 1) = ((i : Int) + (j : Int)) / 2 + 1 := by rw [IntKind.wrap_i64]; omega
      obtain ⟨hN, hhN⟩ : ∃ q, q = (i + j) / 2 := ⟨_, rfl⟩
      have ea : (((i : Int) + (j : Int)) / 2).toNat = hN := by omega
      have pa : (0 : Int) ≤ ((i : Int) + (j : Int)) / 2 := by omega
      have ba : ((i : Int) + (j : Int)) / 2 < (sz : Int) := by omega
      have bb : (a : Int) < (sz : Int) := by omega
      obtain ⟨x, hx⟩ : ∃ x, x = d[hN]! := ⟨_, rfl⟩
      obtain ⟨y, hy⟩ : ∃ y, y = d[a]! := ⟨_, rfl⟩
      have la : ∀ n os, (grow (wr.drewN n) os).cell? ⟨blk, off + (i + j) / 2, none⟩ = some (.int .i64 (e x)) := by rw [hx, ← hhN]; exact S1.out.cl R (by omega) hN (by omega)
      have lb : ∀ n os, (grow (wr.drewN n) os).cell? ⟨blk, off + a, none⟩ = some (.int .i64 (e y)) := by rw [hy]; exact S1.out.cl R (by omega) a (by omega)
      have hc : ∀ n os, Calls Tryd.prog g (#[.int .i64 (e x), .int .i64 (e y)] ++ cb) (grow (wr.drewN n) os) fun e' w' => e' = .returned (.int .i64 (cf x y)) ∧ ∃ q os', w' = grow ((grow (wr.drewN n) os).drewN q) os' := S1.out.cmp HC.out hd x y
      cases hlv : ltOf cf x y with
      | true =>
        have hv : cf x y < 0 := of_decide_eq_true hlv
        have hdv : decide (cf x y < 0) = true := hlv
        have HB2 : Aside (Bs (fun k => ltOf cf d[k]! d[a]!) (a + 1) b (hN + 1) j) := Bs.up HB.out (by omega) (by omega) (by show ltOf cf d[hN]! d[a]! = true; rw [← hx, ← hy]; exact hlv)
        clear HB hlv hx hy
        go_wp2_with fail
        go_quiet_grown (first | (go_at_fn g; refine Calls.grown_of (hc _ _)))
        have S2 : Aside (SW (en e) w0 blk off d (grow (wr.drewN nq) osq)) := S1.out.grown nq osq
        clear la lb hc S1
        generalize grow (wr.drewN nq) osq = w2 at S2 ⊢
        clear nq osq ea
        go_wp2
        go_roundg (j - (hN + 1))
        case measure => omega
        case rel => exact ⟨hN + 1, j, by first | rfl | go_num | (congr 1; omega), rfl, by omega, by omega, by omega, by omega, HB2, S2⟩
      | false =>
        have hv : ¬ cf x y < 0 := of_decide_eq_false hlv
        have hdv : decide (cf x y < 0) = false := hlv
        have HB2 : Aside (Bs (fun k => ltOf cf d[k]! d[a]!) (a + 1) b i hN) := Bs.down HB.out (by omega) (by omega) (by show ltOf cf d[hN]! d[a]! = false; rw [← hx, ← hy]; exact hlv)
        clear HB hlv hx hy
        go_wp2_with fail
        go_quiet_grown (first | (go_at_fn g; refine Calls.grown_of (hc _ _)))
        have S2 : Aside (SW (en e) w0 blk off d (grow (wr.drewN nq) osq)) := S1.out.grown nq osq
        clear la lb hc S1
        generalize grow (wr.drewN nq) osq = w2 at S2 ⊢
        clear nq osq ea
        go_wp2
        go_roundg (hN - i)
        case measure => omega
        case rel => exact ⟨i, hN, rfl, by first | rfl | go_num | (congr 1; omega), by omega, by omega, by omega, by omega, HB2, S2⟩
    · have hltz : ¬ (i : Int) < (j : Int) := by omega
      obtain rfl : i = j := by omega
      have rii : IntKind.i64.wrap ((i : Int) - 1) = ((i - 1 : Nat) : Int) := by rw [IntKind.wrap_i64]; omega
      go_wp2
      go_loopg [13] (b - a) (fun g1 vk wr => ∃ (k : Nat) (dk : Array α), vk = .int .i64 k ∧ a ≤ k ∧ k + 1 ≤ i ∧ i ≤ k + 1 + g1 ∧ Aside (Rotd a (a + 1) (k + 1) d dk ∧ PermIn a b d dk) ∧ Aside (SW (en e) w0 blk off dk wr))
      case atStart => exact ⟨a, d, rfl, by omega, by omega, by omega, ⟨Rotd.right _ _ _, permIn_refl _ _ _⟩, S1⟩
      case round =>
        clear S1
        obtain ⟨k, dk, rfl, hak, hki, hgk, HX, S1⟩ := hrel
        by_cases hkl : k + 1 < i
        · have hklz : (k : Int) < ((i - 1 : Nat) : Int) := by omega
          have hsk : dk.size = sz := HX.out.1.1.trans hd
          obtain ⟨iN, hiN⟩ : ∃ q, q = k := ⟨_, rfl⟩
          obtain ⟨jN, hjN⟩ : ∃ q, q = k + 1 := ⟨_, rfl⟩
          have ea : ((k : Int)).toNat = iN := by omega
          have pa : (0 : Int) ≤ (k : Int) := by omega
          have ba : (k : Int) < (sz : Int) := by omega
          have ec : ((k : Int) + 1).toNat = jN := by omega
          have pc : (0 : Int) ≤ (k : Int) + 1 := by omega
          have bc : (k : Int) + 1 < (sz : Int) := by omega
          have rc : IntKind.i64.wrap ((k : Int) + 1) = (k : Int) + 1 := by rw [IntKind.wrap_i64]; omega
          obtain ⟨x, hx⟩ : ∃ x, x = dk[k]! := ⟨_, rfl⟩
          obtain ⟨y, hy⟩ : ∃ y, y = dk[k + 1]! := ⟨_, rfl⟩
          have S3 : Aside (SW (en e) w0 blk off (swp dk k (k + 1)) ((wr.setCell ⟨blk, off + iN, none⟩ (.int .i64 (e y))).setCell ⟨blk, off + jN, none⟩ (.int .i64 (e x))).drew) := by rw [hiN, hjN, hx, hy]; exact S1.out.swapped R k (k + 1) (by omega) (by omega)
          have ca : wr.cell? ⟨blk, off + iN, none⟩ = some (.int .i64 (e x)) := by rw [hiN, hx]; exact S1.out.c1 R (by omega) k (by omega)
          have cb' : wr.cell? ⟨blk, off + jN, none⟩ = some (.int .i64 (e y)) := by rw [hjN, hy]; exact S1.out.c1 R (by omega) (k + 1) (by omega)
          have fa : wr.frozen? ⟨blk, off + iN, none⟩ = false := by rw [hiN]; exact S1.out.f1 R (by omega) k (by omega)
          have fb : wr.frozen? ⟨blk, off + jN, none⟩ = false := by rw [hjN]; exact S1.out.f1 R (by omega) (k + 1) (by omega)
          obtain ⟨u, cc⟩ := S1.out.c2 R (by omega) k (k + 1) (by omega) (by omega) (.int .i64 (e y))
          rw [← hjN, ← hiN] at cc
          have HXn : Aside (Rotd a (a + 1) (k + 2) d (swp dk k (k + 1)) ∧ PermIn a b d (swp dk k (k + 1))) := ⟨HX.out.1.push hak (by omega), permIn_trans _ _ _ _ _ HX.out.2 (swp_permIn _ _ _ _ _ (by omega) (by omega) (by omega) (by omega) (by omega))⟩
          clear S1 hx hy hiN hjN HX
          go_wp2_with fail
          go_big_region
          clear ca cb' cc fa fb
          generalize ((wr.setCell ⟨blk, off + iN, none⟩ (.int .i64 (e y))).setCell ⟨blk, off + jN, none⟩ (.int .i64 (e x))).drew = w3 at S3 ⊢
          clear ea ec
          go_wp2
          go_roundg (i - (k + 2))
          case measure => omega
          case rel => exact ⟨k + 1, swp dk k (k + 1), by go_num, by omega, by omega, by omega, HXn, S3⟩
        · have hklz : ¬ (k : Int) < ((i - 1 : Nat) : Int) := by omega
          obtain rfl : i = k + 1 := by omega
          go_wp2
          go_end0
          obtain ⟨f, hu⟩ := four_left HSW.out HPr.out (by omega) HB.out
          exact ⟨rfl, dk, HX.out.2, done_left HSW.out f hu HX.out.1, S1.out⟩
set_option maxHeartbeats 16000000 in
set_option maxRecDepth 1000000 in
theorem sym_right (e : α → Int) (cf : α → α → Int) (ix : α → Nat) (g : Nat) (cb : Array Value) (blk off cap sz a m b : Nat) (d0 d : Array α) (w0 w : World)
    (eg : ∀ args w, (callFunc g args).run Tryd.prog w = .ok (.enter g args) w) (hcmp : CmpLays1 Tryd.prog g cb (en e) cf blk off sz w0) (hS : SWO (ltOf cf)) (R : Row1 (en e) w0 blk off d0) (hs : d0.size = sz) (hd : d.size = sz) (S : SW (en e) w0 blk off d w)
    (hP : Pre (ltOf cf) ix d a m b) (ham : a < m) (hm : ¬ m = a + 1) (hmb : b = m + 1) (hb : b ≤ sz) (hsz : sz < 4611686018427387904) :
    Calls Tryd.prog 106 #[.slice (some ⟨blk, off, none⟩) sz cap, .int .i64 a, .int .i64 m, .int .i64 b, .func (.func g) #[] cb] w (MergesTo e cf ix blk off w0 a b d) := by
  have HC : Aside _ := hcmp
  have S0 : Aside (SW (en e) w0 blk off d w) := S
  have HPr : Aside (Pre (ltOf cf) ix d a m (m + 1)) := by subst hmb; exact hP
  have HSW : Aside _ := hS
  have HM : Aside (b = m + 1) := hmb
  have hm1 : m + 1 ≤ b := by omega
  have hm2 : b ≤ m + 1 := by omega
  have mixed := Tryd.insL.mixed
  obtain ⟨D, hD⟩ : ∃ D, m - a = D := ⟨_, rfl⟩
  have rma : IntKind.i64.wrap ((m : Int) - (a : Int)) = (D : Int) := by rw [IntKind.wrap_i64]; omega
  have rbm : IntKind.i64.wrap ((b : Int) - (m : Int)) = 1 := by rw [IntKind.wrap_i64]; omega
  have hD1 : ((D : Int) == 1) = false := by rw [beq_eq_false_iff_ne]; omega
  have hD2 : ¬ (D : Int) = 1 := by omega
  have hD3 : ¬ D = 1 := by omega
  clear S hcmp hP hS hm hmb hD
  go_enter Tryd.func106, Tryd.ntmps106
  go_wp2
  go_loopg [14, 15] (m - a) (fun g1 vi vj wr => ∃ (i j : Nat), vi = .int .i64 i ∧ vj = .int .i64 j ∧ a ≤ i ∧ i ≤ j ∧ j ≤ m ∧ j ≤ i + g1 ∧ Aside (Bs (fun k => !ltOf cf d[m]! d[k]!) a m i j) ∧ Aside (SW (en e) w0 blk off d wr))
  case atStart => exact ⟨a, m, rfl, rfl, by omega, by omega, by omega, by omega, Bs.start (by omega), S0⟩
  case round =>
    clear S0
    obtain ⟨i, j, rfl, rfl, hai, hij, hjb, hg1, HB, S1⟩ := hrel
    by_cases hlt : i < j
    · have hltz : (i : Int) < (j : Int) := by omega
      have rs : IntKind.i64.wrap ((i : Int) + (j : Int)) = (i : Int) + (j : Int) := by rw [IntKind.wrap_i64]; omega
      have rh : IntKind.i64.wrap (((i : Int) + (j : Int)) / 2 + 1) = ((i : Int) + (j : Int)) / 2 + 1 := by rw [IntKind.wrap_i64]; omega
      obtain ⟨hN, hhN⟩ : ∃ q, q = (i + j) / 2 := ⟨_, rfl⟩
      have ea : (((i : Int) + (j : Int)) / 2).toNat = hN := by omega
      have pa : (0 : Int) ≤ ((i : Int) + (j : Int)) / 2 := by omega
      have ba : ((i : Int) + (j : Int)) / 2 < (sz : Int) := by omega
      have bb : (m : Int) < (sz : Int) := by omega
      obtain ⟨x, hx⟩ : ∃ x, x = d[m]! := ⟨_, rfl⟩
      obtain ⟨y, hy⟩ : ∃ y, y = d[hN]! := ⟨_, rfl⟩
      have la : ∀ n os, (grow (wr.drewN n) os).cell? ⟨blk, off + m, none⟩ = some (.int .i64 (e x)) := by rw [hx]; exact S1.out.cl R (by omega) m (by omega)
      have lb : ∀ n os, (grow (wr.drewN n) os).cell? ⟨blk, off + (i + j) / 2, none⟩ = some (.int .i64 (e y)) := by rw [hy, ← hhN]; exact S1.out.cl R (by omega) hN (by omega)
      have hc : ∀ n os, Calls Tryd.prog g (#[.int .i64 (e x), .int .i64 (e y)] ++ cb) (grow (wr.drewN n) os) fun e' w' => e' = .returned (.int .i64 (cf x y)) ∧ ∃ q os', w' = grow ((grow (wr.drewN n) os).drewN q) os' := S1.out.cmp HC.out hd x y
      cases hlv : ltOf cf x y with
      | false =>
        have hv : ¬ cf x y < 0 := of_decide_eq_false hlv
        have hdv : decide (cf x y < 0) = false := hlv
        have HB2 : Aside (Bs (fun k => !ltOf cf d[m]! d[k]!) a m (hN + 1) j) := Bs.up HB.out (by omega) (by omega) (by show (!ltOf cf d[m]! d[hN]!) = true; rw [← hx, ← hy, hlv]; rfl)
        clear HB hlv hx hy
        go_wp2_with fail
        go_quiet_grown (first | (go_at_fn g; refine Calls.grown_of (hc _ _)))
        have S2 : Aside (SW (en e) w0 blk off d (grow (wr.drewN nq) osq)) := S1.out.grown nq osq
        clear la lb hc S1
        generalize grow (wr.drewN nq) osq = w2 at S2 ⊢
        clear nq osq ea
        go_wp2
        go_roundg (j - (hN + 1))
        case measure => omega
        case rel => exact ⟨hN + 1, j, by first | rfl | go_num | (congr 1; omega), rfl, by omega, by omega, by omega, by omega, HB2, S2⟩
      | true =>
        have hv : cf x y < 0 := of_decide_eq_true hlv
        have hdv : decide (cf x y < 0) = true := hlv
        have HB2 : Aside (Bs (fun k => !ltOf cf d[m]! d[k]!) a m i hN) := Bs.down HB.out (by omega) (by omega) (by show (!ltOf cf d[m]! d[hN]!) = false; rw [← hx, ← hy, hlv]; rfl)
        clear HB hlv hx hy
        go_wp2_with fail
        go_quiet_grown (first | (go_at_fn g; refine Calls.grown_of (hc _ _)))
        have S2 : Aside (SW (en e) w0 blk off d (grow (wr.drewN nq) osq)) := S1.out.grown nq osq
        clear la lb hc S1
        generalize grow (wr.drewN nq) osq = w2 at S2 ⊢
        clear nq osq ea
        go_wp2
        go_roundg (hN - i)
        case measure => omega
        case rel => exact ⟨i, hN, rfl, by first | rfl | go_num | (congr 1; omega), by omega, by omega, by omega, by omega, HB2, S2⟩
    · have hltz : ¬ (i : Int) < (j : Int) := by omega
      obtain rfl : i = j := by omega
      go_wp2
      go_loopg [17] (m - a) (fun g1 vk wr => ∃ (k : Nat) (dk : Array α), vk = .int .i64 k ∧ i ≤ k ∧ k ≤ m ∧ k ≤ i + g1 ∧ Aside (Rotd k m (m + 1) d dk ∧ PermIn a b d dk) ∧ Aside (SW (en e) w0 blk off dk wr))
      case atStart => exact ⟨m, d, rfl, by omega, by omega, by omega, ⟨Rotd.left _ _ _, permIn_refl _ _ _⟩, S1⟩
      case round =>
        clear S1
        obtain ⟨k, dk, rfl, hik, hkm, hgk, HX, S1⟩ := hrel
        by_cases hkl : i < k
        · obtain ⟨kp, rfl⟩ : ∃ kp, k = kp + 1 := ⟨k - 1, by omega⟩
          have hklz : (i : Int) < (kp : Int) + 1 := by omega
          have hsk : dk.size = sz := HX.out.1.1.trans hd
          obtain ⟨iN, hiN⟩ : ∃ q, q = kp + 1 := ⟨_, rfl⟩
          obtain ⟨jN, hjN⟩ : ∃ q, q = kp := ⟨_, rfl⟩
          have ea : ((kp : Int) + 1).toNat = iN := by omega
          have pa : (0 : Int) ≤ (kp : Int) + 1 := by omega
          have ba : (kp : Int) + 1 < (sz : Int) := by omega
          have ec : ((kp : Int)).toNat = jN := by omega
          have pc : (0 : Int) ≤ (kp : Int) := by omega
          have bc : (kp : Int) < (sz : Int) := by omega
          have rc : IntKind.i64.wrap (kp : Int) = (kp : Int) := by rw [IntKind.wrap_i64]; omega
          obtain ⟨x, hx⟩ : ∃ x, x = dk[kp + 1]! := ⟨_, rfl⟩
          obtain ⟨y, hy⟩ : ∃ y, y = dk[kp]! := ⟨_, rfl⟩
          have S3 : Aside (SW (en e) w0 blk off (swp dk (kp + 1) kp) ((wr.setCell ⟨blk, off + iN, none⟩ (.int .i64 (e y))).setCell ⟨blk, off + jN, none⟩ (.int .i64 (e x))).drew) := by rw [hiN, hjN, hx, hy]; exact S1.out.swapped R (kp + 1) kp (by omega) (by omega)
          have ca : wr.cell? ⟨blk, off + iN, none⟩ = some (.int .i64 (e x)) := by rw [hiN, hx]; exact S1.out.c1 R (by omega) (kp + 1) (by omega)
          have cb' : wr.cell? ⟨blk, off + jN, none⟩ = some (.int .i64 (e y)) := by rw [hjN, hy]; exact S1.out.c1 R (by omega) kp (by omega)
          have fa : wr.frozen? ⟨blk, off + iN, none⟩ = false := by rw [hiN]; exact S1.out.f1 R (by omega) (kp + 1) (by omega)
          have fb : wr.frozen? ⟨blk, off + jN, none⟩ = false := by rw [hjN]; exact S1.out.f1 R (by omega) kp (by omega)
          obtain ⟨u, cc⟩ := S1.out.c2 R (by omega) (kp + 1) kp (by omega) (by omega) (.int .i64 (e y))
          rw [← hiN, ← hjN] at cc
          have HXn : Aside (Rotd kp m (m + 1) d (swp dk (kp + 1) kp) ∧ PermIn a b d (swp dk (kp + 1) kp)) := ⟨HX.out.1.pull (by omega) (by omega), permIn_trans _ _ _ _ _ HX.out.2 (swp_permIn _ _ _ _ _ (by omega) (by omega) (by omega) (by omega) (by omega))⟩
          clear S1 hx hy hiN hjN HX
          go_wp2_with fail
          go_big_region
          clear ca cb' cc fa fb
          generalize ((wr.setCell ⟨blk, off + iN, none⟩ (.int .i64 (e y))).setCell ⟨blk, off + jN, none⟩ (.int .i64 (e x))).drew = w3 at S3 ⊢
          clear ea ec
          go_wp2
          go_roundg (kp - i)
          case measure => omega
          case rel => exact ⟨kp, swp dk (kp + 1) kp, by first | rfl | go_num | (congr 1; omega), by omega, by omega, by omega, HXn, S3⟩
        · have hklz : ¬ (i : Int) < (k : Int) := by omega
          obtain rfl : k = i := by omega
          go_wp2
          go_end0
          obtain ⟨f, hu⟩ := four_right HSW.out HPr.out (by omega) HB.out
          have hmb := HM.out
          subst hmb
          exact ⟨rfl, dk, HX.out.2, done_right HSW.out f hu HX.out.1, S1.out⟩
end Go.Proofs.YtfmfikodnpnblaaDoor.RankSym

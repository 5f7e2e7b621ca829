/- slices.swapRangeCmpFunc, rotateCmpFunc: the blocks exchanged, turned. -/
import Derived.Test.YtfmfikodnpnblaaDoorRankLay
import Derived.Test.YtfmfikodnpnblaaDoorSymMerge
import Derived.Sort.WalkB2
import Derived.Sort.WalkB12
import Derived.Deep.LoopGhost
set_option linter.unusedVariables false
set_option linter.unusedSectionVars false
namespace Go.Proofs.YtfmfikodnpnblaaDoor.RankSwap
open Go.Shelf Go.RowKit Go.Lib Go.Sort Go.Proofs Go.Proofs.YtfmfikodnpnblaaDoor.SymMerge
variable {α : Type} [Inhabited α]
abbrev en (e : α → Int) (x : α) : Value := .int .i64 (e x)
theorem en_one (e : α → Int) : OneCell (en e) := fun _ => rfl
set_option maxHeartbeats 16000000 in
set_option maxRecDepth 1000000 in
theorem swapRange (e : α → Int) (blk off cap sz a b n : Nat) (d0 d : Array α) (w0 w : World) (R : Row1 (en e) w0 blk off d0) (hs : d0.size = sz) (hd : d.size = sz) (S : SW (en e) w0 blk off d w) (hab : a + n ≤ b) (hb : b + n ≤ sz) (hsz : sz < 4611686018427387904) (fv : Value) :
    Calls Tryd.prog 139 #[.slice (some ⟨blk, off, none⟩) sz cap, .int .i64 a, .int .i64 b, .int .i64 n, fv] w fun e' w' => e' = .returned (.tuple #[]) ∧ ∃ d', Exch a b n d d' ∧ PermIn a (b + n) d d' ∧ SW (en e) w0 blk off d' w' := by
  have S0 : Aside (SW (en e) w0 blk off d w) := S
  clear S
  go_enter Tryd.func139, Tryd.ntmps139
  go_wp2
  go_loopg [10] n (fun g1 vi wr => ∃ (i : Nat) (dk : Array α), vi = .int .i64 i ∧ i ≤ n ∧ n ≤ i + g1 ∧ Aside (Exch a b i d dk ∧ PermIn a (b + n) d dk) ∧ Aside (SW (en e) w0 blk off dk wr))
  case atStart => exact ⟨0, d, rfl, by omega, by omega, ⟨Exch.zero _ _ _, permIn_refl _ _ _⟩, S0⟩
  case round =>
    clear S0
    obtain ⟨i, dk, rfl, hin, hg1, HX, S1⟩ := hrel
    by_cases hlt : i < n
    · have hltz : (i : Int) < (n : Int) := by omega
      have hsk : dk.size = sz := HX.out.1.1.trans hd
      obtain ⟨iN, hiN⟩ : ∃ q, q = a + i := ⟨_, rfl⟩
      obtain ⟨jN, hjN⟩ : ∃ q, q = b + i := ⟨_, rfl⟩
      have ea : ((a : Int) + (i : Int)).toNat = iN := by omega
      have pa : (0 : Int) ≤ (a : Int) + (i : Int) := by omega
      have ba : (a : Int) + (i : Int) < (sz : Int) := by omega
      have ra : IntKind.i64.wrap ((a : Int) + (i : Int)) = (a : Int) + (i : Int) := by rw [IntKind.wrap_i64]; omega
      have ec : ((b : Int) + (i : Int)).toNat = jN := by omega
      have pc : (0 : Int) ≤ (b : Int) + (i : Int) := by omega
      have bc : (b : Int) + (i : Int) < (sz : Int) := by omega
      have rc : IntKind.i64.wrap ((b : Int) + (i : Int)) = (b : Int) + (i : Int) := by rw [IntKind.wrap_i64]; omega
      obtain ⟨x, hx⟩ : ∃ x, x = dk[a + i]! := ⟨_, rfl⟩
      obtain ⟨y, hy⟩ : ∃ y, y = dk[b + i]! := ⟨_, rfl⟩
      have S3 : Aside (SW (en e) w0 blk off (swp dk (a + i) (b + i)) ((wr.setCell ⟨blk, off + iN, none⟩ (.int .i64 (e y))).setCell ⟨blk, off + jN, none⟩ (.int .i64 (e x))).drew) := by rw [hiN, hjN, hx, hy]; exact S1.out.swapped R (a + i) (b + i) (by omega) (by omega)
      have ca : wr.cell? ⟨blk, off + iN, none⟩ = some (.int .i64 (e x)) := by rw [hiN, hx]; exact S1.out.c1 R (by omega) (a + i) (by omega)
      have cb : wr.cell? ⟨blk, off + jN, none⟩ = some (.int .i64 (e y)) := by rw [hjN, hy]; exact S1.out.c1 R (by omega) (b + i) (by omega)
      have fa : wr.frozen? ⟨blk, off + iN, none⟩ = false := by rw [hiN]; exact S1.out.f1 R (by omega) (a + i) (by omega)
      have fb : wr.frozen? ⟨blk, off + jN, none⟩ = false := by rw [hjN]; exact S1.out.f1 R (by omega) (b + i) (by omega)
      obtain ⟨u, cc⟩ := S1.out.c2 R (by omega) (a + i) (b + i) (by omega) (by omega) (.int .i64 (e y))
      rw [← hjN, ← hiN] at cc
      have HXn : Aside (Exch a b (i + 1) d (swp dk (a + i) (b + i)) ∧ PermIn a (b + n) d (swp dk (a + i) (b + i))) := ⟨HX.out.1.step (by omega) (by omega), permIn_trans _ _ _ _ _ HX.out.2 (swp_permIn _ _ _ _ _ (by omega) (by omega) (by omega) (by omega) (by omega))⟩
      clear S1 hx hy hiN hjN HX
      go_wp2_with fail
      go_big_region
      clear ca cb cc fa fb
      generalize ((wr.setCell ⟨blk, off + iN, none⟩ (.int .i64 (e y))).setCell ⟨blk, off + jN, none⟩ (.int .i64 (e x))).drew = w3 at S3 ⊢
      clear ea ec
      go_wp2
      go_roundg (n - (i + 1))
      case measure => omega
      case rel => exact ⟨i + 1, swp dk (a + i) (b + i), by go_num, by omega, by omega, HXn, S3⟩
    · have hltz : ¬ (i : Int) < (n : Int) := by omega
      obtain rfl : i = n := by omega
      go_wp2
      go_end0
      exact ⟨rfl, dk, HX.out.1, HX.out.2, S1.out⟩
set_option maxHeartbeats 16000000 in
set_option maxRecDepth 1000000 in
theorem rotate (e : α → Int) (blk off cap sz a m b : Nat) (d0 d : Array α) (w0 w : World) (R : Row1 (en e) w0 blk off d0) (hs : d0.size = sz) (hd : d.size = sz) (S : SW (en e) w0 blk off d w) (ham : a < m) (hmb : m < b) (hb : b ≤ sz) (hsz : sz < 4611686018427387904) (fv : Value) :
    Calls Tryd.prog 123 #[.slice (some ⟨blk, off, none⟩) sz cap, .int .i64 a, .int .i64 m, .int .i64 b, fv] w fun e' w' => e' = .returned (.tuple #[]) ∧ ∃ d', Rotd a m b d d' ∧ PermIn a b d d' ∧ SW (en e) w0 blk off d' w' := by
  have S0 : Aside (SW (en e) w0 blk off d w) := S
  clear S
  have ri : IntKind.i64.wrap ((m : Int) - (a : Int)) = ((m - a : Nat) : Int) := by rw [IntKind.wrap_i64]; omega
  have rj : IntKind.i64.wrap ((b : Int) - (m : Int)) = ((b - m : Nat) : Int) := by rw [IntKind.wrap_i64]; omega
  go_enter Tryd.func123, Tryd.ntmps123
  go_wp2
  go_loopg [10, 11] (b - a) (fun g1 vi vj wr => ∃ (i j : Nat) (dk : Array α), vi = .int .i64 i ∧ vj = .int .i64 j ∧ 1 ≤ i ∧ 1 ≤ j ∧ i + a ≤ m ∧ m + j ≤ b ∧ i + j ≤ g1 ∧ Aside ((∀ T, Rotd (m - i) m (m + j) dk T → Rotd a m b d T) ∧ PermIn a b d dk) ∧ Aside (SW (en e) w0 blk off dk wr))
  case atStart => exact ⟨m - a, b - m, d, by first | rfl | (congr 1; omega), by first | rfl | (congr 1; omega), by omega, by omega, by omega, by omega, by omega, ⟨fun T hT => by rw [show m - (m - a) = a by omega, show m + (b - m) = b by omega] at hT; exact hT, permIn_refl _ _ _⟩, S0⟩
  case round =>
    clear S0
    obtain ⟨i, j, dk, rfl, rfl, i1, j1, him, hjm, hg1, HX, S1⟩ := hrel
    have hsk : dk.size = sz := HX.out.2.1.trans hd
    by_cases heq : i = j
    · subst heq
      have rk : IntKind.i64.wrap ((m : Int) - (i : Int)) = ((m - i : Nat) : Int) := by rw [IntKind.wrap_i64]; omega
      go_wp2_with (go_at_call 139; (with_reducible refine (swapRange e blk off cap sz (m - i) m i d0 dk w0 _ R hs hsk S1.out (by omega) (by omega) (by omega) fv).mono ?_); rintro e1 w1 ⟨rfl, d', x1, x2, x3⟩; have HE : Aside _ := x1; have HP : Aside _ := x2; have S2 : Aside _ := x3; clear x1 x2 x3 S1)
      go_end0
      exact ⟨rfl, d', HX.out.1 _ (Exch.rot_eq HE.out (by omega)), permIn_trans _ _ _ _ _ HX.out.2 (permIn_mono _ _ _ _ _ _ (by omega) (by omega) (by omega) HP.out), S2.out⟩
    · have hneq : ¬ (i : Int) = (j : Int) := by omega
      by_cases hlt : j < i
      · have hltz : (j : Int) < (i : Int) := by omega
        have rk : IntKind.i64.wrap ((m : Int) - (i : Int)) = ((m - i : Nat) : Int) := by rw [IntKind.wrap_i64]; omega
        have rl : IntKind.i64.wrap ((i : Int) - (j : Int)) = ((i - j : Nat) : Int) := by rw [IntKind.wrap_i64]; omega
        go_wp2_with (go_at_call 139; (with_reducible refine (swapRange e blk off cap sz (m - i) m j d0 dk w0 _ R hs hsk S1.out (by omega) (by omega) (by omega) fv).mono ?_); rintro e1 w1 ⟨rfl, d', x1, x2, x3⟩; have HE : Aside _ := x1; have HP : Aside _ := x2; have S2 : Aside _ := x3; clear x1 x2 x3 S1)
        go_roundg (i - j + j)
        case measure => omega
        case rel => exact ⟨i - j, j, d', rfl, rfl, by omega, by omega, by omega, by omega, by omega, ⟨fun T hT => HX.out.1 _ (Exch.rot_gt HE.out (by omega) hlt hT), permIn_trans _ _ _ _ _ HX.out.2 (permIn_mono _ _ _ _ _ _ (by omega) (by omega) (by omega) HP.out)⟩, S2.out⟩
      · have hltz : ¬ (j : Int) < (i : Int) := by omega
        have rk : IntKind.i64.wrap ((m : Int) - (i : Int)) = ((m - i : Nat) : Int) := by rw [IntKind.wrap_i64]; omega
        have rm : IntKind.i64.wrap ((m : Int) + (j : Int)) = (m : Int) + (j : Int) := by rw [IntKind.wrap_i64]; omega
        have rn : IntKind.i64.wrap ((m : Int) + (j : Int) - (i : Int)) = ((m + j - i : Nat) : Int) := by rw [IntKind.wrap_i64]; omega
        have rl : IntKind.i64.wrap ((j : Int) - (i : Int)) = ((j - i : Nat) : Int) := by rw [IntKind.wrap_i64]; omega
        go_wp2_with (go_at_call 139; (with_reducible refine (swapRange e blk off cap sz (m - i) (m + j - i) i d0 dk w0 _ R hs hsk S1.out (by omega) (by omega) (by omega) fv).mono ?_); rintro e1 w1 ⟨rfl, d', x1, x2, x3⟩; have HE : Aside _ := x1; have HP : Aside _ := x2; have S2 : Aside _ := x3; clear x1 x2 x3 S1)
        go_roundg (i + (j - i))
        case measure => omega
        case rel => exact ⟨i, j - i, d', rfl, rfl, by omega, by omega, by omega, by omega, by omega, ⟨fun T hT => HX.out.1 _ (Exch.rot_lt HE.out (by omega) (by omega) hT), permIn_trans _ _ _ _ _ HX.out.2 (permIn_mono _ _ _ _ _ _ (by omega) (by omega) (by omega) HP.out)⟩, S2.out⟩
end Go.Proofs.YtfmfikodnpnblaaDoor.RankSwap

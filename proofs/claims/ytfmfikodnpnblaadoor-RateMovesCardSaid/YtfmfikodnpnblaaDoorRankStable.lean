/- slices.stableCmpFunc, SortStableFunc: up to forty elements. -/
import Derived.Test.YtfmfikodnpnblaaDoorRankMid
import Derived.Test.YtfmfikodnpnblaaDoorStableP
set_option linter.unusedVariables false
set_option linter.unusedSectionVars false
namespace Go.Proofs.YtfmfikodnpnblaaDoor.RankStable
open Go.Shelf Go.RowKit Go.Lib Go.Sort Go.Proofs Go.Proofs.YtfmfikodnpnblaaDoor.SymMerge Go.Proofs.YtfmfikodnpnblaaDoor.StableP Go.Proofs.YtfmfikodnpnblaaDoor.RankSwap Go.Proofs.YtfmfikodnpnblaaDoor.RankSym Go.Proofs.YtfmfikodnpnblaaDoor.RankMid
variable {α : Type} [Inhabited α]
theorem insAt (e : α → Int) (cf : α → α → Int) (g : Nat) (cb : Array Value) (blk off cap sz a b : Nat) (d0 d : Array α) (w0 w : World)
    (eg : ∀ args w, (callFunc g args).run Tryd.prog w = .ok (.enter g args) w) (hcmp : CmpLays1 Tryd.prog g cb (en e) cf blk off sz w0) (R : Row1 (en e) w0 blk off d0) (hs : d0.size = sz) (hd : d.size = sz) (S : SW (en e) w0 blk off d w) (hab : a ≤ b) (hb : b ≤ sz) (hsz : sz < 4611686018427387904) :
    Calls Tryd.prog 105 #[.slice (some ⟨blk, off, none⟩) sz cap, .int .i64 a, .int .i64 b, .func (.func g) #[] cb] w fun e' w' => e' = .returned (.tuple #[]) ∧ SW (en e) w0 blk off (Sort.insertionSort (ltOf cf) d a b) w' := by
  have h := Any.insertionSortCmpFunc_s Tryd.insL (en e) cf g cb blk off cap a b d0 d w0 w eg (by rw [hs]; exact hcmp) R (by omega) S hab (by omega) (by omega)
  rw [hd] at h
  exact h
set_option maxHeartbeats 16000000 in
set_option maxRecDepth 1000000 in
theorem stable (e : α → Int) (cf : α → α → Int) (ix : α → Nat) (g : Nat) (cb : Array Value) (blk off cap n : Nat) (d : Array α) (w : World)
    (eg : ∀ args w, (callFunc g args).run Tryd.prog w = .ok (.enter g args) w) (hcmp : CmpLays1 Tryd.prog g cb (en e) cf blk off n w) (hS : SWO (ltOf cf)) (R : Row1 (en e) w blk off d) (hd : d.size = n) (S : SW (en e) w blk off d w) (hn : n ≤ 40)
    (hi : ∀ u v, u < v → v < n → ix d[u]! < ix d[v]!) :
    Calls Tryd.prog 82 #[.slice (some ⟨blk, off, none⟩) n cap, .int .i64 n, .func (.func g) #[] cb] w (MergesTo e cf ix blk off w 0 n d) := by
  have HC : Aside _ := hcmp
  have S0 : Aside (SW (en e) w blk off d w) := S
  have HSW : Aside _ := hS
  have HI : Aside _ := hi
  have hst : ∀ t, (stt (ltOf cf) d t).size = n := by
    intro t
    induction t with
    | zero => exact hd
    | succ t ih =>
      show (insertionSort _ _ _ _).size = n
      have : ∀ (m i a b : Nat) (d : Array α), b - i ≤ m → (insOuter (ltOf cf) a b i d).size = d.size := by
        intro m
        induction m with
        | zero => intro i a b d h; rw [insOuter, if_neg (by omega)]
        | succ m ihm =>
          intro i a b d h
          rw [insOuter]
          split
          · rw [ihm _ _ _ _ (by omega)]
            have hin : ∀ (j : Nat) (d : Array α), (insInner (ltOf cf) a j d).size = d.size := by
              intro j
              induction j with
              | zero => intro d; rw [insInner]
              | succ j ihj => intro d; rw [insInner]; split; · rw [ihj, size_swp]
                              · rfl
            exact hin _ _
          · rfl
      unfold insertionSort
      rw [this _ _ _ _ _ (Nat.le_refl _)]
      exact ih
  have HST : Aside _ := hst
  clear S hcmp hS hi hst
  go_enter Tryd.func82, Tryd.ntmps82
  go_wp2
  go_loopg [7, 8] 3 (fun g1 va vb wr => ∃ (t A B : Nat), va = .int .i64 A ∧ vb = .int .i64 B ∧ Aside (A = 20 * t ∧ B = 20 * t + 20) ∧ A ≤ n ∧ Aside (2 < t + g1) ∧ Aside (SW (en e) w blk off (stt (ltOf cf) d t) wr))
  case atStart => exact ⟨0, 0, 20, rfl, rfl, ⟨rfl, rfl⟩, by omega, (show 2 < 0 + 3 by omega), S0⟩
  case round =>
    clear S0
    obtain ⟨t, A, B, rfl, rfl, hAB, hA, hg1, S1⟩ := hrel
    by_cases hB : B ≤ n
    · have hBz : (B : Int) ≤ (n : Int) := by omega
      have hAle : A ≤ B := by have := hAB.out; omega
      have rB : IntKind.i64.wrap ((B : Int) + 20) = (B : Int) + 20 := by rw [IntKind.wrap_i64]; omega
      go_wp2_with (go_at_call 105; have q := insAt e cf g cb blk off cap n A B d _ w _ eg HC.out R hd (HST.out t) S1.out hAle hB (by omega); (with_reducible refine q.mono ?_); clear q; rintro e1 w1 ⟨rfl, x1⟩; have S2 : Aside _ := x1; clear x1 S1)
      go_roundg (gk - 1)
      case measure => have := hAB.out; have := hg1.out; omega
      case rel =>
        have h1 := hAB.out
        have h2 := hg1.out
        refine ⟨t + 1, B, B + 20, rfl, by first | rfl | go_num, (show _ ∧ _ from ⟨by omega, by omega⟩), hB, (show _ < _ by omega), ?_⟩
        have h3 := S2.out
        rw [h1.1, h1.2] at h3
        exact h3
    · have hBz : ¬ (B : Int) ≤ (n : Int) := by omega
      go_wp2_with (go_at_call 105; have q := insAt e cf g cb blk off cap n A n d _ w _ eg HC.out R hd (HST.out t) S1.out hA (Nat.le_refl _) (by omega); (with_reducible refine q.mono ?_); clear q; rintro e1 w1 ⟨rfl, x1⟩; have S2 : Aside (SW (en e) w blk off (blocks (ltOf cf) d n) w1) := (by have h1 := hAB.out; have ht : n / 20 = t := (by omega); unfold blocks; rw [ht, ← h1.1]; exact x1); clear x1 S1)
      clear hAB hg1 hB hBz hA
      by_cases h20 : n ≤ 20
      · have h20z : ¬ (20 : Int) < (n : Int) := by omega
        go_loopg [6] 1 (fun g1 v6 wr => v6 = .int .i64 20 ∧ Aside (SW (en e) w blk off (blocks (ltOf cf) d n) wr))
        case atStart => exact ⟨rfl, S2⟩
        case round =>
          clear S2
          obtain ⟨rfl, S3⟩ := hrel
          go_wp2
          go_end0
          obtain ⟨p1, p2⟩ := blocks_one HSW.out h20 hd HI.out
          exact ⟨rfl, _, p1, p2, S3.out⟩
      · have h20z : (20 : Int) < (n : Int) := by omega
        have h40z : ¬ (40 : Int) < (n : Int) := by omega
        have HB : Aside (PermIn 0 n d (blocks (ltOf cf) d n) ∧ Pre (ltOf cf) ix (blocks (ltOf cf) d n) 0 20 n) := blocks_two HSW.out (by omega) hn hd HI.out
        have hbs : (blocks (ltOf cf) d n).size = n := HB.out.1.1.trans hd
        go_loopg [6] 2 (fun g1 v6 wr => (v6 = .int .i64 20 ∧ Aside (1 < g1 + 1) ∧ Aside (SW (en e) w blk off (blocks (ltOf cf) d n) wr)) ∨ (v6 = .int .i64 40 ∧ Aside (∃ dk, PermIn 0 n d dk ∧ SortedIn (lx (ltOf cf) ix) 0 n dk ∧ SW (en e) w blk off dk wr)))
        case atStart => exact .inl ⟨rfl, (show 1 < 2 + 1 by omega), S2⟩
        case round =>
          clear S2
          rcases hrel with ⟨rfl, hg, S3⟩ | ⟨rfl, S3⟩
          · go_wp2
            go_loopg [7, 8] 2 (fun g1 va vb wr => (va = .int .i64 0 ∧ vb = .int .i64 40 ∧ Aside (1 < g1 + 1) ∧ Aside (SW (en e) w blk off (blocks (ltOf cf) d n) wr)) ∨ (va = .int .i64 40 ∧ vb = .int .i64 80 ∧ Aside (∃ dk, PermIn 0 n d dk ∧ SortedIn (lx (ltOf cf) ix) 0 n dk ∧ SW (en e) w blk off dk wr)))
            case atStart => exact .inl ⟨rfl, rfl, (show 1 < 2 + 1 by omega), S3⟩
            case round =>
              clear S3
              rcases hrel with ⟨rfl, rfl, hgi, S4⟩ | ⟨rfl, rfl, S4⟩
              · by_cases h40 : n = 40
                · have HN : Aside (n = 40) := h40
                  have hle : (40 : Int) ≤ (n : Int) := by omega
                  clear h40
                  go_wp2_with (go_at_call 106; have q := symm e cf ix g cb blk off cap n d w eg HC.out HSW.out R hd (by omega) n 0 20 n _ _ (by omega) hbs S4.out HB.out.2 (by omega) (by omega) (Nat.le_refl _); have hz : (n : Int) = 40 := (by have := HN.out; omega); rw [hz] at q; clear hz; change Calls Tryd.prog 106 #[.slice (some ⟨blk, off, none⟩) n cap, .int .i64 0, .int .i64 20, .int .i64 _, .func (.func g) #[] cb] _ _ at q; (with_reducible refine q.mono ?_); clear q; rintro e1 w1 ⟨rfl, d2, x1, x2, x3⟩; have S5 : Aside (∃ dk, PermIn 0 n d dk ∧ SortedIn (lx (ltOf cf) ix) 0 n dk ∧ SW (en e) w blk off dk w1) := ⟨d2, permIn_trans _ _ _ _ _ HB.out.1 x1, x2, x3⟩; clear x1 x2 x3 S4)
                  go_roundg 0
                  case measure => have := hgi.out; omega
                  case rel => exact .inr ⟨rfl, rfl, S5⟩
                · have hle : ¬ (40 : Int) ≤ (n : Int) := by omega
                  go_wp2_with (go_at_call 106; have q := symm e cf ix g cb blk off cap n d w eg HC.out HSW.out R hd (by omega) n 0 20 n _ _ (by omega) hbs S4.out HB.out.2 (by omega) (by omega) (Nat.le_refl _); change Calls Tryd.prog 106 #[.slice (some ⟨blk, off, none⟩) n cap, .int .i64 0, .int .i64 20, .int .i64 _, .func (.func g) #[] cb] _ _ at q; (with_reducible refine q.mono ?_); clear q; rintro e1 w1 ⟨rfl, d2, x1, x2, x3⟩; have S5 : Aside (∃ dk, PermIn 0 n d dk ∧ SortedIn (lx (ltOf cf) ix) 0 n dk ∧ SW (en e) w blk off dk w1) := ⟨d2, permIn_trans _ _ _ _ _ HB.out.1 x1, x2, x3⟩; clear x1 x2 x3 S4)
                  go_roundg 0
                  case measure => have := hg.out; omega
                  case rel => exact .inr ⟨rfl, S5⟩
              · have h80 : ¬ (80 : Int) ≤ (n : Int) := by omega
                have h60 : ¬ (60 : Int) < (n : Int) := by omega
                go_wp2
                go_roundg 0
                case measure => have := hg.out; omega
                case rel => exact .inr ⟨rfl, S4⟩
          · go_wp2
            go_end0
            obtain ⟨dk, p1, p2, p3⟩ := S3.out
            exact ⟨rfl, dk, p1, p2, p3⟩
set_option maxRecDepth 100000 in
theorem sortStable (e : α → Int) (cf : α → α → Int) (ix : α → Nat) (g : Nat) (cb : Array Value) (blk off cap n : Nat) (d : Array α) (w : World)
    (eg : ∀ args w, (callFunc g args).run Tryd.prog w = .ok (.enter g args) w) (hcmp : CmpLays1 Tryd.prog g cb (en e) cf blk off n w) (hS : SWO (ltOf cf)) (R : Row1 (en e) w blk off d) (hd : d.size = n) (hn : n ≤ 40)
    (hi : ∀ u v, u < v → v < n → ix d[u]! < ix d[v]!) :
    Calls Tryd.prog 50 #[.slice (some ⟨blk, off, none⟩) n cap, .func (.func g) #[] cb] w (MergesTo e cf ix blk off w 0 n d) := by
  have q := stable e cf ix g cb blk off cap n d w eg hcmp hS R hd (SW.start R.hH) hn hi
  clear hcmp hS hi
  go_enter Tryd.func50, Tryd.ntmps50
  go_wp2_with (go_at_call 82; (with_reducible refine q.mono ?_); clear q; rintro e1 w1 ⟨rfl, d2, x1, x2, x3⟩; have S5 : Aside (∃ dk, PermIn 0 n d dk ∧ SortedIn (lx (ltOf cf) ix) 0 n dk ∧ SW (en e) w blk off dk w1) := ⟨d2, x1, x2, x3⟩; clear x1 x2 x3)
  go_end0
  obtain ⟨dk, p1, p2, p3⟩ := S5.out
  exact ⟨rfl, dk, p1, p2, p3⟩
end Go.Proofs.YtfmfikodnpnblaaDoor.RankStable

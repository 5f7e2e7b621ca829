/- pax.Len: what it comes to, and the walk. -/
import Derived.Test.YtfnicahlnpngkaaDoorDoorCut
import Derived.Lib.ItoaLen
import Derived.WalkMore
set_option linter.unusedVariables false
namespace Go.Proofs.YtfnicahlnpngkaaDoor.DoorLen
open Go.RowKit Go.Proofs Go.Proofs.YtfnicahlnpngkaaDoorW.PrintWords Go.Proofs.YtfnicahlnpngkaaDoor.Base Go.Proofs.YtfnicahlnpngkaaDoor.DoorCut

def lenGo (bare : Int) : Nat → Int → Option Int
  | 0, _ => none
  | k + 1, n => if bare + (Lib.itoa n).length = n then some n else lenGo bare k (bare + (Lib.itoa n).length)
def pax_Len.f (a0 a1 : ByteArray) : Option Int := if a0.size ≤ 1000000000000 ∧ a1.size ≤ 1000000000000 then lenGo ((a0.size : Int) + a1.size + 3) 100 ((a0.size : Int) + a1.size + 3 + 1) else none

set_option maxHeartbeats 8000000 in
set_option maxRecDepth 100000 in
theorem pax_Len.calls (a0 a1 : ByteArray) (r : Int) (w : World) (h : pax_Len.f a0 a1 = some r) (hv : Vars w) :
    Calls Tryd.prog 15 #[.agg #[.string a0, .string a1]] w fun e w' => e = .returned (.int .i64 r) ∧ Below w.heap.size w w' := by
  have hu39 := Tryd.underlying39
  unfold pax_Len.f at h
  by_cases hs : a0.size ≤ 1000000000000 ∧ a1.size ≤ 1000000000000
  · rw [if_pos hs] at h
    have HF := Aside0.mk h
    obtain ⟨hs0, hs1⟩ := hs
    have HV := Aside0.mk hv
    clear h hv
    go_enter Tryd.func15, Tryd.ntmps15
    go_wp2
    go_step3
    go_wp2
    go_step3
    go_wp2
    have hb0 : Below w.heap.size w (w.alloc (.cells #[.string a0, .string a1] 39)) := (Below.refl _ _).alloc (Nat.le_refl _) _
    obtain ⟨bare, hbare⟩ : ∃ b, (a0.size : Int) + a1.size + 3 = b := ⟨_, rfl⟩
    rw [hbare] at HF ⊢
    have hbr : 0 ≤ bare ∧ bare ≤ 3000000000000 := by omega
    generalize w.alloc (.cells #[.string a0, .string a1] 39) = W0 at hb0 ⊢
    have HB0 := Aside0.mk hb0
    clear hb0
    go_loopg [4] 100 (fun kq v4 wr => ∃ (n : Int), v4 = .int .i64 n ∧ Aside0 (lenGo bare kq n = some r) ∧ Aside0 (0 ≤ n ∧ n ≤ 4000000000000) ∧ Aside0 (Below w.heap.size w wr))
    case atStart => exact ⟨bare + 1, rfl, HF, ⟨by omega, by omega⟩, HB0⟩
    case round =>
      clear HF HB0
      obtain ⟨n, rfl, HP, HN, HB⟩ := hrel
      cases gk with
      | zero => exact absurd HP.out (by simp [lenGo])
      | succ kq =>
        have hn := HN.out
        have hd := Lib.itoa_length_le n (by omega) (by omega)
        have hI : strconv_Itoa.f n = some (strOf (Lib.itoa n)) := by unfold strconv_Itoa.f; rw [if_pos ⟨by omega, by omega⟩]
        have hsz : (strOf (Lib.itoa n)).size = (Lib.itoa n).length := by simp [strOf, ByteArray.size]
        have hp := HP.out
        rw [lenGo] at hp
        have HC := Aside0.mk (strconv_Itoa.calls n _ wr hI (HV.out.below HB.out))
        generalize strOf (Lib.itoa n) = t at HC hsz
        generalize (Lib.itoa n).length = m at hd hsz hp
        have hw1 : wrap64 (bare + (m : Int)) = bare + (m : Int) := wrap64_id (by omega) (by omega)
        clear hI HP hn
        by_cases he : bare + (m : Int) = n
        · rw [if_pos he, Option.some.injEq] at hp
          subst hp
          have g1 : ((bare + (m : Int)) != n) = false := bne_eq_false_iff_eq.mpr he
          clear he
          go_wp2_with (go_at_call 22; (with_reducible refine (HC.out).mono ?_); rintro e w1 ⟨rfl, hb⟩)
          rw [Exit.noGoto_ret]
          refine bodyPost_ret (v := .int .i64 n) (by simp [results, Tryd.results15, go_sem]) rfl ⟨rfl, below_then HB.out HB.out.size hb⟩
        · rw [if_neg he] at hp
          have g1 : ((bare + (m : Int)) != n) = true := bne_iff_ne.mpr he
          have HP := Aside0.mk hp
          clear he hp
          go_wp2_with (go_at_call 22; (with_reducible refine (HC.out).mono ?_); rintro e w1 ⟨rfl, hb⟩)
          go_roundg kq
          case measure => omega
          case rel => exact ⟨_, rfl, HP, ⟨by have := HN.out; omega, by omega⟩, ⟨below_then HB.out HB.out.size hb⟩⟩
  · rw [if_neg hs] at h; cases h
end Go.Proofs.YtfnicahlnpngkaaDoor.DoorLen

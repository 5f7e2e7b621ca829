/- ClockEdges: times become whole seconds, DOS times and back as the document says: plainly, and the law's walk, by hand (the document's NaN is drawn). -/
import Derived.Test.YtfmfikodnpnblaaGreatDoorPClkFx
import Derived.Test.YtfmfikodnpnblaaGreatDoorClkPlainE
set_option linter.unusedVariables false
set_option linter.unusedSimpArgs false
namespace Go.Proofs.YtfmfikodnpnblaaGreatDoor.PureClockEdges
open Go.RowKit Go.Proofs Go.Proofs.YtfmfikodnpnblaaGreatDoorW.PrintWords Go.Proofs.YtfmfikodnpnblaaGreatDoorW.PrintLast Go.Proofs.YtfmfikodnpnblaaGreatDoorW.PrintMore Go.Proofs.YtfmfikodnpnblaaGreatDoor.PClk1 Go.Proofs.YtfmfikodnpnblaaGreatDoor.PClkB Go.Proofs.YtfmfikodnpnblaaGreatDoor.PClkR Go.Proofs.YtfmfikodnpnblaaGreatDoor.PClkQ Go.Proofs.YtfmfikodnpnblaaGreatDoor.PClkE Go.Proofs.YtfmfikodnpnblaaGreatDoor.PClkF Go.Proofs.YtfmfikodnpnblaaGreatDoor.ClkNone Go.Proofs.YtfmfikodnpnblaaGreatDoor.ClkTold Go.Proofs.YtfmfikodnpnblaaGreatDoor.ClkLib Go.Proofs.YtfmfikodnpnblaaGreatDoor.ClkDate Go.Proofs.YtfmfikodnpnblaaGreatDoor.ClkDays Go.Proofs.YtfmfikodnpnblaaGreatDoor.Flt Go.Proofs.YtfmfikodnpnblaaGreatDoor.FltClk Go.Proofs.YtfmfikodnpnblaaGreatDoor.ClkFloat Go.Proofs.YtfmfikodnpnblaaGreatDoor.ClkRefFloat Go.Proofs.YtfmfikodnpnblaaGreatDoor.ClkDateEq Go.Proofs.YtfmfikodnpnblaaGreatDoor.ClkSecs Go.Proofs.YtfmfikodnpnblaaGreatDoor.ClkRefDays

theorem Same_both (t u : Nat) : ∃ b, clock_Same.f t u = some b ∧ stevedoreref4_Same.f t u = some b := by
  unfold clock_Same.f stevedoreref4_Same.f
  split
  · exact ⟨_, rfl, rfl⟩
  · split
    · exact ⟨_, rfl, rfl⟩
    · exact ⟨_, rfl, rfl⟩
theorem Same_self (t : Nat) : clock_Same.f t t = some true := by
  cases hk : key t with
  | none => exact e_same hk
  | some a =>
    unfold clock_Same.f
    rw [ord_eq hk hk, if_pos (by simp)]
theorem small_1250 {a : Int} (h0 : 0 ≤ a) (h1 : a < 4398046511104 * U) : a.natAbs < Flt.p2 1250 := by
  have h2 : (4398046511104 * U).natAbs < Flt.p2 1250 := by
    unfold U
    rw [Int.natAbs_mul, Int.natAbs_natCast, show (4398046511104 : Int).natAbs = Flt.p2 42 by rw [← p2_is]; rfl, ← p2_add]
    exact p2_lt (by omega)
  omega
theorem whole_sec {x : Nat} {a : Int} (hk : key x = some a) (h0 : 0 ≤ a) (h1 : a < 4398046511104 * U) : stevedoreref4_whole.f x = some (a / U) := by
  have hU := U_pos
  have h2 : 0 ≤ a / U := Int.ediv_nonneg h0 (by omega)
  have h3 : a / U < 4398046511104 := (Int.ediv_lt_iff_lt_mul hU).2 h1
  exact whole_eq hk (small_1250 h0 h1) (by omega) (by omega)
theorem refUnix_eq (x : Nat) : stevedoreref4_Unix.f x = some (unixOf x) := by
  have hU := U_pos
  unfold stevedoreref4_Unix.f unixOf
  cases hk : key x with
  | none => rw [ord_none hk]; rfl
  | some a =>
    rw [ord_ge hk key_zero, ord_ge hk key_32]
    dsimp only
    unfold clampTo
    rw [Int.zero_mul]
    by_cases h1 : 0 ≤ a
    · rw [if_pos (decide_eq_true h1), if_neg (show ¬ a < 0 by omega)]
      by_cases h2 : 4294967295 * U ≤ a
      · rw [if_pos (decide_eq_true h2), if_pos h2]
      · rw [if_neg (by rw [decide_eq_false h2]; decide), if_neg h2, whole_sec hk h1 (by omega), Option.bind_some]
    · rw [if_neg (by rw [decide_eq_false h1]; decide), if_pos (by omega)]
theorem none_f : stevedoreref4_None.f = some 9221120237041090561 := rfl
theorem refFromUnix_eq (m : Int) : ∃ r, stevedoreref4_FromUnix.f m = some r ∧ key r = secKey (if 1 ≤ m ∧ m ≤ 4294967295 then some m else none) := by
  unfold stevedoreref4_FromUnix.f
  rw [none_f]
  by_cases h1 : m < 1
  · rw [if_pos h1, if_neg (by omega)]
    exact ⟨_, rfl, nan_const⟩
  · rw [if_neg h1]
    by_cases h2 : m > 4294967295
    · rw [if_pos h2, if_neg (by omega)]
      exact ⟨_, rfl, nan_const⟩
    · rw [if_neg h2, if_pos (by omega)]
      exact ⟨_, rfl, key_ofInt m (by omega)⟩
theorem refDos_eq (x : Nat) : stevedoreref4_Dos.f 400 x = some (dosOf x) := by
  have hU := U_pos
  have hd : ∀ s : Int, 315532800 ≤ s → s ≤ 4354819199 → stevedoreref4_Date.f 400 s = clock_Date.f 400 s := fun s h0 h1 => by rw [refDate_eq 400 s (by omega) (by omega) (by omega), Date_eq 400 s (by omega) (by omega) (by omega)]
  unfold stevedoreref4_Dos.f dosOf
  cases hk : key x with
  | none => rw [if_pos (nan_ne hk)]
  | some a =>
    rw [if_neg (by rw [not_nan hk]; decide), ord_ge hk key_last, ord_ge hk key_first]
    dsimp only
    unfold clampTo
    by_cases h2 : 4354819200 * U ≤ a
    · rw [if_pos (decide_eq_true h2), if_neg (show ¬ a < 315532800 * U by omega), if_pos h2, hd _ (by decide) (by decide), ← dos_top]
      exact pack_eq 400 _ (by decide) (by decide) (by decide)
    · rw [if_neg (by rw [decide_eq_false h2]; decide)]
      by_cases h1 : 315532800 * U ≤ a
      · have g4 : 315532800 ≤ a / U := (Int.le_ediv_iff_mul_le hU).2 (by omega)
        have g5 : a / U < 4354819200 := (Int.ediv_lt_iff_lt_mul hU).2 (by omega)
        rw [if_pos (decide_eq_true h1), if_neg (show ¬ a < 315532800 * U by omega), if_neg h2, whole_sec hk (by omega) (by omega), Option.bind_some, hd _ g4 (by omega)]
        exact pack_eq 400 _ (by decide) g4 (by omega)
      · rw [if_neg (by rw [decide_eq_false h1]; decide), if_pos (show a < 315532800 * U by omega), hd _ (by decide) (by decide)]
        exact pack_eq 400 _ (by decide) (by decide) (by decide)
theorem refFromDos_eq (v : Int) : ∃ r, stevedoreref4_FromDos.f 400 v = some r ∧ key r = secKey (fdos v) := by
  have bad : ∃ r, stevedoreref4_FromDos.j0 400 v true = some r ∧ key r = none := ⟨_, by rw [stevedoreref4_FromDos.j0, if_pos rfl, none_f]; rfl, nan_const⟩
  unfold stevedoreref4_FromDos.f fdos
  by_cases h1 : v < 0
  · rw [if_pos h1, if_neg (by unfold dosOk; omega)]; exact bad
  rw [if_neg h1]
  by_cases h2 : v > 4294967295
  · rw [decide_eq_true h2, if_neg (by unfold dosOk; omega)]; exact bad
  have a0 : Go.bits .and .i64 v 65535 = v % 65536 := i64_mask 16 (by decide) _ (by omega) (by omega)
  have a1 : Go.bits .and .i64 (v / 65536 / 32) 15 = v / 2097152 % 16 := by rw [show Go.bits .and .i64 (v / 65536 / 32) 15 = v / 65536 / 32 % 16 from i64_mask 4 (by decide) _ (by omega) (by omega)]; omega
  have a2 : Go.bits .and .i64 (v / 65536) 31 = v / 65536 % 32 := i64_mask 5 (by decide) _ (by omega) (by omega)
  have a3 : v % 65536 / 2048 = v / 2048 % 32 := by omega
  have a4 : Go.bits .and .i64 (v % 65536 / 32) 63 = v / 32 % 64 := by rw [show Go.bits .and .i64 (v % 65536 / 32) 63 = v % 65536 / 32 % 64 from i64_mask 6 (by decide) _ (by omega) (by omega)]; omega
  have a5 : Go.bits .and .i64 (v % 65536) 31 = v % 32 := by rw [show Go.bits .and .i64 (v % 65536) 31 = v % 65536 % 32 from i64_mask 5 (by decide) _ (by omega) (by omega)]; omega
  have a6 : wrap64 (v / 65536 / 512 + 1980) = 1980 + v / 33554432 := by rw [w64 (by omega)]; omega
  rw [decide_eq_false h2, stevedoreref4_FromDos.j0, if_neg (by decide), a0, a1, a2, a3, a4, a5, a6, w64 (n := v % 32 * 2) (by omega), refSeconds_eq 399 _ _ _ _ _ _ (by omega), Option.bind_some]
  by_cases hd : okDate (1980 + v / 33554432) (v / 2097152 % 16) (v / 65536 % 32) (v / 2048 % 32) (v / 32 % 64) (v % 32 * 2)
  · rw [if_pos hd, if_pos rfl, if_pos (show dosOk v from ⟨by omega, by omega, hd⟩)]
    exact ⟨_, rfl, key_ofInt _ (secs_small hd)⟩
  · rw [if_neg hd, if_neg (by decide), if_neg (show ¬ dosOk v from fun h => hd h.2.2), none_f]
    exact ⟨_, rfl, nan_const⟩
theorem same_sec {r s : Nat} {o : Option Int} (hr : key r = secKey o) (hs : key s = secKey o) (h0 : ∀ n, o = some n → n ≠ 0) : stevedorelaw4_same.f r s = some true := by
  cases o with
  | none => exact same_nan hr hs
  | some n =>
    have hU := U_pos
    have hne : n * U ≠ 0 := Int.mul_ne_zero (h0 n rfl) (by omega)
    exact same_key hr hs (fun h => absurd h hne)

set_option maxHeartbeats 8000000 in
set_option maxRecDepth 100000 in
theorem ClockEdges (t u : Nat) (v : Int) (w : World) (hv : Vars w) :
    Calls Tryz.prog 4 #[.float .f64 t, .float .f64 u, .int .i64 v] w fun e w' => e = .returned (.bool true) ∧ Below w.heap.size w w' := by
  have HV := Aside0.mk hv
  clear hv
  have HBB := Aside0.mk (Below.refl w.heap.size w)
  obtain ⟨b, hb1, hb2⟩ := Same_both t u
  obtain ⟨x, hx, hxk⟩ := FromUnix_eq v
  obtain ⟨x', hx', hxk'⟩ := refFromUnix_eq v
  obtain ⟨y, hy, hyk⟩ := FromDos_eq 400 v (by decide)
  obtain ⟨y', hy', hyk'⟩ := refFromDos_eq v
  have hU1 := Unix_eq 3 t (by decide)
  have hU2 := refUnix_eq t
  have hD1 := Dos_eq 400 t (by decide)
  have hD2 := refDos_eq t
  have hSS := Same_self t
  have hsu : ∀ s : Nat, key s = key x' → stevedorelaw4_same.f x s = some true := fun s h => same_sec hxk (h.trans hxk') (fun n hn => by
    split at hn
    · injection hn with hn; omega
    · cases hn)
  have hsd : ∀ s : Nat, key s = key y' → stevedorelaw4_same.f y s = some true := fun s h => same_sec hyk (h.trans hyk') (fun n hn => by
    obtain ⟨_, h1, _, _⟩ := dosS_fdos hn
    omega)
  have F := Aside0.mk (And.intro hb1 (And.intro hb2 (And.intro hx (And.intro hx' (And.intro hy (And.intro hy' (And.intro hU1 (And.intro hU2 (And.intro hD1 (And.intro hD2 (And.intro hSS (And.intro hsu hsd))))))))))))
  clear hb1 hb2 hx hx' hy hy' hU1 hU2 hD1 hD2 hSS hsu hsd hxk hxk' hyk hyk'
  generalize unixOf t = m at *
  generalize dosOf t = dd at *
  obtain ⟨G⟩ := F
  obtain ⟨hb1, hb2, hx, hx', hy, hy', hU1, hU2, hD1, hD2, hSS, hsu, hsd⟩ := G
  have K1 := Aside0.mk hb1
  have K2 := Aside0.mk hb2
  have K3 := Aside0.mk hx
  have K4 := Aside0.mk hx'
  have K5 := Aside0.mk hy
  have K6 := Aside0.mk hy'
  have K7 := Aside0.mk hU1
  have K8 := Aside0.mk hU2
  have K9 := Aside0.mk hD1
  have K10 := Aside0.mk hD2
  have K11 := Aside0.mk hSS
  have K12 := Aside0.mk hsu
  have K13 := Aside0.mk hsd
  clear hb1 hb2 hx hx' hy hy' hU1 hU2 hD1 hD2 hSS hsu hsd
  go_enter Tryz.func4, Tryz.ntmps4
  go_wp2_with (first
    | (go_at_call 7; (with_reducible refine (stevedorelaw4_told.calls true _ rfl (HV.out.below HBB.out)).mono ?_); rintro e w2 ⟨rfl, HB2⟩; have HB2' := Aside0.mk (below_then HBB.out HBB.out.size HB2); clear HB2 HBB; have HBB := HB2'; clear HB2')
    | (go_at_call 12; (with_reducible refine (clock_Same.calls t u b _ K1.out).mono ?_); rintro e w2 ⟨rfl, HB2⟩; have HB2' := Aside0.mk (below_then HBB.out HBB.out.size HB2.below); clear HB2 HBB; have HBB := HB2'; clear HB2')
    | (go_at_call 13; (with_reducible refine (stevedoreref4_Same.calls t u b _ K2.out).mono ?_); rintro e w2 ⟨rfl, HB2⟩; have HB2' := Aside0.mk (below_then HBB.out HBB.out.size HB2.below); clear HB2 HBB; have HBB := HB2'; clear HB2')
    | (go_at_call 12; (with_reducible refine (clock_Same.calls t t true _ K11.out).mono ?_); rintro e w2 ⟨rfl, HB2⟩; have HB2' := Aside0.mk (below_then HBB.out HBB.out.size HB2.below); clear HB2 HBB; have HBB := HB2'; clear HB2')
    | (go_at_call 14; (with_reducible refine (clock_Unix.calls 3 t m _ K7.out).mono ?_); rintro e w2 ⟨rfl, HB2⟩; have HB2' := Aside0.mk (below_then HBB.out HBB.out.size HB2); clear HB2 HBB; have HBB := HB2'; clear HB2')
    | (go_at_call 15; (with_reducible refine (stevedoreref4_Unix.calls t m _ K8.out).mono ?_); rintro e w2 ⟨rfl, HB2⟩; have HB2' := Aside0.mk (below_then HBB.out HBB.out.size HB2.below); clear HB2 HBB; have HBB := HB2'; clear HB2')
    | (go_at_call 17; (with_reducible refine (clock_FromUnix.calls v x _ K3.out).mono ?_); rintro e w2 ⟨rfl, HB2⟩; have HB2' := Aside0.mk (below_then HBB.out HBB.out.size HB2); clear HB2 HBB; have HBB := HB2'; clear HB2')
    | (go_at_call 18; (with_reducible refine (stevedoreref4_FromUnix.calls v x' _ K4.out).mono ?_); rintro e w2 ⟨xs, rfl, hkxs, HB2⟩; have Kxs := Aside0.mk hkxs; clear hkxs; have HB2' := Aside0.mk (below_then HBB.out HBB.out.size HB2); clear HB2 HBB; have HBB := HB2'; clear HB2')
    | (go_at_call 16; (with_reducible refine (stevedorelaw4_same.calls x xs true _ (K12.out xs Kxs.out)).mono ?_); rintro e w2 ⟨rfl, HB2⟩; have HB2' := Aside0.mk (below_then HBB.out HBB.out.size HB2.below); clear HB2 HBB; have HBB := HB2'; clear HB2')
    | (go_at_call 19; (with_reducible refine (clock_Dos.calls 400 t dd _ K9.out).mono ?_); rintro e w2 ⟨rfl, HB2⟩; have HB2' := Aside0.mk (below_then HBB.out HBB.out.size HB2); clear HB2 HBB; have HBB := HB2'; clear HB2')
    | (go_at_call 20; (with_reducible refine (stevedoreref4_Dos.calls 400 t dd _ K10.out).mono ?_); rintro e w2 ⟨rfl, HB2⟩; have HB2' := Aside0.mk (below_then HBB.out HBB.out.size HB2); clear HB2 HBB; have HBB := HB2'; clear HB2')
    | (go_at_call 21; (with_reducible refine (clock_FromDos.calls 400 v y _ K5.out).mono ?_); rintro e w2 ⟨rfl, HB2⟩; have HB2' := Aside0.mk (below_then HBB.out HBB.out.size HB2); clear HB2 HBB; have HBB := HB2'; clear HB2')
    | (go_at_call 22; (with_reducible refine (stevedoreref4_FromDos.calls 400 v y' _ K6.out).mono ?_); rintro e w2 ⟨ys, rfl, hkys, HB2⟩; have Kys := Aside0.mk hkys; clear hkys; have HB2' := Aside0.mk (below_then HBB.out HBB.out.size HB2); clear HB2 HBB; have HBB := HB2'; clear HB2')
    | (go_at_call 16; (with_reducible refine (stevedorelaw4_same.calls y ys true _ (K13.out ys Kys.out)).mono ?_); rintro e w2 ⟨rfl, HB2⟩; have HB2' := Aside0.mk (below_then HBB.out HBB.out.size HB2.below); clear HB2 HBB; have HBB := HB2'; clear HB2'))
  go_ret
  exact ⟨by first | rfl | (simp; done) | (simp [*]; done), HBB.out⟩
end Go.Proofs.YtfmfikodnpnblaaGreatDoor.PureClockEdges

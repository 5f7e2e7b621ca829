/- PaxReads, the plain law. -/
import Derived.Test.YtfnicahlnpngkaaDoorPaxLawsOfPaxReads
import Derived.Test.YtfnicahlnpngkaaDoorPaxRefOfPaxReads
import Derived.Test.YtfnicahlnpngkaaDoorPaxPutRefOfPaxReads
set_option linter.unusedVariables false
set_option linter.unusedSimpArgs false
namespace Go.Proofs.YtfnicahlnpngkaaDoor.PurePaxReads
open Go.RowKit Go.Proofs Go.Proofs.YtfnicahlnpngkaaDoorW.PrintWords Go.Proofs.YtfnicahlnpngkaaDoorW.PrintLast Go.Proofs.YtfnicahlnpngkaaDoorW.PrintMore Go.Proofs.YtfnicahlnpngkaaDoor.Base Go.Proofs.YtfnicahlnpngkaaDoor.DoorCut Go.Proofs.YtfnicahlnpngkaaDoor.DoorLen Go.Proofs.YtfnicahlnpngkaaDoor.DoorPutOfPaxReads Go.Proofs.YtfnicahlnpngkaaDoor.PaxSem Go.Proofs.YtfnicahlnpngkaaDoor.PPaxReads Go.Proofs.YtfnicahlnpngkaaDoor.PaxOneOfPaxReads Go.Proofs.YtfnicahlnpngkaaDoor.PaxPutOfPaxReads Go.Proofs.YtfnicahlnpngkaaDoor.PaxRefOfPaxReads Go.Proofs.YtfnicahlnpngkaaDoor.PaxPutRefOfPaxReads Go.Proofs.YtfnicahlnpngkaaDoor.PaxLawsOfPaxReads

theorem readR_len (s : List UInt8) : (readR s).1.length ≤ s.length := by
  unfold readR
  cases h : readS s.length s with
  | none => simp
  | some l =>
    have := (readS_bounds _ _ _ h).1
    simp
    omega

/-- one text is read alike. -/
theorem round_eq (N W : Nat) (hN : N ≤ 2000000) (hW : 4 * N + 30 ≤ W) (x : List ByteArray) (i : Nat) (hi : i < x.length) (hx : (rdOf ByteArray.empty x (i : Int)).size ≤ N) (n : Nat) (hn : n = x.length) (hn2 : n ≤ 100) (k : Nat) (hk : (N + 1) * W + 100 ≤ k) :
    stevedorelaw24_PaxReads.l0 (k + 1) x (n : Int) (i : Int) = stevedorelaw24_PaxReads.l0 k x (n : Int) ((i + 1 : Nat) : Int) := by
  have hNW : 4 * N + 30 ≤ (N + 1) * W := Nat.le_trans hW (Nat.le_mul_of_pos_left W (by omega))
  generalize hM : (N + 1) * W = M at hk hNW
  rw [stevedorelaw24_PaxReads.l0, if_pos (by omega), if_pos (by omega), if_pos (by omega)]
  generalize rdOf ByteArray.empty x (i : Int) = s at hx
  have hl := readR_len s.data.toList
  have hsl := size_len s
  rw [read_eq s (by omega) k (by omega), records_eq N W hN hW s hx k (by omega)]
  simp only [Option.bind_some]
  rw [same_eq _ (by omega) k (by omega)]
  simp only [Option.bind_some, if_true]
  rw [wrap64_id (by omega) (by omega)]
  rfl
theorem j1_eq (N W : Nat) (hN : N ≤ 2000000) (hW : 4 * N + 30 ≤ W) (a b : ByteArray) (ha : a.size ≤ N) (hb : b.size ≤ N) (k : Nat) (hk : (N + 1) * W + 200 ≤ k) : stevedorelaw24_PaxReads.j1 k a b = some true := by
  obtain ⟨k, rfl⟩ : ∃ q, k = q + 1 + 1 + 1 + 1 := ⟨k - 4, by omega⟩
  rw [stevedorelaw24_PaxReads.j1]
  simp only [Option.bind_some]
  show stevedorelaw24_PaxReads.l0 (k + 1 + 1 + 1) [a, b] ((2 : Nat) : Int) ((0 : Nat) : Int) = _
  rw [round_eq N W hN hW [a, b] 0 (by simp) ha 2 rfl (by omega) (k + 1 + 1) (by omega), round_eq N W hN hW [a, b] 1 (by simp) hb 2 rfl (by omega) (k + 1) (by omega), stevedorelaw24_PaxReads.l0, if_neg (by simp), told_at k (by omega)]
  rfl

theorem put_le2 : ∀ (l : List S39) (b : List UInt8) (t : ByteArray) (e : Int), putLoop l b = some (t, e) → b.length ≤ 1048576 → t.size ≤ 1048576
  | [], b, t, e, h, hb => by
    rw [putLoop, Option.some.injEq] at h
    obtain ⟨rfl, _⟩ := Prod.mk.inj h
    rw [size_len]
    simpa [strOf] using hb
  | x :: l, b, t, e, h, hb => by
    rw [putLoop] at h
    split at h
    · split at h
      · cases h
      · rename_i n hn
        split at h
        · injection h with h
          have := (Prod.mk.inj h).1
          subst this
          simp [ByteArray.size]
        · refine put_le2 l _ t e h ?_
          have hlen := len_is hn
          have e0 := size_len x.f0
          have e1 := size_len x.f1
          rw [List.length_append, rec_data, recL_length]
          omega
    · injection h with h
      have := (Prod.mk.inj h).1
      subst this
      simp [ByteArray.size]
theorem tmod_range {z n : Int} (hn : 0 < n) (hz : 0 ≤ z) : 0 ≤ z.tmod n ∧ z.tmod n < n := ⟨Int.tmod_nonneg _ hz, Int.tmod_lt_of_pos _ hn⟩
theorem tmod_abs {z n : Int} (hn : 0 < n) : -n < z.tmod n ∧ z.tmod n < n := by
  have h1 := Int.tmod_lt_of_pos z hn
  have h2 := Int.tmod_lt_of_pos (-z) hn
  rw [Int.neg_tmod] at h2
  exact ⟨by omega, h1⟩

theorem PaxReads (s : ByteArray) (l : List S39) (a b : Int) (hl : l.length ≤ 9223372036854775807) : ∃ k, stevedorelaw24_PaxReads.f k s l a b = some true := by
  obtain ⟨N, hN⟩ : ∃ N : Nat, N = 1100000 := ⟨_, rfl⟩
  obtain ⟨W, hW⟩ : ∃ W : Nat, W = 4 * N + 30 := ⟨_, rfl⟩
  obtain ⟨M, hM⟩ : ∃ M : Nat, M = (N + 1) * W := ⟨_, rfl⟩
  obtain ⟨M2, hM2⟩ : ∃ M2 : Nat, M2 = 1000 * W := ⟨_, rfl⟩
  have told : ∀ k, stevedorelaw24_PaxReads.j0 (k + 101) s l a b true = some true := fun k => by
    rw [stevedorelaw24_PaxReads.j0, if_pos rfl, told_at _ (by omega)]
    rfl
  refine ⟨l.length + M + M2 + 1000, ?_⟩
  unfold stevedorelaw24_PaxReads.f
  by_cases h2 : (s.size : Int) > 2000
  · rw [if_pos h2]
    exact told (l.length + M + M2 + 899)
  · rw [if_neg h2, few_eq l hl _ (by omega), Option.bind_some]
    cases hf : fewB l with
    | false => exact told (l.length + M + M2 + 899)
    | true =>
      rw [show l.length + M + M2 + 1000 = (l.length + M + M2 + 999) + 1 from rfl, stevedorelaw24_PaxReads.j0, if_neg (by decide)]
      unfold fewB at hf
      rw [Bool.and_eq_true, List.all_eq_true, decide_eq_true_eq] at hf
      have hsz : ∀ x ∈ l, x.f0.size ≤ 200 ∧ x.f1.size ≤ 1200 := fun x hx => by
        have := hf.1 x hx
        rw [Bool.and_eq_true, decide_eq_true_eq, decide_eq_true_eq] at this
        exact this
      obtain ⟨t, e, hp⟩ := put_total l [] (fun x hx => by have := hsz x hx; omega)
      have hput : pax_Put.f l = some (t, e) := by unfold pax_Put.f; rw [if_neg (by omega), hp]
      have hts : t.size ≤ 1048576 := put_le2 l [] t e hp (by simp)
      rw [putRef_eq l (fun x hx => by have := hsz x hx; omega) _ W (by omega) (by omega), hput, Option.bind_some]
      dsimp only
      by_cases ht : (t.size : Int) > 0
      · have h1 := tmod_abs (z := a) ht
        have h2' : wrap64 (Int.tmod a (t.size : Int) + (t.size : Int)) = Int.tmod a (t.size : Int) + (t.size : Int) := wrap64_id (by omega) (by omega)
        have h3 := tmod_range (z := Int.tmod a (t.size : Int) + (t.size : Int)) ht (by omega)
        rw [if_pos ht, if_neg (by omega), h2']
        generalize Int.tmod (Int.tmod a (t.size : Int) + (t.size : Int)) (t.size : Int) = q at h3
        have hn : ∀ y : Int, (strOfNums [y]).size = 1 := fun y => strOfNums_size [y]
        have hw : wrap64 (q + 1) = q + 1 := wrap64_id (by omega) (by omega)
        rw [if_pos h3.1, if_pos (by omega), if_pos h3.2]
        simp only [Option.bind_some, ByteArray.size_append, ByteArray.size_extract, hn, hw]
        rw [if_pos (by omega), if_pos (by omega), if_pos (by omega), if_pos (by omega)]
        refine j1_eq N W (by omega) (by omega) s _ (by omega) ?_ _ (by omega)
        simp only [ByteArray.size_append, ByteArray.size_extract, hn]
        omega
      · rw [if_neg ht]
        exact j1_eq N W (by omega) (by omega) s t (by omega) (by omega) _ (by omega)
end Go.Proofs.YtfnicahlnpngkaaDoor.PurePaxReads

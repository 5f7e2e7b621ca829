/- PaxLens, the plain law. -/
import Derived.Test.YtfnicahlnpngkaaDoorPaxPutOfPaxLens
set_option linter.unusedVariables false
set_option linter.unusedSimpArgs false
namespace Go.Proofs.YtfnicahlnpngkaaDoor.PurePaxLens
open Go.RowKit Go.Proofs Go.Proofs.YtfnicahlnpngkaaDoorW.PrintWords Go.Proofs.YtfnicahlnpngkaaDoorW.PrintLast Go.Proofs.YtfnicahlnpngkaaDoorW.PrintMore Go.Proofs.YtfnicahlnpngkaaDoor.Base Go.Proofs.YtfnicahlnpngkaaDoor.DoorCut Go.Proofs.YtfnicahlnpngkaaDoor.DoorLen Go.Proofs.YtfnicahlnpngkaaDoor.DoorPutOfPaxLens Go.Proofs.YtfnicahlnpngkaaDoor.PaxSem Go.Proofs.YtfnicahlnpngkaaDoor.PPaxLens Go.Proofs.YtfnicahlnpngkaaDoor.PaxOneOfPaxLens Go.Proofs.YtfnicahlnpngkaaDoor.PaxPutOfPaxLens

theorem told_true : stevedorelaw24_told.f 100 = some true := by decide +kernel
theorem told_at (k : Nat) (hk : 100 ≤ k) : stevedorelaw24_told.f k = some true := at_rounds (g := fun k => stevedorelaw24_told.f k) (fun k => stevedorelaw24_told.mono k) hk told_true
theorem digits_go : ∀ (k u d : Nat), u < k → d + u ≤ 1000000 → stevedorelaw24_PaxLensDigits.l0 k (u : Int) (d : Int) = some (((d + Lib.nDigits u - 1 : Nat)) : Int)
  | 0, u, d, h, _ => absurd h (by omega)
  | k + 1, u, d, h, hu => by
    rw [stevedorelaw24_PaxLensDigits.l0]
    by_cases h10 : (u : Int) ≥ 10
    · have e1 : Int.tdiv (u : Int) 10 = ((u / 10 : Nat) : Int) := by rw [Int.tdiv_eq_ediv_of_nonneg (by omega)]; omega
      have hnb := Lib.nDigits_big (u := u) (by omega)
      rw [if_pos h10, e1, wrap64_id (by omega) (by omega), wrap64_id (by omega) (by omega), show ((d : Int) + 1) = ((d + 1 : Nat) : Int) by omega, digits_go k (u / 10) (d + 1) (by omega) (by omega), hnb]
      congr 2
      omega
    · rw [if_neg h10, Lib.nDigits_small (by omega)]
      rfl
theorem digits_eq (x : Int) (h0 : 0 ≤ x) (h1 : x ≤ 900000) (k : Nat) (hk : 1000000 ≤ k) : stevedorelaw24_PaxLensDigits.f k x = some ((Lib.itoa x).length : Int) := by
  obtain ⟨u, rfl⟩ : ∃ u : Nat, x = u := ⟨x.toNat, by omega⟩
  unfold stevedorelaw24_PaxLensDigits.f
  have := digits_go k u 1 (by omega) (by omega)
  rw [Lib.itoa_nonneg, Lib.decDigits_length]
  have hp := Lib.nDigits_pos u
  rw [show ((1 : Nat) : Int) = 1 from rfl] at this
  rw [this]
  congr 2
  omega
theorem loop_go (bare n : Int) (h0 : 0 ≤ bare) (h1 : bare ≤ 10000) (hn : bare + (Lib.itoa n).length = n) (hn0 : 0 ≤ n) (hn1 : n ≤ 100000) (least : ∀ m : Int, bare + (Lib.itoa m).length = m → 0 ≤ m → n ≤ m) :
    ∀ (j k : Nat) (x : Int), 0 ≤ x → x + j = n → 1000000 + j < k → stevedorelaw24_PaxLens.l0 k n bare x = some true
  | j, 0, x, _, _, hk => absurd hk (by omega)
  | 0, k + 1, x, hx, he, hk => by
    have hl := Lib.itoa_length_le n (by omega) (by omega)
    rw [stevedorelaw24_PaxLens.l0, if_neg (by omega), told_at k (by omega), Option.bind_some, if_pos rfl, digits_eq n hn0 (by omega) k (by omega), Option.bind_some, wrap64_id (by omega) (by omega), hn]
    simp
  | j + 1, k + 1, x, hx, he, hk => by
    have hl := Lib.itoa_length_le x (by omega) (by omega)
    have hne : ¬ x = bare + (Lib.itoa x).length := fun h => by
      have := least x h.symm hx
      omega
    rw [stevedorelaw24_PaxLens.l0, if_pos (by omega), digits_eq x hx (by omega) k (by omega), Option.bind_some, wrap64_id (n := bare + ((Lib.itoa x).length : Int)) (by omega) (by omega), if_neg hne, wrap64_id (n := x + 1) (by omega) (by omega)]
    exact loop_go bare n h0 h1 hn hn0 hn1 least j k (x + 1) (by omega) (by omega) (by omega)
theorem key_le : ∀ (bare : Int), 0 ≤ bare → bare ≤ 3000000000000 → ∀ (k : Nat) (m r : Int), bare + 1 ≤ m → m ≤ bare + 21 → lenGo bare k m = some r → r ≤ bare + 21 := by
  intro bare hb0 hb1 k
  induction k with
  | zero => intro m r _ _ h; rw [lenGo] at h; cases h
  | succ k ih =>
    intro m r hm0 hm h
    have hlm := Lib.itoa_length_le m (by omega) (by omega)
    have hlp := itoa_pos m (by omega)
    rw [lenGo] at h
    split at h
    · injection h with h; omega
    · exact ih _ r (by omega) (by omega) h
theorem str_size (l : List Int) : (strOfNums l).size = l.length := strOfNums_size l
theorem u_range (a m : Int) (h0 : 0 < m) (h1 : m < 10000) : 0 ≤ Int.tmod (IntKind.u64.wrap a) m ∧ Int.tmod (IntKind.u64.wrap a) m < m := by
  rw [wu64_eq]
  exact ⟨Int.tmod_nonneg _ (by omega), Int.tmod_lt_of_pos _ h0⟩

theorem PaxLens (a b : Int) : ∃ k, stevedorelaw24_PaxLens.f k a b = some true := by
  obtain ⟨K, hK⟩ : ∃ K : Nat, K = 2000000 := ⟨_, rfl⟩
  refine ⟨K, ?_⟩
  have ha := u_range a 200 (by omega) (by omega)
  have hb := u_range b 1201 (by omega) (by omega)
  unfold stevedorelaw24_PaxLens.f
  generalize Int.tmod (IntKind.u64.wrap a) 200 = x at ha
  generalize Int.tmod (IntKind.u64.wrap b) 1201 = y at hb
  rw [wrap64_id (n := x) (by omega) (by omega), wrap64_id (n := 1 + x) (by omega) (by omega), wrap64_id (n := y) (by omega) (by omega), if_pos (by omega), if_pos (by omega), Option.bind_some, if_pos (by omega), if_pos (by omega), Option.bind_some]
  have s1 : (strOfNums (List.replicate (1 + x).toNat (0 : Int))).size = (1 + x).toNat := by rw [str_size, List.length_replicate]
  have s2 : (strOfNums (List.replicate y.toNat (0 : Int))).size = y.toNat := by rw [str_size, List.length_replicate]
  generalize strOfNums (List.replicate (1 + x).toNat (0 : Int)) = A at s1
  generalize strOfNums (List.replicate y.toNat (0 : Int)) = B at s2
  obtain ⟨n, hn⟩ := len_total A B (by omega) (by omega)
  have hi := len_is hn
  have hle : n ≤ (A.size : Int) + B.size + 3 + 21 := by
    have h' := hn
    unfold pax_Len.f at h'
    rw [if_pos (by omega)] at h'
    exact key_le ((A.size : Int) + B.size + 3) (by omega) (by omega) 100 _ n (by omega) (by omega) h'
  rw [hn, Option.bind_some, wrap64_id (n := (A.size : Int) + (B.size : Int)) (by omega) (by omega), wrap64_id (n := (A.size : Int) + (B.size : Int) + 3) (by omega) (by omega)]
  exact loop_go ((A.size : Int) + B.size + 3) n (by omega) (by omega) hi (by omega) (by omega) (fun m hm h0 => len_least hn m hm h0) (n - ((A.size : Int) + B.size + 3)).toNat K _ (by omega) (by omega) (by omega)
end Go.Proofs.YtfnicahlnpngkaaDoor.PurePaxLens

/- PaxMerges, the plain law. -/
import Derived.Test.YtfnicahlnpngkaaDoorPaxMergeLOfPaxMerges
set_option linter.unusedVariables false
set_option linter.unusedSimpArgs false
namespace Go.Proofs.YtfnicahlnpngkaaDoor.PurePaxMerges
open Go.RowKit Go.Proofs Go.Proofs.YtfnicahlnpngkaaDoorW.PrintWords Go.Proofs.YtfnicahlnpngkaaDoorW.PrintLast Go.Proofs.YtfnicahlnpngkaaDoorW.PrintMore Go.Proofs.YtfnicahlnpngkaaDoor.Base Go.Proofs.YtfnicahlnpngkaaDoor.MergeP Go.Proofs.YtfnicahlnpngkaaDoor.PPaxMerges Go.Proofs.YtfnicahlnpngkaaDoor.PaxLawsOfPaxMerges Go.Proofs.YtfnicahlnpngkaaDoor.PaxMergeOfPaxMerges Go.Proofs.YtfnicahlnpngkaaDoor.PaxMergeLOfPaxMerges
theorem few_len {l : List S39} (h : fewB l = true) : l.length ≤ 12 := by
  unfold fewB at h
  rw [Bool.and_eq_true] at h
  exact of_decide_eq_true h.2
theorem get_own (m : List S39) (r : S39) : getS (merge1 S39.f0 live39 m r) r.f0 = if live39 r = true then (r.f1, true) else (⟨#[]⟩, false) := by
  unfold getS
  rw [filter_own]
  by_cases h : live39 r = true
  · rw [if_pos h, if_pos h]; rfl
  · rw [if_neg h, if_neg h]; rfl
theorem get_other (m : List S39) (r : S39) (key : ByteArray) (h : key ≠ r.f0) : getS (merge1 S39.f0 live39 m r) key = getS m key := by
  unfold getS
  rw [filter_other m r key h]
theorem merge_one (m : List S39) (r : S39) (hm : m.length ≤ 1000) : pax_Merge.f m [r] = some (merge1 S39.f0 live39 m r) := by
  unfold pax_Merge.f
  rw [if_pos ⟨by omega, by simp⟩]
  rfl
section
variable (a b : ByteArray)
theorem l2_go (x : List S39) (hu : Uniq S39.f0 x) (hx : x.length ≤ 1000) (i : Nat) (hi : i < x.length) (K : Nat) : ∀ (d j : Nat), j + d = i → stevedorelaw24_PaxMerges.l2 (d + 1 + K) x (i : Int) (j : Int) a b = stevedorelaw24_PaxMerges.l1 K x ((i + 1 : Nat) : Int) a b
  | 0, j, hj => by
    rw [show 0 + 1 + K = K + 1 by omega, stevedorelaw24_PaxMerges.l2, if_neg (by omega), show wrap64 ((i : Int) + 1) = ((i + 1 : Nat) : Int) by rw [wrap64_id (by omega) (by omega)]; omega]
  | d + 1, j, hj => by
    have hne := uniq_ne hu j i (by omega) hi
    rw [show d + 1 + 1 + K = (d + 1 + K) + 1 by omega, stevedorelaw24_PaxMerges.l2, if_pos (by omega), if_pos (by omega), if_pos (by omega), if_pos (by omega), if_pos (by omega), rd_get x i hi, rd_get x j (by omega), if_neg (fun e => hne (tl_eq.1 e)), show wrap64 ((j : Int) + 1) = ((j + 1 : Nat) : Int) by rw [wrap64_id (by omega) (by omega)]; omega]
    exact l2_go x hu hx i hi K d (j + 1) (by omega)
theorem l1_go (x m : List S39) (hu : Uniq S39.f0 x) (hx : x.length ≤ 100) (hxm : x = merge1 S39.f0 live39 m ⟨a, b⟩) : ∀ (d i k : Nat), i + d = x.length → d * 200 + 2000 ≤ k → stevedorelaw24_PaxMerges.l1 k x (i : Int) a b = some true
  | 0, i, k + 1, hi, hk => by
    rw [stevedorelaw24_PaxMerges.l1, if_neg (by omega), told_at k (by omega), Option.bind_some, if_pos rfl, merge_one x ⟨a, b⟩ (by omega), Option.bind_some]
    have := merge_again (key := S39.f0) (live := live39) m ⟨a, b⟩
    rw [← hxm] at this
    rw [this, same_eq x (by omega) k (by omega)]
    rfl
  | d + 1, i, k + 1, hi, hk => by
    obtain ⟨K, rfl⟩ : ∃ K, k = i + 1 + K := ⟨k - i - 1, by omega⟩
    rw [stevedorelaw24_PaxMerges.l1, if_pos (by omega)]
    have := l2_go a b x hu (by omega) i (by omega) K i 0 (by omega)
    rw [show ((0 : Nat) : Int) = 0 from rfl] at this
    rw [this]
    exact l1_go x m hu hx hxm d (i + 1) K (by omega) (by omega)
  | 0, i, 0, hi, hk => absurd hk (by omega)
  | d + 1, i, 0, hi, hk => absurd hk (by omega)
theorem merged (m : List S39) (key : ByteArray) (hu : Uniq S39.f0 m) (hm : m.length ≤ 50) (k : Nat) (hk : 50000 ≤ k) : stevedorelaw24_PaxMerges.j2 k key m (merge1 S39.f0 live39 m ⟨a, b⟩) false a b = some true := by
  have hl := merge1_len m ⟨a, b⟩
  have hux := uniq_merge (live := live39) hu ⟨a, b⟩
  have hj3 : ∀ k, 40000 ≤ k → stevedorelaw24_PaxMerges.j3 k (merge1 S39.f0 live39 m ⟨a, b⟩) a b = some true := fun k hk => by
    obtain ⟨k, rfl⟩ : ∃ q, k = q + 1 := ⟨k - 1, by omega⟩
    rw [stevedorelaw24_PaxMerges.j3]
    have := l1_go a b _ m hux (by omega) rfl _ 0 k (Nat.zero_add _) (by omega)
    exact this
  obtain ⟨k, rfl⟩ : ∃ q, k = q + 1 := ⟨k - 1, by omega⟩
  rw [stevedorelaw24_PaxMerges.j2, if_neg (by decide)]
  by_cases hkey : key = a
  · rw [if_pos (tl_eq.2 hkey)]; exact hj3 k (by omega)
  · rw [if_neg (fun e => hkey (tl_eq.1 e)), get_eq m key (by omega) k (by omega), Option.bind_some, get_eq _ key (by omega) k (by omega), Option.bind_some, get_other m ⟨a, b⟩ key hkey, if_pos rfl, if_neg (by simp)]
    exact hj3 k (by omega)
theorem l0_go (l : List S39) (key : ByteArray) (hl : l.length ≤ 12) : ∀ (d i k : Nat) (m : List S39), i + d = l.length → Uniq S39.f0 m → m.length ≤ i → d + 60000 ≤ k → stevedorelaw24_PaxMerges.l0 k l key m (i : Int) a b = some true
  | 0, i, k + 1, m, hi, hu, hm, hk => by
    have hlx := merge1_len m ⟨a, b⟩
    rw [stevedorelaw24_PaxMerges.l0, if_neg (by omega), merge_one m ⟨a, b⟩ (by omega), Option.bind_some, get_eq _ a (by omega) k (by omega), Option.bind_some]
    have hg := get_own m ⟨a, b⟩
    have hlv := live_iff ⟨a, b⟩
    simp only at hg hlv
    rw [hg]
    by_cases h : live39 ⟨a, b⟩ = true
    · have hb : ¬ b.toList = [] := hlv.1 h
      have hb2 : (b.toList != []) = true := bne_iff_ne.2 hb
      rw [if_pos h, hb2]
      simp only [bne_self_eq_false, Bool.false_eq_true, if_false]
      exact merged a b m key hu (by omega) k (by omega)
    · have hb : b.toList = [] := Decidable.byContradiction fun e => h (hlv.2 e)
      have hb2 : (b.toList != []) = false := bne_eq_false_iff_eq.2 hb
      have he : (⟨#[]⟩ : ByteArray).toList = b.toList := by rw [hb]; exact (toList_nil _).2 rfl
      rw [if_neg h, hb2]
      simp only [bne_self_eq_false, Bool.false_eq_true, if_false, he]
      exact merged a b m key hu (by omega) k (by omega)
  | d + 1, i, k + 1, m, hi, hu, hm, hk => by
    have hlt : i < l.length := by omega
    have hw : wrap64 ((i : Int) + 1) = ((i + 1 : Nat) : Int) := by rw [wrap64_id (by omega) (by omega)]; omega
    have hsl : (l.take (((i + 1 : Nat) : Int)).toNat).drop ((i : Int)).toNat = [l[i]] := by
      rw [Int.toNat_natCast, Int.toNat_natCast, List.take_succ_eq_append_getElem hlt, List.drop_append_of_le_length (by rw [List.length_take]; omega), List.drop_of_length_le (by rw [List.length_take]; omega)]
      rfl
    have hlm := merge1_len m l[i]
    rw [stevedorelaw24_PaxMerges.l0, if_pos (by omega), if_pos (by omega), hw, if_pos (by omega), if_pos (by omega), hsl, merge_one m l[i] (by omega), Option.bind_some]
    exact l0_go l key hl d (i + 1) k _ (by omega) (uniq_merge hu _) (by omega) (by omega)
  | 0, i, 0, m, hi, hu, hm, hk => absurd hk (by omega)
  | d + 1, i, 0, m, hi, hu, hm, hk => absurd hk (by omega)
end
theorem big (l : List S39) (key a b : ByteArray) (k : Nat) (hk : 1000 ≤ k) : stevedorelaw24_PaxMerges.j0 k l key true a b = some true := by
  obtain ⟨k, rfl⟩ : ∃ q, k = q + 1 := ⟨k - 1, by omega⟩
  rw [stevedorelaw24_PaxMerges.j0, if_pos rfl, told_at k (by omega)]
  rfl
theorem at_k (l : List S39) (a b key : ByteArray) (hl : l.length ≤ 9223372036854775807) (k : Nat) (hk : 100000 ≤ k) (hlk : l.length < k) : stevedorelaw24_PaxMerges.f k l a b key = some true := by
  unfold stevedorelaw24_PaxMerges.f
  rw [few_eq l hl k hlk, Option.bind_some]
  cases h1 : fewB l with
  | false => rw [if_neg (by decide)]; exact big l key a b k (by omega)
  | true =>
    rw [if_pos rfl, few_eq [⟨a, b⟩] (by simp) k (by simp; omega), Option.bind_some]
    cases h2 : fewB [⟨a, b⟩] with
    | false => rw [if_neg (by decide)]; exact big l key a b k (by omega)
    | true =>
      rw [if_pos rfl]
      by_cases h3 : (key.size : Int) > 200
      · rw [decide_eq_true h3]; exact big l key a b k (by omega)
      · rw [decide_eq_false h3]
        have hl12 := few_len h1
        obtain ⟨k, rfl⟩ : ∃ q, k = q + 1 := ⟨k - 1, by omega⟩
        rw [stevedorelaw24_PaxMerges.j0, if_neg (by decide)]
        exact l0_go a b l key hl12 l.length 0 k [] (by omega) (fun _ => by simp) (by simp) (by omega)
theorem PaxMerges (l : List S39) (a b key : ByteArray) (hl : l.length ≤ 9223372036854775807) : ∃ k, stevedorelaw24_PaxMerges.f k l a b key = some true :=
  ⟨100000 + l.length + 1, at_k l a b key hl _ (by omega) (by omega)⟩
end Go.Proofs.YtfnicahlnpngkaaDoor.PurePaxMerges

/- PaxBack, the plain law. -/
import Derived.Test.YtfnicahlnpngkaaDoorPaxPutOfPaxBack
set_option linter.unusedVariables false
set_option linter.unusedSimpArgs false
namespace Go.Proofs.YtfnicahlnpngkaaDoor.PurePaxBack
open Go.RowKit Go.Proofs Go.Proofs.YtfnicahlnpngkaaDoorW.PrintWords Go.Proofs.YtfnicahlnpngkaaDoorW.PrintLast Go.Proofs.YtfnicahlnpngkaaDoorW.PrintMore Go.Proofs.YtfnicahlnpngkaaDoor.Base Go.Proofs.YtfnicahlnpngkaaDoor.DoorCut Go.Proofs.YtfnicahlnpngkaaDoor.DoorLen Go.Proofs.YtfnicahlnpngkaaDoor.DoorPutOfPaxBack Go.Proofs.YtfnicahlnpngkaaDoor.PaxSem Go.Proofs.YtfnicahlnpngkaaDoor.PPaxBack Go.Proofs.YtfnicahlnpngkaaDoor.PaxOneOfPaxBack Go.Proofs.YtfnicahlnpngkaaDoor.PaxPutOfPaxBack

theorem told_true : stevedorelaw24_told.f 100 = some true := by decide +kernel
theorem told_at (k : Nat) (hk : 100 ≤ k) : stevedorelaw24_told.f k = some true := at_rounds (g := fun k => stevedorelaw24_told.f k) (fun k => stevedorelaw24_told.mono k) hk told_true
theorem rd_get (l : List S39) (i : Nat) (h : i < l.length) : rd_T39 l (i : Int) = l[i] := by
  unfold rd_T39
  rw [Int.toNat_natCast, List.getD_eq_getElem?_getD, List.getElem?_eq_getElem h]
  rfl

def fewB (l : List S39) : Bool := (l.all fun x => decide (x.f0.size ≤ 200) && decide (x.f1.size ≤ 1200)) && decide (l.length ≤ 12)
theorem few_go (l : List S39) (hl : l.length ≤ 9223372036854775807) : ∀ (j i k : Nat), i + j = l.length → j < k → stevedorelaw24_few.l0 k l (i : Int) = some (((l.drop i).all fun x => decide (x.f0.size ≤ 200) && decide (x.f1.size ≤ 1200)) && decide (l.length ≤ 12))
  | 0, i, k + 1, hi, hk => by
    rw [stevedorelaw24_few.l0, if_neg (by omega), List.drop_of_length_le (by omega)]
    simp
    omega
  | j + 1, i, k + 1, hi, hk => by
    rw [stevedorelaw24_few.l0, if_pos (by omega), if_pos (by omega), List.drop_eq_getElem_cons (by omega), ← rd_get l i (by omega), List.all_cons]
    by_cases h : (((rd_T39 l (i : Int)).f0).size : Int) > 200
    · rw [if_pos h, decide_eq_false (show ¬ (rd_T39 l (i : Int)).f0.size ≤ 200 by omega)]
      rfl
    · rw [if_neg h, decide_eq_true (show (rd_T39 l (i : Int)).f0.size ≤ 200 by omega)]
      by_cases h1 : (((rd_T39 l (i : Int)).f1).size : Int) > 1200
      · rw [if_pos h1, decide_eq_false (show ¬ (rd_T39 l (i : Int)).f1.size ≤ 1200 by omega)]
        rfl
      · rw [if_neg h1, decide_eq_true (show (rd_T39 l (i : Int)).f1.size ≤ 1200 by omega), wrap64_id (by omega) (by omega), show ((i : Int) + 1) = ((i + 1 : Nat) : Int) by omega, few_go l hl j (i + 1) k (by omega) (by omega)]
        rfl
  | 0, i, 0, hi, hk => absurd hk (by omega)
  | j + 1, i, 0, hi, hk => absurd hk (by omega)
theorem few_eq (l : List S39) (hl : l.length ≤ 9223372036854775807) (k : Nat) (hk : l.length < k) : stevedorelaw24_few.f k l = some (fewB l) := few_go l hl l.length 0 k (by omega) hk

theorem same_go (l : List S39) (hl : l.length ≤ 9223372036854775807) : ∀ (j i k : Nat), i + j = l.length → j < k → stevedoreref23_SameRecords.l0 k l l (i : Int) = some true
  | 0, i, k + 1, hi, hk => by rw [stevedoreref23_SameRecords.l0, if_neg (by omega)]
  | j + 1, i, k + 1, hi, hk => by
    rw [stevedoreref23_SameRecords.l0, if_pos (by omega), if_pos (by omega), if_pos (by omega), if_neg (by simp), wrap64_id (by omega) (by omega), show ((i : Int) + 1) = ((i + 1 : Nat) : Int) by omega]
    exact same_go l hl j (i + 1) k (by omega) (by omega)
  | 0, i, 0, hi, hk => absurd hk (by omega)
  | j + 1, i, 0, hi, hk => absurd hk (by omega)
theorem same_eq (l : List S39) (hl : l.length ≤ 9223372036854775807) (k : Nat) (hk : l.length < k) : stevedoreref23_SameRecords.f k l l = some true := by
  unfold stevedoreref23_SameRecords.f
  rw [if_pos rfl]
  exact same_go l hl l.length 0 k (by omega) hk

/-! ### what was read is put -/
def clean (x : S39) : Prop := (10 : UInt8) ∉ x.f0.data.toList ∧ (0 : UInt8) ∉ x.f0.data.toList
theorem byte_at (s : ByteArray) (p : Nat) (h : p < s.size) : ∃ hp : p < s.data.toList.length, bt s (p : Int) = ((s.data.toList[p]).toNat : Int) :=
  ⟨by rw [← size_len]; exact h, bt_get s p _⟩
theorem not_mem_of_lt {c : UInt8} {l : List UInt8} (h : ∀ (p : Nat) (hp : p < l.length), l[p] ≠ c) : c ∉ l := by
  intro hm
  obtain ⟨p, hp, e⟩ := List.mem_iff_getElem.1 hm
  exact h p hp e

theorem l1_go (x1 : ByteArray) (m : List S39) (i : Nat) (hi : i < m.length) (Kn : Nat) (hKn : 100 ≤ Kn) (hs : (rd_T39 m (i : Int)).f0.size ≤ 2000)
    (next : clean (rd_T39 m (i : Int)) → ∀ k, Kn ≤ k → stevedorelaw24_PaxBack.l0 k x1 m (((i + 1 : Nat)) : Int) = some true) (hm : m.length ≤ 9223372036854775806) :
    ∀ (j p k : Nat), p + j = (rd_T39 m (i : Int)).f0.size → Kn + j < k → (∀ (q : Nat) (hq : q < (rd_T39 m (i : Int)).f0.data.toList.length), q < p → (rd_T39 m (i : Int)).f0.data.toList[q] ≠ 10 ∧ (rd_T39 m (i : Int)).f0.data.toList[q] ≠ 0) →
      stevedorelaw24_PaxBack.l1 k x1 m (i : Int) (p : Int) = some true
  | 0, p, k + 1, hp, hk, hb => by
    rw [stevedorelaw24_PaxBack.l1, if_pos (by omega), if_pos (by omega), if_neg (by omega), wrap64_id (by omega) (by omega), show ((i : Int) + 1) = ((i + 1 : Nat) : Int) by omega]
    have hsl := size_len (rd_T39 m (i : Int)).f0
    exact next ⟨not_mem_of_lt fun q hq => (hb q hq (by omega)).1, not_mem_of_lt fun q hq => (hb q hq (by omega)).2⟩ k (by omega)
  | j + 1, p, k + 1, hp, hk, hb => by
    rw [stevedorelaw24_PaxBack.l1, if_pos (by omega), if_pos (by omega), if_pos (by omega), if_pos (by omega)]
    obtain ⟨hpl, he⟩ := byte_at (rd_T39 m (i : Int)).f0 p (by omega)
    rw [he, told_at k (by omega)]
    by_cases h10 : (((rd_T39 m (i : Int)).f0.data.toList[p]).toNat : Int) = 10
    · rw [if_pos h10]; rfl
    · rw [if_neg h10]
      by_cases h0 : (((rd_T39 m (i : Int)).f0.data.toList[p]).toNat : Int) = 0
      · rw [if_pos h0]; rfl
      · rw [if_neg h0, wrap64_id (by omega) (by omega), show ((p : Int) + 1) = ((p + 1 : Nat) : Int) by omega]
        refine l1_go x1 m i hi Kn hKn hs next hm j (p + 1) k (by omega) (by omega) (fun q hq hlt => ?_)
        by_cases hqp : q = p
        · subst hqp
          refine ⟨fun e => ?_, fun e => ?_⟩
          · rw [e] at h10; exact h10 rfl
          · rw [e] at h0; exact h0 rfl
        · exact hb q hq (by omega)
  | 0, p, 0, hp, hk, hb => absurd hk (by omega)
  | j + 1, p, 0, hp, hk, hb => absurd hk (by omega)

/-- the law's end, where all keys are clean. -/
theorem l0_end (x1 : ByteArray) (m : List S39) (K0 W : Nat) (hW : 2002 ≤ W) (hK : 100 ≤ K0) (hm : m.length ≤ 2000) (hs : ∀ x ∈ m, x.f0.size ≤ 2000)
    (fin : (∀ x ∈ m, clean x) → ∀ k, K0 ≤ k → stevedorelaw24_PaxBack.l0 k x1 m ((m.length : Nat) : Int) = some true) :
    ∀ (j i k : Nat), i + j = m.length → K0 + j * W ≤ k → (∀ (q : Nat) (hq : q < m.length), q < i → clean m[q]) → stevedorelaw24_PaxBack.l0 k x1 m (i : Int) = some true
  | 0, i, k, hi, hk, hc => by
    obtain rfl : i = m.length := by omega
    refine fin (fun x hx => ?_) k (by omega)
    obtain ⟨q, hq, e⟩ := List.mem_iff_getElem.1 hx
    rw [← e]
    exact hc q hq hq
  | j + 1, i, 0, hi, hk, hc => absurd hk (by have : (j + 1) * W = j * W + W := Nat.succ_mul j W; omega)
  | j + 1, i, k + 1, hi, hk, hc => by
    rw [stevedorelaw24_PaxBack.l0, if_pos (by omega)]
    have hW2 : (j + 1) * W = j * W + W := Nat.succ_mul j W
    have hg := rd_get m i (by omega)
    have hs' : (rd_T39 m (i : Int)).f0.size ≤ 2000 := by rw [hg]; exact hs _ (List.getElem_mem _)
    refine l1_go x1 m i (by omega) (K0 + j * W) (by omega) hs' (fun hcl k' hk' => ?_) (by omega) (rd_T39 m (i : Int)).f0.size 0 k (by omega) (by omega) (fun q hq hlt => absurd hlt (by omega))
    refine l0_end x1 m K0 W hW hK hm hs fin j (i + 1) k' (by omega) (by omega) (fun q hq hlt => ?_)
    by_cases hqi : q = i
    · subst hqi
      rw [← hg]
      exact hcl
    · exact hc q hq (by omega)

theorem readS_bounds : ∀ (n : Nat) (s : List UInt8) (l : List (List UInt8 × List UInt8)), readS n s = some l → 5 * l.length ≤ s.length ∧ ∀ p ∈ l, p.1.length ≤ s.length ∧ p.2.length ≤ s.length
  | 0, s, l, h => by
    rw [readS] at h
    split at h
    · injection h with h; subst h; simp
    · cases h
  | n + 1, s, l, h => by
    rw [readS] at h
    split at h
    · injection h with h; subst h; simp
    · cases ho : oneS s with
      | none => rw [ho] at h; cases h
      | some p =>
        obtain ⟨k, v, r⟩ := p
        rw [ho] at h
        dsimp only at h
        cases hr : readS n r with
        | none => rw [hr] at h; cases h
        | some l' =>
          rw [hr, Option.map_some, Option.some.injEq] at h
          subst h
          obtain ⟨m, hs, hm, hk, _⟩ := oneS_inv ho
          have hml := recL_length (m : Int) k v
          have hk1 : 0 < k.length := List.length_pos_iff.2 hk
          have hi1 := itoa_pos (m : Int) (by omega)
          have hsl : s.length = m + r.length := by rw [hs, List.length_append, hm]
          obtain ⟨h1, h2⟩ := readS_bounds n r l' hr
          refine ⟨by rw [List.length_cons]; omega, fun p hp => ?_⟩
          rcases List.mem_cons.1 hp with rfl | hp
          · exact ⟨by show k.length ≤ _; omega, by show v.length ≤ _; omega⟩
          · have := h2 p hp; omega

theorem j1_eq (s : ByteArray) (hs : s.size ≤ 2000) (k : Nat) (hk : 5000000 ≤ k) : stevedorelaw24_PaxBack.j1 k s = some true := by
  obtain ⟨k, rfl⟩ : ∃ q, k = q + 1 := ⟨k - 1, by omega⟩
  have hsl := size_len s
  rw [stevedorelaw24_PaxBack.j1, read_eq s (by omega) k (by omega), Option.bind_some, told_at k (by omega)]
  unfold readR
  cases hr : readS s.data.toList.length s.data.toList with
  | none => rfl
  | some l =>
    dsimp only
    rw [if_pos rfl]
    obtain ⟨hb1, hb2⟩ := readS_bounds _ _ _ hr
    refine l0_end s (l.map mkR) 300000 2002 (by omega) (by omega) (by rw [List.length_map]; omega) (fun x hx => ?_) (fun hcl k' hk' => ?_) (l.map mkR).length 0 k (by omega) (by rw [List.length_map]; omega) (fun q hq hlt => absurd hlt (by omega))
    · obtain ⟨p, hp, rfl⟩ := List.mem_map.1 hx
      show (⟨p.1.toArray⟩ : ByteArray).size ≤ 2000
      rw [size_mk]
      have := (hb2 p hp).1
      omega
    · obtain ⟨k', rfl⟩ : ∃ q, k' = q + 1 := ⟨k' - 1, by omega⟩
      rw [stevedorelaw24_PaxBack.l0, if_neg (by omega)]
      obtain ⟨t, ht, hts⟩ := put_of_read _ _ _ hr (fun p hp => hcl (mkR p) (List.mem_map_of_mem hp)) [] (by simp; omega)
      obtain ⟨body, h1, h2, _⟩ := put_back _ _ _ ht
      rw [List.nil_append] at h1
      have hput : pax_Put.f (l.map mkR) = some (t, 0) := by unfold pax_Put.f; rw [if_neg (by rw [List.length_map]; omega), ht]
      have hread : readR t.data.toList = (l.map mkR, 0) := by
        unfold readR
        rw [h1, h2]
        dsimp only
        rw [List.map_map, List.map_map]
        rfl
      rw [hput, Option.bind_some]
      dsimp only
      rw [read_eq t (by rw [List.length_nil] at hts; omega) k' (by rw [List.length_nil] at hts; omega), hread, Option.bind_some, told_at k' (by omega), Option.bind_some, if_pos rfl, if_pos rfl, if_pos rfl, if_pos (by rw [List.length_nil] at hts; omega), same_eq _ (by rw [List.length_map]; omega) k' (by rw [List.length_map]; omega)]
      rfl

theorem PaxBack (l : List S39) (s : ByteArray) (hl : l.length ≤ 9223372036854775807) : ∃ k, stevedorelaw24_PaxBack.f k l s = some true := by
  refine ⟨l.length + 10000000, ?_⟩
  unfold stevedorelaw24_PaxBack.f
  rw [few_eq l hl _ (by omega), Option.bind_some]
  have told : stevedorelaw24_PaxBack.j0 (l.length + 10000000) l s true = some true := by
    rw [show l.length + 10000000 = (l.length + 9999999) + 1 by omega, stevedorelaw24_PaxBack.j0, if_pos rfl, told_at _ (by omega)]
    rfl
  cases hf : fewB l with
  | false => rw [if_neg (by decide)]; exact told
  | true =>
    rw [if_pos rfl]
    by_cases h2 : (s.size : Int) > 2000
    · rw [decide_eq_true h2]; exact told
    · rw [decide_eq_false h2, show l.length + 10000000 = (l.length + 9999999) + 1 by omega, stevedorelaw24_PaxBack.j0, if_neg (by decide)]
      unfold fewB at hf
      rw [Bool.and_eq_true, List.all_eq_true, decide_eq_true_eq] at hf
      have hsz : ∀ x ∈ l, x.f0.size ≤ 200 ∧ x.f1.size ≤ 1200 := fun x hx => by
        have := hf.1 x hx
        rw [Bool.and_eq_true, decide_eq_true_eq, decide_eq_true_eq] at this
        exact this
      obtain ⟨t, e, hp⟩ := put_total l [] (fun x hx => by have := hsz x hx; omega)
      have hput : pax_Put.f l = some (t, e) := by unfold pax_Put.f; rw [if_neg (by omega), hp]
      rw [hput, Option.bind_some]
      dsimp only
      by_cases he : e = 0
      · subst he
        obtain ⟨body, h1, hb, hbl⟩ := put_back _ _ _ hp
        rw [List.nil_append] at h1
        have hread : readR t.data.toList = (l, 0) := by
          unfold readR
          rw [h1, hb]
          dsimp only
          rw [List.map_map]
          congr 1
          exact (List.map_congr_left (fun x _ => mk_un x)).trans (List.map_id _)
        have htl : t.size ≤ 1048576 := put_le _ _ _ hp (by simp)
        rw [if_pos rfl, read_eq t (by omega) _ (by omega), hread, Option.bind_some]
        dsimp only
        rw [if_pos rfl, same_eq l hl _ (by omega), Option.bind_some, if_pos rfl]
        exact j1_eq s (by omega) _ (by omega)
      · rw [if_neg he]
        exact j1_eq s (by omega) _ (by omega)
end Go.Proofs.YtfnicahlnpngkaaDoor.PurePaxBack

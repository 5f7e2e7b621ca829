/- pax.Put and pax.Len: what they come to; what is put is read. PaxPuts -/
import Derived.Test.YtfnicahlnpngkaaDoorPaxOneOfPaxPuts
set_option linter.unusedVariables false
set_option linter.unusedSimpArgs false
namespace Go.Proofs.YtfnicahlnpngkaaDoor.PaxPutOfPaxPuts
open Go.RowKit Go.Proofs Go.Proofs.YtfnicahlnpngkaaDoorW.PrintWords Go.Proofs.YtfnicahlnpngkaaDoorW.PrintLast Go.Proofs.YtfnicahlnpngkaaDoorW.PrintMore Go.Proofs.YtfnicahlnpngkaaDoor.Base Go.Proofs.YtfnicahlnpngkaaDoor.DoorCut Go.Proofs.YtfnicahlnpngkaaDoor.DoorLen Go.Proofs.YtfnicahlnpngkaaDoor.DoorPutOfPaxPuts Go.Proofs.YtfnicahlnpngkaaDoor.PaxSem Go.Proofs.YtfnicahlnpngkaaDoor.PPaxPuts Go.Proofs.YtfnicahlnpngkaaDoor.PaxOneOfPaxPuts

theorem itoa_pos (n : Int) (h0 : 0 ≤ n) : 1 ≤ (Lib.itoa n).length := by
  obtain ⟨u, rfl⟩ : ∃ u : Nat, n = u := ⟨n.toNat, by omega⟩
  rw [Lib.itoa_nonneg, Lib.decDigits_length]
  exact Lib.nDigits_pos u
theorem lenGo_total (bare : Int) (h0 : 0 ≤ bare) (h1 : bare ≤ 3000000000000) : ∀ (k : Nat) (n : Int), bare + 1 ≤ n → n ≤ bare + (Lib.itoa n).length → n ≤ bare + 21 → 21 - (n - bare) < k → ∃ r, lenGo bare k n = some r
  | 0, n, a, b, c, d => absurd d (by omega)
  | k + 1, n, a, b, c, d => by
    rw [lenGo]
    by_cases h : bare + (Lib.itoa n).length = n
    · rw [if_pos h]; exact ⟨n, rfl⟩
    · rw [if_neg h]
      have hl := Lib.itoa_length_le n (by omega) (by omega)
      have hm := itoa_mono (a := n) (b := bare + (Lib.itoa n).length) (by omega) (by omega)
      exact lenGo_total bare h0 h1 k _ (by omega) (by omega) (by omega) (by omega)
theorem lenGo_least (bare : Int) (h0 : 0 ≤ bare) : ∀ (k : Nat) (n r m : Int), lenGo bare k n = some r → 0 ≤ n → n ≤ m → bare + (Lib.itoa m).length = m → r ≤ m ∧ n ≤ r ∨ r ≤ m
  | 0, n, r, m, h, a, b, c => by rw [lenGo] at h; cases h
  | k + 1, n, r, m, h, a, b, c => by
    rw [lenGo] at h
    split at h
    · injection h with h; right; omega
    · have hm := itoa_mono a b
      right
      rcases lenGo_least bare h0 k _ r m h (by omega) (by omega) c with h' | h'
      · exact h'.1
      · exact h'
theorem len_total (a0 a1 : ByteArray) (h0 : a0.size ≤ 1000000000000) (h1 : a1.size ≤ 1000000000000) : ∃ n, pax_Len.f a0 a1 = some n := by
  unfold pax_Len.f
  rw [if_pos ⟨h0, h1⟩]
  have := itoa_pos ((a0.size : Int) + a1.size + 3 + 1) (by omega)
  exact lenGo_total _ (by omega) (by omega) 100 _ (by omega) (by omega) (by omega) (by omega)
theorem len_least {a0 a1 : ByteArray} {n : Int} (h : pax_Len.f a0 a1 = some n) (m : Int) (hm : (a0.size : Int) + a1.size + 3 + (Lib.itoa m).length = m) (h0 : 0 ≤ m) : n ≤ m := by
  unfold pax_Len.f at h
  split at h
  · have := itoa_pos m h0
    rcases lenGo_least _ (by omega) 100 _ n m h (by omega) (by omega) hm with h' | h'
    · exact h'.1
    · exact h'
  · cases h

def unR (x : S39) : List UInt8 × List UInt8 := (x.f0.data.toList, x.f1.data.toList)
theorem mk_un (x : S39) : mkR (unR x) = x := rfl
theorem un_mk (p : List UInt8 × List UInt8) : unR (mkR p) = p := rfl
theorem rec_data (n : Int) (x : S39) : (recB n x).data.toList = recL n x.f0.data.toList x.f1.data.toList := by
  unfold recB recL
  simp [strOf]
theorem has_iff (s : ByteArray) (c : UInt8) : has s c = true ↔ c ∈ s.data.toList := by
  unfold has
  rw [index_takeWhile, decide_eq_true_iff]
  by_cases h : c ∈ s.data.toList
  · rw [if_pos h]; exact ⟨fun _ => h, fun _ => by omega⟩
  · rw [if_neg h]; exact ⟨fun h' => by omega, fun h' => absurd h' h⟩
theorem good_iff (x : S39) : good x = true ↔ x.f0.data.toList ≠ [] ∧ (61 : UInt8) ∉ x.f0.data.toList ∧ (10 : UInt8) ∉ x.f0.data.toList ∧ (0 : UInt8) ∉ x.f0.data.toList := by
  unfold good
  rw [toList_eq]
  have h1 := has_iff x.f0 61
  have h2 := has_iff x.f0 10
  have h3 := has_iff x.f0 0
  simp only [Bool.and_eq_true, Bool.not_eq_true', beq_eq_false_iff_ne]
  rw [← h1, ← h2, ← h3]
  simp only [Bool.not_eq_true]
  exact ⟨fun ⟨⟨⟨a, b⟩, c⟩, d⟩ => ⟨a, b, c, d⟩, fun ⟨a, b, c, d⟩ => ⟨⟨⟨a, b⟩, c⟩, d⟩⟩

theorem put_back : ∀ (l : List S39) (b : List UInt8) (t : ByteArray), putLoop l b = some (t, 0) → ∃ body, t.data.toList = b ++ body ∧ readS body.length body = some (l.map unR) ∧ l.length ≤ body.length
  | [], b, t, h => by
    rw [putLoop, Option.some.injEq] at h
    obtain ⟨rfl, _⟩ := Prod.mk.inj h
    exact ⟨[], by simp [strOf], rfl, Nat.le_refl _⟩
  | x :: l, b, t, h => by
    rw [putLoop] at h
    by_cases hg : good x = true
    · rw [if_pos hg] at h
      rw [good_iff] at hg
      cases hn : pax_Len.f x.f0 x.f1 with
      | none => rw [hn] at h; cases h
      | some n =>
        rw [hn] at h
        dsimp only at h
        split at h
        · injection h with h
          have := (Prod.mk.inj h).2
          exact absurd this (by decide)
        · obtain ⟨body, h1, h2, h3⟩ := put_back l _ t h
          have hlen := len_is hn
          have e0 := size_len x.f0
          have e1 := size_len x.f1
          obtain ⟨m, rfl⟩ : ∃ m : Nat, n = m := ⟨n.toNat, by omega⟩
          have hrl : (recL (m : Int) x.f0.data.toList x.f1.data.toList).length = m := by rw [recL_length]; omega
          refine ⟨recL m x.f0.data.toList x.f1.data.toList ++ body, ?_, ?_, ?_⟩
          · rw [h1, rec_data, List.append_assoc]
          · rw [List.length_append, hrl, show m + body.length = (m - 1 + body.length) + 1 by omega, readS, if_neg (by intro e; have := congrArg List.length e; rw [List.length_append, hrl] at this; simp at this; omega), oneS_rec hrl hg.1 hg.2.1]
            dsimp only
            rw [readS_more _ body.length body (by omega) (Nat.le_refl _), h2]
            rfl
          · rw [List.length_append, hrl, List.length_cons]; omega
    · rw [if_neg hg] at h
      injection h with h
      have := (Prod.mk.inj h).2
      exact absurd this (by decide)

theorem put_le : ∀ (l : List S39) (b : List UInt8) (t : ByteArray), putLoop l b = some (t, 0) → b.length ≤ 1048576 → t.size ≤ 1048576
  | [], b, t, h, hb => by
    rw [putLoop, Option.some.injEq] at h
    obtain ⟨rfl, _⟩ := Prod.mk.inj h
    rw [size_len]
    simpa [strOf] using hb
  | x :: l, b, t, h, hb => by
    rw [putLoop] at h
    split at h
    · split at h
      · cases h
      · rename_i n hn
        split at h
        · injection h with h
          have := (Prod.mk.inj h).2
          exact absurd this (by decide)
        · refine put_le l _ t h ?_
          have hlen := len_is hn
          have e0 := size_len x.f0
          have e1 := size_len x.f1
          rw [List.length_append, rec_data, recL_length]
          omega
    · injection h with h
      have := (Prod.mk.inj h).2
      exact absurd this (by decide)

theorem put_total : ∀ (l : List S39) (b : List UInt8), (∀ x ∈ l, x.f0.size ≤ 1000000000000 ∧ x.f1.size ≤ 1000000000000) → ∃ t e, putLoop l b = some (t, e)
  | [], b, h => ⟨_, _, rfl⟩
  | x :: l, b, h => by
    rw [putLoop]
    obtain ⟨n, hn⟩ := len_total x.f0 x.f1 (h x List.mem_cons_self).1 (h x List.mem_cons_self).2
    rw [hn]
    dsimp only
    split
    · split
      · exact ⟨_, _, rfl⟩
      · exact put_total l _ (fun y hy => h y (List.mem_cons_of_mem _ hy))
    · exact ⟨_, _, rfl⟩

theorem put_of_read : ∀ (n : Nat) (s : List UInt8) (l : List (List UInt8 × List UInt8)), readS n s = some l → (∀ p ∈ l, (10 : UInt8) ∉ p.1 ∧ (0 : UInt8) ∉ p.1) → ∀ b : List UInt8, b.length + s.length ≤ 1048576 → ∃ t, putLoop (l.map mkR) b = some (t, 0) ∧ t.size ≤ b.length + s.length
  | 0, s, l, h, hc, b, hb => by
    rw [readS] at h
    split at h
    · injection h with h
      subst h
      exact ⟨strOf b, rfl, by rw [size_len]; simp [strOf]⟩
    · cases h
  | n + 1, s, l, h, hc, b, hb => by
    rw [readS] at h
    split at h
    · injection h with h
      subst h
      exact ⟨strOf b, rfl, by rw [size_len]; simp [strOf]⟩
    · cases ho : oneS s with
      | none => rw [ho] at h; cases h
      | some p =>
        obtain ⟨k, v, r⟩ := p
        rw [ho] at h
        dsimp only at h
        cases hr : readS n r with
        | none => rw [hr] at h; cases h
        | some l' =>
          rw [hr, Option.map_some, Option.some.injEq] at h
          subst h
          obtain ⟨m, hs, hm, hk, h61⟩ := oneS_inv ho
          have hck := hc (k, v) List.mem_cons_self
          have hsl : s.length = m + r.length := by rw [hs, List.length_append, hm]
          have hml := recL_length (m : Int) k v
          obtain ⟨n', hn'⟩ := len_total ⟨k.toArray⟩ ⟨v.toArray⟩ (by rw [size_mk]; omega) (by rw [size_mk]; omega)
          have hle := len_least hn' (m : Int) (by rw [size_mk, size_mk]; omega) (by omega)
          have his := len_is hn'
          rw [size_mk, size_mk] at his
          obtain ⟨q, rfl⟩ : ∃ q : Nat, n' = q := ⟨n'.toNat, by omega⟩
          have hql : (recB (q : Int) (mkR (k, v))).data.toList.length = q := by
            rw [rec_data, recL_length]
            show _ + ((⟨k.toArray⟩ : ByteArray).data.toList.length + (⟨v.toArray⟩ : ByteArray).data.toList.length + 3) = q
            rw [data_mk, data_mk]
            omega
          obtain ⟨t, ht, hts⟩ := put_of_read n r l' hr (fun p hp => hc p (List.mem_cons_of_mem _ hp)) (b ++ (recB (q : Int) (mkR (k, v))).data.toList) (by rw [List.length_append, hql]; omega)
          refine ⟨t, ?_, ?_⟩
          · rw [List.map_cons, putLoop, if_pos ((good_iff _).2 ⟨hk, h61, hck.1, hck.2⟩)]
            show (match pax_Len.f ⟨k.toArray⟩ ⟨v.toArray⟩ with | none => none | some n => if n > 1048576 - (b.length : Int) then some ((⟨#[]⟩ : ByteArray), (1 : Int)) else putLoop (l'.map mkR) (b ++ (recB n (mkR (k, v))).data.toList)) = _
            rw [hn']
            dsimp only
            rw [if_neg (by omega)]
            exact ht
          · rw [List.length_append, hql] at hts
            omega
end Go.Proofs.YtfnicahlnpngkaaDoor.PaxPutOfPaxPuts

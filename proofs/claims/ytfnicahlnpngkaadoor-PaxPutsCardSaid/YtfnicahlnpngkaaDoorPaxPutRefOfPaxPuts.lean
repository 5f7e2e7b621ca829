/- The document's Len and PutRecords: they are pax.Len and pax.Put. PaxPuts -/
import Derived.Test.YtfnicahlnpngkaaDoorPaxPutOfPaxPuts
set_option linter.unusedVariables false
set_option linter.unusedSimpArgs false
namespace Go.Proofs.YtfnicahlnpngkaaDoor.PaxPutRefOfPaxPuts
open Go.RowKit Go.Proofs Go.Proofs.YtfnicahlnpngkaaDoorW.PrintWords Go.Proofs.YtfnicahlnpngkaaDoorW.PrintLast Go.Proofs.YtfnicahlnpngkaaDoorW.PrintMore Go.Proofs.YtfnicahlnpngkaaDoor.Base Go.Proofs.YtfnicahlnpngkaaDoor.DoorCut Go.Proofs.YtfnicahlnpngkaaDoor.DoorLen Go.Proofs.YtfnicahlnpngkaaDoor.DoorPutOfPaxPuts Go.Proofs.YtfnicahlnpngkaaDoor.PaxSem Go.Proofs.YtfnicahlnpngkaaDoor.PPaxPuts Go.Proofs.YtfnicahlnpngkaaDoor.PaxOneOfPaxPuts Go.Proofs.YtfnicahlnpngkaaDoor.PaxPutOfPaxPuts

theorem strOf_size (l : List UInt8) : (strOf l).size = l.length := by simp [strOf, ByteArray.size]
theorem itoa_f (n : Int) (h0 : 0 ≤ n) (h1 : n ≤ 9223372036854775807) : strconv_Itoa.f n = some (strOf (Lib.itoa n)) := by
  unfold strconv_Itoa.f; rw [if_pos ⟨by omega, h1⟩]

theorem rlen_go (bare r : Int) (h0 : 0 ≤ bare) (h1 : bare ≤ 3000000000000) (hr : bare + (Lib.itoa r).length = r) (hr0 : 0 ≤ r) (hr1 : r ≤ 4000000000000) (least : ∀ m : Int, bare + (Lib.itoa m).length = m → 0 ≤ m → r ≤ m) :
    ∀ (j k : Nat) (d : Int), 1 ≤ d → d + j = r - bare → j < k → stevedoreref23_Len.l0 k bare d = some r
  | j, 0, d, _, _, hk => absurd hk (by omega)
  | 0, k + 1, d, hd, he, hk => by
    have e : bare + d = r := by omega
    rw [stevedoreref23_Len.l0, wrap64_id (by omega) (by omega), e, itoa_f r hr0 (by omega), Option.bind_some, strOf_size, if_pos (by omega)]
  | j + 1, k + 1, d, hd, he, hk => by
    have hne : ¬ (((strOf (Lib.itoa (bare + d))).size : Int) = d) := fun h => by
      rw [strOf_size] at h
      have := least (bare + d) (by omega) (by omega)
      omega
    rw [stevedoreref23_Len.l0, wrap64_id (n := bare + d) (by omega) (by omega), itoa_f (bare + d) (by omega) (by omega), Option.bind_some, if_neg hne, wrap64_id (n := d + 1) (by omega) (by omega)]
    exact rlen_go bare r h0 h1 hr hr0 hr1 least j k (d + 1) (by omega) (by omega) (by omega)
theorem rlen_eq (a0 a1 : ByteArray) (h0 : a0.size ≤ 1000000000000) (h1 : a1.size ≤ 1000000000000) (k : Nat) (hk : 30 ≤ k) : ∃ n, pax_Len.f a0 a1 = some n ∧ stevedoreref23_Len.f k a0 a1 = some n ∧ (a0.size : Int) + a1.size + 4 ≤ n ∧ n ≤ (a0.size : Int) + a1.size + 24 := by
  obtain ⟨n, hn⟩ := len_total a0 a1 h0 h1
  have hi := len_is hn
  have hpos : 0 ≤ n := by omega
  have hl := itoa_pos n hpos
  have hle : n ≤ (a0.size : Int) + a1.size + 24 := by
    -- the least: the numeral of what is that great has 21 digits at most
    unfold pax_Len.f at hn
    rw [if_pos ⟨h0, h1⟩] at hn
    have key : ∀ (bare : Int), 0 ≤ bare → bare ≤ 3000000000000 → ∀ (k : Nat) (m r : Int), bare + 1 ≤ m → m ≤ bare + 21 → lenGo bare k m = some r → r ≤ bare + 21 := by
      intro bare hb0 hb1 k
      induction k with
      | zero => intro m r _ _ h; rw [lenGo] at h; cases h
      | succ k ih =>
        intro m r hm0 hm h
        have hlm := Lib.itoa_length_le m (by omega) (by omega)
        have hlp := itoa_pos m (by omega)
        rw [lenGo] at h
        split at h
        · injection h with h; omega
        · exact ih _ r (by omega) (by omega) h
    have := key ((a0.size : Int) + a1.size + 3) (by omega) (by omega) 100 _ n (by omega) (by omega) hn
    omega
  refine ⟨n, hn, ?_, by omega, hle⟩
  unfold stevedoreref23_Len.f
  rw [wrap64_id (n := (a0.size : Int) + a1.size) (by omega) (by omega), wrap64_id (by omega) (by omega)]
  exact rlen_go _ n (by omega) (by omega) hi hpos (by omega) (fun m hm hm0 => len_least hn m hm hm0) (n - ((a0.size : Int) + a1.size + 3) - 1).toNat k 1 (by omega) (by omega) (by omega)

theorem scan_go (x0 : List S39) (x4 : ByteArray) (x5 : Int) (f0 f1 : ByteArray) (hs : f0.size ≤ 140737488355328) : ∀ (r p : List UInt8) (k : Nat), f0.data.toList = p ++ r →
    stevedoreref23_PutRecords.l1 (k + r.length + 1) x0 x4 x5 (p.length : Int) f0 f1 = if (61 : UInt8) ∈ r ∨ (10 : UInt8) ∈ r ∨ (0 : UInt8) ∈ r then some (⟨#[]⟩, 1) else stevedoreref23_PutRecords.l1 (k + 1) x0 x4 x5 (f0.size : Int) f0 f1
  | [], p, k, hp => by
    have hz : f0.size = p.length := by rw [size_len, hp]; simp
    rw [if_neg (by simp), hz]
    rfl
  | c :: r, p, k, hp => by
    have hz : f0.size = p.length + (r.length + 1) := by rw [size_len, hp]; simp
    have hb := bt_mid hp
    have hpe : f0.data.toList = (p ++ [c]) ++ r := by rw [hp]; simp
    have hi1 : wrap64 ((p.length : Int) + 1) = ((p ++ [c]).length : Int) := by rw [wrap64_id (by omega) (by omega)]; simp
    rw [List.length_cons, show k + (r.length + 1) + 1 = (k + r.length + 1) + 1 by omega, stevedoreref23_PutRecords.l1, if_pos (by omega), if_pos (by omega), hb, hi1, scan_go x0 x4 x5 f0 f1 hs r (p ++ [c]) k hpe]
    by_cases h1 : c = 61
    · subst h1
      rw [if_pos (show (((61 : UInt8).toNat : Int) = 61) from rfl), if_pos (show _ from Or.inl List.mem_cons_self)]
    · rw [if_neg (show ¬ (c.toNat : Int) = 61 from fun h => h1 (u8_eq c 61 h))]
      by_cases h2 : c = 10
      · subst h2
        rw [if_pos (show (((10 : UInt8).toNat : Int) = 10) from rfl), if_pos (show _ from Or.inr (Or.inl List.mem_cons_self))]
      · rw [if_neg (show ¬ (c.toNat : Int) = 10 from fun h => h2 (u8_eq c 10 h))]
        by_cases h3 : c = 0
        · subst h3
          rw [if_pos (show (((0 : UInt8).toNat : Int) = 0) from rfl), if_pos (show _ from Or.inr (Or.inr List.mem_cons_self))]
        · rw [if_neg (show ¬ (c.toNat : Int) = 0 from fun h => h3 (u8_eq c 0 h))]
          by_cases hb2 : (61 : UInt8) ∈ r ∨ (10 : UInt8) ∈ r ∨ (0 : UInt8) ∈ r
          · have hb3 : (61 : UInt8) ∈ c :: r ∨ (10 : UInt8) ∈ c :: r ∨ (0 : UInt8) ∈ c :: r := hb2.imp (List.mem_cons_of_mem _) (Or.imp (List.mem_cons_of_mem _) (List.mem_cons_of_mem _))
            rw [if_pos hb2, if_pos hb3]
          · have hb3 : ¬ ((61 : UInt8) ∈ c :: r ∨ (10 : UInt8) ∈ c :: r ∨ (0 : UInt8) ∈ c :: r) := by
              rintro (h | h | h)
              · rcases List.mem_cons.1 h with h | h; exact h1 h.symm; exact hb2 (Or.inl h)
              · rcases List.mem_cons.1 h with h | h; exact h2 h.symm; exact hb2 (Or.inr (Or.inl h))
              · rcases List.mem_cons.1 h with h | h; exact h3 h.symm; exact hb2 (Or.inr (Or.inr h))
            rw [if_neg hb2, if_neg hb3]

theorem str_app (b c : List UInt8) : strOf (b ++ c) = strOf b ++ strOf c := by
  apply ByteArray.ext
  simp [strOf]
theorem str_data (s : ByteArray) : strOf s.data.toList = s := rfl
theorem recB_size (n : Int) (X : S39) : (recB n X).size = (Lib.itoa n).length + (X.f0.size + X.f1.size + 3) := by
  rw [size_len, rec_data, recL_length, ← size_len, ← size_len]

theorem put_go (l : List S39) (hl : l.length ≤ 1000) (hs : ∀ x ∈ l, x.f0.size ≤ 1048576 ∧ x.f1.size ≤ 1048576) (W : Nat) (hW : 1048700 ≤ W) : ∀ (j i k : Nat) (b : List UInt8), i + j = l.length → j * W + 1 ≤ k → b.length ≤ 1048576 →
    stevedoreref23_PutRecords.l0 k l (strOf b) (i : Int) = putLoop (l.drop i) b
  | 0, i, 0, b, hi, hk, hb => absurd hk (by omega)
  | 0, i, k + 1, b, hi, hk, hb => by
    rw [stevedoreref23_PutRecords.l0, if_neg (by omega), List.drop_of_length_le (by omega), putLoop]
  | j + 1, i, k, b, hi, hk, hb => by
    have hW2 : (j + 1) * W = j * W + W := Nat.succ_mul j W
    rw [hW2] at hk
    have hcat : (List.drop i l) = rd_T39 l (i : Int) :: l.drop (i + 1) := drop_rd l i (by omega)
    have hx := hs (rd_T39 l (i : Int)) (List.mem_of_mem_drop (i := i) (by rw [hcat]; exact List.mem_cons_self))
    have ih := put_go l hl hs W hW j (i + 1)
    generalize j * W = M at hk ih
    rw [hcat, putLoop]
    generalize hX : rd_T39 l (i : Int) = X at hx ⊢
    have hsl := size_len X.f0
    obtain ⟨k2, rfl⟩ : ∃ q, k = ((q + X.f0.data.toList.length + 1) + 1) + 1 := ⟨k - X.f0.data.toList.length - 3, by omega⟩
    have hk2 : M + 40 ≤ k2 := by omega
    clear hk
    rw [stevedoreref23_PutRecords.l0, if_pos (by omega), if_pos (by omega), hX, toList_eq]
    have hgi := good_iff X
    obtain ⟨n, hn, hrn, hn0, hn1⟩ := rlen_eq X.f0 X.f1 (by omega) (by omega) k2 (by omega)
    have hscan := scan_go l (strOf b) (i : Int) X.f0 X.f1 (by omega) X.f0.data.toList [] k2 rfl
    rw [List.length_nil, show ((0 : Nat) : Int) = 0 from rfl] at hscan
    by_cases he : X.f0.data.toList = []
    · have hg : ¬ good X = true := fun h => (hgi.1 h).1 he
      rw [if_pos he, if_neg hg, stevedoreref23_PutRecords.j1, if_pos rfl]
    · rw [if_neg he, if_neg (show ¬ (X.f0.size : Int) > 1048576 by omega), decide_eq_false (show ¬ (X.f1.size : Int) > 1048576 by omega), stevedoreref23_PutRecords.j1, if_neg (show ¬ (false = true) by decide), hscan]
      by_cases hbad : (61 : UInt8) ∈ X.f0.data.toList ∨ (10 : UInt8) ∈ X.f0.data.toList ∨ (0 : UInt8) ∈ X.f0.data.toList
      · have hg : ¬ good X = true := fun h => by
          have h' := hgi.1 h
          rcases hbad with h1 | h1 | h1
          · exact h'.2.1 h1
          · exact h'.2.2.1 h1
          · exact h'.2.2.2 h1
        rw [if_pos hbad, if_neg hg]
      · have hg : good X = true := hgi.2 ⟨he, fun h => hbad (Or.inl h), fun h => hbad (Or.inr (Or.inl h)), fun h => hbad (Or.inr (Or.inr h))⟩
        have hcatB : ((((((strOf b ++ strOf (Lib.itoa n)) ++ (⟨#[32]⟩ : ByteArray)) ++ X.f0) ++ (⟨#[61]⟩ : ByteArray)) ++ X.f1) ++ (⟨#[10]⟩ : ByteArray)) = strOf (b ++ (recB n X).data.toList) := by
          rw [str_app, str_data]
          unfold recB
          simp only [ByteArray.append_assoc]
        have hsz := recB_size n X
        have his := len_is hn
        have hlen : (recB n X).data.toList.length = (recB n X).size := (size_len _).symm
        have k1 : (⟨#[32]⟩ : ByteArray).size = 1 := rfl
        have k2' : (⟨#[61]⟩ : ByteArray).size = 1 := rfl
        have k3 : (⟨#[10]⟩ : ByteArray).size = 1 := rfl
        rw [if_neg hbad, if_pos hg, hn, stevedoreref23_PutRecords.l1, if_neg (show ¬ (X.f0.size : Int) < (X.f0.size : Int) by omega), hrn, Option.bind_some, itoa_f n (by omega) (by omega), Option.bind_some, hcatB]
        simp only [ByteArray.size_append, strOf_size, k1, k2', k3]
        rw [if_pos (by omega), if_pos (by omega), if_pos (by omega), if_pos (by omega), if_pos (by omega), if_pos (by omega)]
        by_cases hbig : n > 1048576 - (b.length : Int)
        · rw [if_pos (by rw [List.length_append, hlen]; omega), if_pos hbig]
        · rw [if_neg (by rw [List.length_append, hlen]; omega), if_neg hbig, wrap64_id (by omega) (by omega), show ((i : Int) + 1) = ((i + 1 : Nat) : Int) by omega]
          exact ih k2 _ (by omega) (by omega) (by rw [List.length_append, hlen]; omega)
theorem putRef_eq (l : List S39) (hs : ∀ x ∈ l, x.f0.size ≤ 1048576 ∧ x.f1.size ≤ 1048576) (k W : Nat) (hW : 1048700 ≤ W) (hk : 1000 * W + 1 ≤ k) : stevedoreref23_PutRecords.f k l = pax_Put.f l := by
  unfold stevedoreref23_PutRecords.f pax_Put.f
  by_cases hl : (l.length : Int) > 1000
  · rw [if_pos hl, if_pos hl]
  · rw [if_neg hl, if_neg hl]
    have h1 : l.length * W ≤ 1000 * W := Nat.mul_le_mul_right W (by omega)
    exact put_go l (by omega) hs W hW l.length 0 k [] (by omega) (by omega) (by simp)
end Go.Proofs.YtfnicahlnpngkaaDoor.PaxPutRefOfPaxPuts

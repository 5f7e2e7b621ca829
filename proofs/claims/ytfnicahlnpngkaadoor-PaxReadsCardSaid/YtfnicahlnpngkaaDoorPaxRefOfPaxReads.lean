/- The document's Decimal and Records: what they come to. PaxReads -/
import Derived.Test.YtfnicahlnpngkaaDoorPaxOneOfPaxReads
set_option linter.unusedVariables false
set_option linter.unusedSimpArgs false
namespace Go.Proofs.YtfnicahlnpngkaaDoor.PaxRefOfPaxReads
open Go.RowKit Go.Proofs Go.Proofs.YtfnicahlnpngkaaDoorW.PrintWords Go.Proofs.YtfnicahlnpngkaaDoorW.PrintLast Go.Proofs.YtfnicahlnpngkaaDoorW.PrintMore Go.Proofs.YtfnicahlnpngkaaDoor.Base Go.Proofs.YtfnicahlnpngkaaDoor.DoorCut Go.Proofs.YtfnicahlnpngkaaDoor.DoorLen Go.Proofs.YtfnicahlnpngkaaDoor.DoorPutOfPaxReads Go.Proofs.YtfnicahlnpngkaaDoor.PaxSem Go.Proofs.YtfnicahlnpngkaaDoor.PPaxReads Go.Proofs.YtfnicahlnpngkaaDoor.PaxOneOfPaxReads

theorem rdec_go (s : ByteArray) (hs : s.size ≤ 140737488355328) : ∀ (r p : List UInt8) (v : Int) (far : Bool) (k : Nat), s.data.toList = p ++ r → (far = false → v = (dval p : Int) ∧ v ≤ 4611686018427387904) → (far = true → 4611686018427387904 < dval p) → 2 * r.length < k →
    stevedoreref1_Decimal.l0 k s v far (p.length : Int) = some (if r.all isD = false then (0, 2) else if dval (p ++ r) > 4611686018427387904 then (0, 7) else ((dval (p ++ r) : Int), 0))
  | [], p, v, far, k + 1, hp, h0, h1, hk => by
    have hz : s.size = p.length := by rw [size_len, hp]; simp
    rw [stevedoreref1_Decimal.l0, if_neg (by omega)]
    simp only [List.all_nil, Bool.true_eq_false, if_false, List.append_nil]
    cases far with
    | true =>
      have := h1 rfl
      rw [if_pos rfl, if_pos (by omega)]
    | false =>
      obtain ⟨hv, hv2⟩ := h0 rfl
      rw [if_neg (by decide), if_neg (by omega), hv]
  | c :: r, p, v, far, k + 2, hp, h0, h1, hk => by
    have hz : s.size = p.length + (r.length + 1) := by rw [size_len, hp]; simp
    have hb := bt_mid hp
    have hsn := dval_snoc p c
    have hpe : s.data.toList = (p ++ [c]) ++ r := by rw [hp]; simp
    have hi1 : wrap64 ((p.length : Int) + 1) = ((p ++ [c]).length : Int) := by rw [wrap64_id (by omega) (by omega)]; simp
    rw [stevedoreref1_Decimal.l0, if_pos (by omega), if_pos (by omega), hb]
    by_cases hD : isD c = true
    · have hd := isD_bt hD
      have hc9 : c.toNat - 48 ≤ 9 ∧ 48 ≤ c.toNat := by omega
      rw [if_neg hd.1, decide_eq_false hd.2, stevedoreref1_Decimal.j1, if_neg (by decide), List.all_cons, hD, Bool.true_and, show p ++ c :: r = (p ++ [c]) ++ r by simp]
      cases far with
      | true =>
        have := h1 rfl
        rw [if_pos rfl, hi1]
        exact rdec_go s hs r (p ++ [c]) v true k hpe (fun h => by cases h) (fun _ => by omega) (by simp at hk; omega)
      | false =>
        obtain ⟨hv, hv2⟩ := h0 rfl
        rw [if_neg (by decide)]
        by_cases hf : v > 461168601842738790
        · rw [if_pos hf, hi1]
          exact rdec_go s hs r (p ++ [c]) v true k hpe (fun h => by cases h) (fun _ => by omega) (by simp at hk; omega)
        · rw [if_neg hf, if_pos (by omega), if_pos (by omega), hb, hi1, wrap64_id (n := v * 10) (by omega) (by omega), show ((c.toNat : Int) - 48) % 256 = (c.toNat : Int) - 48 by omega, wrap64_id (n := v * 10 + ((c.toNat : Int) - 48)) (by omega) (by omega)]
          by_cases hb2 : v * 10 + ((c.toNat : Int) - 48) > 4611686018427387904
          · rw [decide_eq_true hb2]
            exact rdec_go s hs r (p ++ [c]) _ true k hpe (fun h => by cases h) (fun _ => by omega) (by simp at hk; omega)
          · rw [decide_eq_false hb2]
            exact rdec_go s hs r (p ++ [c]) _ false k hpe (fun _ => ⟨by omega, by omega⟩) (fun h => by cases h) (by simp at hk; omega)
    · have hall : (c :: r).all isD = false := by rw [List.all_cons, Bool.eq_false_iff.mpr hD]; rfl
      rw [if_pos hall]
      have hn : (c.toNat : Int) < 48 ∨ ¬ (c.toNat : Int) < 48 ∧ (c.toNat : Int) > 57 := by
        rw [isD_iff] at hD; omega
      rcases hn with h | ⟨h, h'⟩
      · rw [if_pos h, stevedoreref1_Decimal.j1, if_pos rfl]
      · rw [if_neg h, decide_eq_true h', stevedoreref1_Decimal.j1, if_pos rfl]
  | [], p, v, far, 0, hp, h0, h1, hk => absurd hk (by omega)
  | c :: r, p, v, far, 0, hp, h0, h1, hk => absurd hk (by omega)
  | c :: r, p, v, far, 1, hp, h0, h1, hk => absurd hk (by simp)
theorem rdec_eq (s : ByteArray) (hs : s.size ≤ 140737488355328) (k : Nat) (hk : 2 * s.size < k) : stevedoreref1_Decimal.f k s = some (decS s.data.toList) := by
  have h := rdec_go s hs s.data.toList [] 0 false k rfl (fun _ => ⟨rfl, by omega⟩) (fun h => by cases h) (by rw [← size_len]; exact hk)
  unfold stevedoreref1_Decimal.f decS
  rw [List.length_nil] at h
  rw [show ((0 : Nat) : Int) = 0 from rfl] at h
  rw [h, List.nil_append, toList_eq]
  by_cases hn : s.data.toList = []
  · rw [if_pos hn, if_pos (Or.inl hn)]
  · rw [if_neg hn]
    congr 1
    by_cases ha : s.data.toList.all isD = false
    · rw [if_pos ha, if_pos (Or.inr ha)]
    · rw [if_neg ha, if_neg (show ¬ (s.data.toList = [] ∨ s.data.toList.all isD = false) from fun h => h.elim hn ha)]

/-! ### Records -/
theorem scan (s : ByteArray) (hs : s.size ≤ 140737488355328) (acc : List S39) : ∀ (r p : List UInt8) (k : Nat), s.data.toList = p ++ r →
    stevedoreref23_Records.l1 (k + (r.takeWhile isD).length + 1) s acc (p.length : Int) = stevedoreref23_Records.j2 k s acc ((p.length + (r.takeWhile isD).length : Nat) : Int)
  | [], p, k, hp => by
    have hz : s.size = p.length := by rw [size_len, hp]; simp
    show stevedoreref23_Records.l1 (k + 1) s acc (p.length : Int) = _
    rw [stevedoreref23_Records.l1, if_neg (by omega)]
    rfl
  | c :: r, p, k, hp => by
    have hz : s.size = p.length + (r.length + 1) := by rw [size_len, hp]; simp
    have hb := bt_mid hp
    rw [stevedoreref23_Records.l1, if_pos (by omega), if_pos (by omega), hb]
    by_cases hD : isD c = true
    · have hd := isD_bt hD
      rw [if_pos (by omega), if_pos (by omega), List.takeWhile_cons_of_pos hD]
      have hpe : s.data.toList = (p ++ [c]) ++ r := by rw [hp]; simp
      have hi1 : wrap64 ((p.length : Int) + 1) = ((p ++ [c]).length : Int) := by rw [wrap64_id (by omega) (by omega)]; simp
      rw [hi1, List.length_cons]
      have := scan s hs acc r (p ++ [c]) k hpe
      rw [show k + ((r.takeWhile isD).length + 1) = k + (r.takeWhile isD).length + 1 by omega, this]
      congr 1
      simp
      omega
    · have hn : (c.toNat : Int) < 48 ∨ ¬ (c.toNat : Int) < 48 ∧ (c.toNat : Int) > 57 := by
        rw [isD_iff] at hD; omega
      rw [List.takeWhile_cons_of_neg hD]
      rcases hn with h | ⟨h, h'⟩
      · rw [if_neg (by omega)]; rfl
      · rw [if_pos (by omega), if_neg (by omega)]; rfl

theorem find61 (x0 : ByteArray) (x4 : List S39) (x6 : Int) (b : ByteArray) (hb : b.size ≤ 140737488355328) (ha : x4.length < 4398046511104) (h6 : 0 ≤ x6) (h6' : x6 ≤ (x0.size : Int)) : ∀ (r p : List UInt8) (k : Nat), b.data.toList = p ++ r →
    stevedoreref23_Records.l2 (k + (r.takeWhile (· != 61)).length + 1) x0 x4 x6 b (p.length : Int) =
      if p.length + (r.takeWhile (· != 61)).length = 0 ∨ p.length + (r.takeWhile (· != 61)).length = b.size then some ([], 2)
      else stevedoreref23_Records.l0 k (x0.extract x6.toNat x0.size) (x4 ++ [⟨b.extract 0 (p.length + (r.takeWhile (· != 61)).length), b.extract (p.length + (r.takeWhile (· != 61)).length + 1) b.size⟩])
  | [], p, k, hp => by
    have hz : b.size = p.length := by rw [size_len, hp]; simp
    show stevedoreref23_Records.l2 (k + 1) x0 x4 x6 b (p.length : Int) = _
    rw [stevedoreref23_Records.l2, if_neg (by omega), show (([] : List UInt8).takeWhile (· != 61)).length = 0 from rfl]
    by_cases h0 : (p.length : Int) = 0
    · rw [if_pos h0, if_pos (Or.inl (show p.length + 0 = 0 by omega))]
    · rw [if_neg h0, if_pos (show (p.length : Int) ≥ (b.size : Int) by omega), if_pos (Or.inr (show p.length + 0 = b.size by omega))]
  | c :: r, p, k, hp => by
    have hz : b.size = p.length + (r.length + 1) := by rw [size_len, hp]; simp
    have hbt := bt_mid hp
    rw [stevedoreref23_Records.l2, if_pos (by omega), if_pos (by omega), hbt]
    by_cases hc : c = 61
    · subst hc
      have htw : ((61 : UInt8) :: r).takeWhile (· != 61) = [] := by simp [List.takeWhile]
      rw [if_pos (by rfl), htw]
      simp only [List.length_nil, Nat.add_zero]
      by_cases h0 : (p.length : Int) = 0
      · rw [if_pos h0, if_pos (Or.inl (by omega))]
      · rw [if_neg h0, if_neg (show ¬ (p.length : Int) ≥ (b.size : Int) by omega), if_pos (by omega), wrap64_id (n := (p.length : Int) + 1) (by omega) (by omega), if_pos (by omega), if_pos (by omega), if_pos ha, if_pos h6, if_pos h6', if_neg (show ¬ (p.length = 0 ∨ p.length = b.size) by omega), Int.toNat_natCast, show ((p.length : Int) + 1).toNat = p.length + 1 by omega]
    · have hne : ¬ (c.toNat : Int) = 61 := fun h => hc (u8_eq c 61 h)
      have hpe : b.data.toList = (p ++ [c]) ++ r := by rw [hp]; simp
      have hi1 : wrap64 ((p.length : Int) + 1) = ((p ++ [c]).length : Int) := by rw [wrap64_id (by omega) (by omega)]; simp
      have hpos : (fun x : UInt8 => x != 61) c = true := by simpa using hc
      rw [if_neg hne, hi1, List.takeWhile_cons_of_pos (p := fun x => x != 61) hpos, List.length_cons]
      have := find61 x0 x4 x6 b hb ha h6 h6' r (p ++ [c]) k hpe
      rw [show k + ((r.takeWhile (· != 61)).length + 1) = k + (r.takeWhile (· != 61)).length + 1 by omega, this]
      have e : (p ++ [c]).length + (r.takeWhile (· != 61)).length = p.length + ((r.takeWhile (· != 61)).length + 1) := by simp; omega
      rw [e]

theorem ext_take {s : ByteArray} {L : List UInt8} (hL : s.data.toList = L) (a b m : Nat) (h : b - a = m) : s.extract (a : Int).toNat (b : Int).toNat = ⟨((L.drop a).take m).toArray⟩ := by
  subst hL h
  exact Lib.extract_eq s a b
theorem facts {n d z : Nat} (h1 : d + 2 ≤ n) (h2 : n ≤ z) : n - 1 - (d + 1) = n - d - 2 ∧ (0 : Int) ≤ ((d + 1 : Nat) : Int) ∧ ((d + 1 : Nat) : Int) ≤ ((n - 1 : Nat) : Int) ∧ ((n - 1 : Nat) : Int) ≤ (z : Int) ∧ (0 : Int) ≤ ((n - 1 : Nat) : Int) ∧ ((n - 1 : Nat) : Int) < (z : Int) ∧ n - 1 < z ∧ n - d - 2 ≤ z := by omega
theorem step_eq (s : ByteArray) (hs : s.size ≤ 1000000000) (acc : List S39) (ha : acc.length < 4398046511104) (k : Nat) (hk : 4 * s.size + 20 ≤ k) (hne : s.data.toList ≠ []) :
    match oneS s.data.toList with
    | none => stevedoreref23_Records.l0 k s acc = some ([], 2)
    | some (a, b, c) => ∃ k', k - (2 * s.size + 10) ≤ k' ∧ stevedoreref23_Records.l0 k s acc = stevedoreref23_Records.l0 k' ⟨c.toArray⟩ (acc ++ [⟨⟨a.toArray⟩, ⟨b.toArray⟩⟩]) := by
  have hsl := size_len s
  have hbt := bt_get s
  have hex := Lib.extract_eq s
  have hsc := scan s (by omega) acc s.data.toList []
  generalize hL : s.data.toList = L at *
  have htl := takeWhile_len isD L
  have hspl := split_at isD L
  have hall := takeWhile_all (p := isD) L
  unfold oneS
  generalize hD : L.takeWhile isD = D at *
  obtain ⟨k1, rfl⟩ : ∃ q, k = (q + 1) + D.length + 1 + 1 := ⟨k - D.length - 3, by omega⟩
  have hk1 : 2 * s.size + 10 ≤ k1 := by omega
  have hk2 : (k1 + 1) + D.length + 1 + 1 ≤ k1 + s.size + 4 := by omega
  have hfu : ∀ j b : Nat, b ≤ L.length → k1 = j + 1 + b + 1 → (k1 + 1) + D.length + 1 + 1 - (2 * s.size + 10) ≤ j := fun j b h h' => by omega
  have hge : ∀ b : Nat, b ≤ L.length → ∃ j, k1 = j + 1 + b + 1 := fun b h => ⟨k1 - b - 2, by omega⟩
  rw [stevedoreref23_Records.l0, toList_eq, hL, if_neg hne]
  have h1 := hsc (k1 + 1) rfl
  rw [List.length_nil, Nat.zero_add, show ((0 : Nat) : Int) = 0 from rfl] at h1
  rw [h1, stevedoreref23_Records.j2, if_pos (by omega), if_pos (by omega)]
  have hDs : s.extract 0 (D.length : Int).toNat = ⟨D.toArray⟩ := by
    rw [hex, List.drop_zero, Nat.sub_zero, Int.toNat_natCast]
    congr 2
    conv => lhs; rw [hspl]
    rw [List.take_left']
    rfl
  rw [hDs, rdec_eq _ (by rw [size_mk]; omega) k1 (by rw [size_mk]; omega), Option.bind_some, data_mk]
  have bad : ∀ kk n, 1 ≤ kk → stevedoreref23_Records.j3 kk s acc (D.length : Int) n true = some ([], 2) := fun kk n h => by
    obtain ⟨kk, rfl⟩ : ∃ q, kk = q + 1 := ⟨kk - 1, by omega⟩
    rw [stevedoreref23_Records.j3, if_pos rfl]
  by_cases hDn : D = []
  · have hd : decS D = (0, 2) := by unfold decS; rw [if_pos (Or.inl hDn)]
    rw [hd]
    dsimp only
    rw [if_neg (by decide), bad k1 _ (by omega)]
    generalize L.drop D.length = Y
    cases Y with
    | nil => rfl
    | cons y Y =>
      dsimp only
      by_cases hy : y = 32
      · rw [if_pos hy, recTail_none (Or.inl hDn)]
      · rw [if_neg hy]
  · by_cases hbig : dval D > 4611686018427387904
    · have hd : decS D = (0, 7) := by unfold decS; rw [if_neg (fun h => h.elim hDn (by rw [hall]; simp)), if_pos hbig]
      rw [hd]
      dsimp only
      rw [if_neg (by decide), bad k1 _ (by omega)]
      generalize L.drop D.length = Y
      cases Y with
      | nil => rfl
      | cons y Y =>
        dsimp only
        by_cases hy : y = 32
        · rw [if_pos hy, recTail_none (Or.inr (Or.inr (Or.inl (by omega))))]
        · rw [if_neg hy]
    · have hd : decS D = ((dval D : Int), 0) := by unfold decS; rw [if_neg (fun h => h.elim hDn (by rw [hall]; simp)), if_neg hbig]
      rw [hd]
      dsimp only
      have hDl : 0 < D.length := List.length_pos_iff.2 hDn
      have hLl : 0 < L.length := by omega
      have hb0 := hbt 0 hLl
      rw [show ((0 : Nat) : Int) = 0 from rfl] at hb0
      have hh : D.head? = some L[0] := by
        have e1 : L[0]? = D[0]? := by
          conv => lhs; rw [hspl]
          exact List.getElem?_append_left hDl
        rw [List.head?_eq_getElem?, ← e1, List.getElem?_eq_getElem hLl]
      rw [if_pos rfl, if_pos (by omega), hb0]
      by_cases h48 : ((L[0]).toNat : Int) = 48
      · rw [if_pos h48, bad k1 _ (by omega)]
        generalize L.drop D.length = Y
        cases Y with
        | nil => rfl
        | cons y Y =>
          dsimp only
          by_cases hy : y = 32
          · rw [if_pos hy, recTail_none (Or.inr (Or.inl (by rw [hh, u8_eq _ 48 h48])))]
          · rw [if_neg hy]
      · rw [if_neg h48]
        by_cases hlong : L.length < dval D
        · rw [if_pos (by omega), bad k1 _ (by omega)]
          generalize L.drop D.length = Y
          cases Y with
          | nil => rfl
          | cons y Y =>
            dsimp only
            by_cases hy : y = 32
            · rw [if_pos hy, recTail_none (Or.inr (Or.inr (Or.inl hlong)))]
            · rw [if_neg hy]
        · rw [if_neg (by omega), wrap64_id (n := (D.length : Int) + 2) (by omega) (by omega)]
          by_cases hsh : dval D < D.length + 2
          · rw [if_pos (by omega), bad k1 _ (by omega)]
            generalize L.drop D.length = Y
            cases Y with
            | nil => rfl
            | cons y Y =>
              dsimp only
              by_cases hy : y = 32
              · rw [if_pos hy, recTail_none (Or.inr (Or.inr (Or.inr (Or.inl hsh))))]
              · rw [if_neg hy]
          · obtain ⟨hsub, f1, f2, f3, f4, f5, f6, f7⟩ := facts (n := dval D) (d := D.length) (z := L.length) (by omega) (by omega)
            rw [← hsl] at f3 f5
            have hlt0 : D.length < L.length := by omega
            have hX : L.drop D.length = L[D.length] :: L.drop (D.length + 1) := List.drop_eq_getElem_cons hlt0
            rw [if_neg (by omega), if_pos (by omega), hbt D.length hlt0, hX]
            dsimp only
            by_cases h32 : L[D.length] = 32
            · have hw1 : wrap64 ((dval D : Int) - 1) = ((dval D - 1 : Nat) : Int) := by rw [wrap64_id (by omega) (by omega)]; omega
              have hlt : dval D - 1 < L.length := f6
              rw [if_pos h32, if_pos (show ((L[D.length]).toNat : Int) = 32 by rw [h32]; first | done | rfl), hw1, if_pos f4, if_pos f5, hbt (dval D - 1) hlt]
              by_cases h10 : ((L[dval D - 1]).toNat : Int) = 10
              · have hg : ¬ (D = [] ∨ D.head? = some 48 ∨ L.length < dval D ∨ dval D < D.length + 2 ∨ L[dval D - 1]? ≠ some 10) := by
                  rintro (h | h | h | h | h)
                  · exact hDn h
                  · rw [hh] at h
                    injection h with h
                    rw [h] at h48
                    exact h48 rfl
                  · exact hlong h
                  · exact hsh h
                  · rw [List.getElem?_eq_getElem hlt, u8_eq _ 10 h10] at h
                    exact h rfl
                have hw2 : wrap64 ((D.length : Int) + 1) = ((D.length + 1 : Nat) : Int) := by rw [wrap64_id (by omega) (by omega)]; omega
                unfold recTail
                rw [if_neg hg, show (((L[dval D - 1]).toNat : Int) != 10) = false from bne_eq_false_iff_eq.mpr h10]
                have hbody := ext_take hL (D.length + 1) (dval D - 1) _ hsub
                have hBl : ((L.drop (D.length + 1)).take (dval D - D.length - 2)).length ≤ L.length :=
                  Nat.le_trans (List.length_take_le _ _) f7
                have htB0 := takeWhile_len (· != 61) ((L.drop (D.length + 1)).take (dval D - D.length - 2))
                obtain ⟨k3, hk3⟩ := hge (((L.drop (D.length + 1)).take (dval D - D.length - 2)).takeWhile (· != 61)).length (Nat.le_trans htB0 hBl)
                have hfu3 := hfu k3 _ (Nat.le_trans htB0 hBl) hk3
                clear hk hk1 hk2 hfu hge
                subst hk3
                rw [stevedoreref23_Records.j3, if_neg (show ¬ (false = true) by decide), hw1, hw2, if_pos f1, if_pos f2, if_pos f3, hbody]
                generalize (L.drop (D.length + 1)).take (dval D - D.length - 2) = B at *
                have hf := find61 s acc (dval D : Int) ⟨B.toArray⟩ (by rw [size_mk]; omega) ha (by omega) (by omega) B [] k3 rfl
                rw [List.length_nil, Nat.zero_add, show ((0 : Nat) : Int) = 0 from rfl, size_mk] at hf
                rw [show k3 + 1 + (B.takeWhile (· != 61)).length = k3 + (B.takeWhile (· != 61)).length + 1 from Nat.add_right_comm _ _ _, hf]
                dsimp only
                by_cases hke : B.takeWhile (· != 61) = []
                · have c1 : B.takeWhile (· != 61) = [] ∨ (B.takeWhile (· != 61)).length = B.length := Or.inl hke
                  have c2 : (B.takeWhile (· != 61)).length = 0 ∨ (B.takeWhile (· != 61)).length = B.length := Or.inl (by rw [hke]; rfl)
                  rw [if_pos c1, if_pos c2]
                · by_cases hfl : (B.takeWhile (· != 61)).length = B.length
                  · have c1 : B.takeWhile (· != 61) = [] ∨ (B.takeWhile (· != 61)).length = B.length := Or.inr hfl
                    have c2 : (B.takeWhile (· != 61)).length = 0 ∨ (B.takeWhile (· != 61)).length = B.length := Or.inr hfl
                    rw [if_pos c1, if_pos c2]
                  · have hg1 : ¬ (B.takeWhile (· != 61) = [] ∨ (B.takeWhile (· != 61)).length = B.length) := fun h => h.elim hke hfl
                    have hg2 : ¬ ((B.takeWhile (· != 61)).length = 0 ∨ (B.takeWhile (· != 61)).length = B.length) := fun h => h.elim (fun h => hke (List.length_eq_zero_iff.1 h)) hfl
                    rw [if_neg hg1, if_neg hg2]
                    dsimp only
                    refine ⟨k3, (by rw [show k3 + (B.takeWhile (· != 61)).length + 1 = k3 + 1 + (B.takeWhile (· != 61)).length from Nat.add_right_comm _ _ _]; exact hfu3), ?_⟩
                    have e1 : s.extract (dval D : Int).toNat s.size = ⟨(L.drop (dval D)).toArray⟩ := by
                      rw [hex, Int.toNat_natCast]
                      congr 2
                      exact List.take_of_length_le (by rw [List.length_drop]; omega)
                    have e2 : (⟨B.toArray⟩ : ByteArray).extract 0 (B.takeWhile (· != 61)).length = ⟨(B.takeWhile (· != 61)).toArray⟩ := by
                      rw [Lib.extract_eq, data_mk, List.drop_zero, Nat.sub_zero]
                      congr 2
                      conv => lhs; rw [split_at (· != 61) B]
                      rw [List.take_left']
                      rw [← split_at]
                    have e3 : (⟨B.toArray⟩ : ByteArray).extract ((B.takeWhile (· != 61)).length + 1) B.length = ⟨(B.drop ((B.takeWhile (· != 61)).length + 1)).toArray⟩ := by
                      rw [Lib.extract_eq, data_mk]
                      congr 2
                      exact List.take_of_length_le (by rw [List.length_drop]; exact Nat.le_refl _)
                    rw [e1, e2, e3]
              · rw [recTail_none (Or.inr (Or.inr (Or.inr (Or.inr (by
                    rw [List.getElem?_eq_getElem hlt]
                    intro h
                    injection h with h
                    rw [h] at h10
                    exact h10 rfl)))))]
                dsimp only
                rw [show (((L[dval D - 1]).toNat : Int) != 10) = true from bne_iff_ne.mpr h10, bad k1 _ (by omega)]
            · rw [if_neg h32, if_neg (show ¬ ((L[D.length]).toNat : Int) = 32 from fun h => h32 (u8_eq _ 32 h)), bad k1 _ (by omega)]

theorem records_go (N W : Nat) (hN : N ≤ 2000000) (hW : 4 * N + 30 ≤ W) : ∀ (n : Nat) (L : List UInt8) (acc : List S39) (k : Nat), L.length ≤ n → n ≤ N → acc.length + n ≤ N → (n + 1) * W ≤ k →
    stevedoreref23_Records.l0 k ⟨L.toArray⟩ acc = some (match readS n L with | some l => (acc ++ l.map mkR, 0) | none => ([], 2)) := by
  intro n
  induction n with
  | zero =>
    intro L acc k hn hn2 ha hk
    have : L = [] := List.length_eq_zero_iff.1 (by omega)
    subst this
    obtain ⟨k, rfl⟩ : ∃ q, k = q + 1 := ⟨k - 1, by omega⟩
    rw [stevedoreref23_Records.l0, toList_eq, data_mk, if_pos rfl, readS, if_pos rfl]
    simp
  | succ n ih =>
    intro L acc k hn hn2 ha hk
    have hmul : (n + 1 + 1) * W = (n + 1) * W + W := Nat.succ_mul _ _
    rw [hmul] at hk
    generalize hM : (n + 1) * W = M at hk ih
    rw [readS]
    by_cases hL : L = []
    · subst hL
      obtain ⟨k, rfl⟩ : ∃ q, k = q + 1 := ⟨k - 1, by omega⟩
      rw [stevedoreref23_Records.l0, toList_eq, data_mk, if_pos rfl, if_pos rfl]
      simp
    · rw [if_neg hL]
      have hst := step_eq ⟨L.toArray⟩ (by rw [size_mk]; omega) acc (by omega) k (by rw [size_mk]; omega) hL
      rw [data_mk, size_mk] at hst
      cases ho : oneS L with
      | none =>
        rw [ho] at hst
        exact hst
      | some t =>
        obtain ⟨a, b, c⟩ := t
        rw [ho] at hst
        obtain ⟨k', hk', he⟩ := hst
        have hsh := oneS_shorter ho
        rw [he]
        dsimp only
        rw [ih c _ k' (by omega) (by omega) (by simp; omega) (by omega)]
        cases readS n c with
        | none => rfl
        | some l => simp [mkR]
theorem records_eq (N W : Nat) (hN : N ≤ 2000000) (hW : 4 * N + 30 ≤ W) (s : ByteArray) (hs : s.size ≤ N) (k : Nat) (hk : (N + 1) * W ≤ k) : stevedoreref23_Records.f k s = some (readR s.data.toList) := by
  have hl := size_len s
  have h := records_go N W hN hW s.data.toList.length s.data.toList [] k (Nat.le_refl _) (by omega) (by simp; omega) (Nat.le_trans (Nat.mul_le_mul_right W (show s.data.toList.length + 1 ≤ N + 1 by omega)) hk)
  unfold stevedoreref23_Records.f readR
  rw [mk_data] at h
  rw [h]
  cases readS s.data.toList.length s.data.toList with
  | none => rfl
  | some l => simp
end Go.Proofs.YtfnicahlnpngkaaDoor.PaxRefOfPaxReads

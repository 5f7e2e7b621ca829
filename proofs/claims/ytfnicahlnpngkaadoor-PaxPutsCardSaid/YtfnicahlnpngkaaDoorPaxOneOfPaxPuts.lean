/- num.Decimal, pax.one, pax.Read: what they come to. PaxPuts: the printed namespace. -/
import Derived.Test.YtfnicahlnpngkaaDoorPPaxPutsx
import Derived.Test.YtfnicahlnpngkaaDoorPaxSem
set_option linter.unusedVariables false
set_option linter.unusedSimpArgs false
namespace Go.Proofs.YtfnicahlnpngkaaDoor.PaxOneOfPaxPuts
open Go.RowKit Go.Proofs Go.Proofs.YtfnicahlnpngkaaDoorW.PrintWords Go.Proofs.YtfnicahlnpngkaaDoorW.PrintLast Go.Proofs.YtfnicahlnpngkaaDoorW.PrintMore Go.Proofs.YtfnicahlnpngkaaDoor.Base Go.Proofs.YtfnicahlnpngkaaDoor.DoorCut Go.Proofs.YtfnicahlnpngkaaDoor.DoorLen Go.Proofs.YtfnicahlnpngkaaDoor.DoorPutOfPaxPuts Go.Proofs.YtfnicahlnpngkaaDoor.PaxSem Go.Proofs.YtfnicahlnpngkaaDoor.PPaxPuts

theorem size_len (s : ByteArray) : s.size = s.data.toList.length := Lib.size_eq s
theorem bt_mid {s : ByteArray} {p r : List UInt8} {c : UInt8} (h : s.data.toList = p ++ c :: r) : bt s (p.length : Int) = (c.toNat : Int) := by
  have hl : p.length < s.size := by rw [size_len, h]; simp
  unfold bt
  rw [dif_pos (by simpa using hl)]
  have : s[((p.length : Nat) : Int).toNat]'(by simpa using hl) = c := by
    have e : s[((p.length : Nat) : Int).toNat]'(by simpa using hl) = s.data.toList[p.length]'(by rw [← size_len]; exact hl) := rfl
    rw [e]
    simp only [h, List.getElem_append_right (Nat.le_refl _), Nat.sub_self, List.getElem_cons_zero]
  rw [this]
theorem isD_bt {c : UInt8} (h : isD c = true) : ¬ (c.toNat : Int) < 48 ∧ ¬ (c.toNat : Int) > 57 := by
  rw [isD_iff] at h; omega

theorem dec_go (s : ByteArray) (hs : s.size ≤ 140737488355328) : ∀ (r p : List UInt8) (v : Int) (far : Bool) (k : Nat), s.data.toList = p ++ r → (far = false → v = (dval p : Int) ∧ v ≤ 4611686018427387909) → (far = true → 4611686018427387904 < dval p) → 2 * r.length < k →
    num_Decimal.l0 k s v far (s.size : Int) (p.length : Int) = some (if r.all isD = false ∨ s.data.toList = [] then (0, 2) else if dval (p ++ r) > 4611686018427387904 then (0, 7) else ((dval (p ++ r) : Int), 0))
  | [], p, v, far, k + 1, hp, h0, h1, hk => by
    have hz : s.size = p.length := by rw [size_len, hp]; simp
    rw [num_Decimal.l0, if_neg (by omega), toList_eq]
    simp only [List.all_nil, Bool.true_eq_false, false_or, List.append_nil]
    by_cases he : s.data.toList = []
    · rw [if_pos he, if_pos he]
    · rw [if_neg he, if_neg he]
      cases far with
      | true =>
        have := h1 rfl
        rw [if_pos rfl, if_pos (by omega)]
      | false =>
        obtain ⟨hv, hv2⟩ := h0 rfl
        rw [if_neg (by decide)]
        by_cases hb : v > 4611686018427387904
        · rw [if_pos hb, if_pos (by omega)]
        · rw [if_neg hb, if_neg (by omega), wrap64_id (by omega) (by omega), hv]
  | c :: r, p, v, far, k + 2, hp, h0, h1, hk => by
    have hz : s.size = p.length + (r.length + 1) := by rw [size_len, hp]; simp
    have hb := bt_mid hp
    have hne : s.data.toList ≠ [] := by rw [hp]; simp
    have hsn := dval_snoc p c
    have hpe : s.data.toList = (p ++ [c]) ++ r := by rw [hp]; simp
    have hi1 : wrap64 ((p.length : Int) + 1) = ((p ++ [c]).length : Int) := by rw [wrap64_id (by omega) (by omega)]; simp
    rw [num_Decimal.l0, if_pos (by omega), if_pos (by omega), if_pos (by omega), hb]
    by_cases hD : isD c = true
    · have hd := isD_bt hD
      have hc9 : c.toNat - 48 ≤ 9 ∧ 48 ≤ c.toNat := by omega
      rw [if_neg hd.1, decide_eq_false hd.2, num_Decimal.j1, if_neg (by decide), List.all_cons, hD, Bool.true_and, show p ++ c :: r = (p ++ [c]) ++ r by simp]
      cases far with
      | true =>
        have := h1 rfl
        rw [if_pos rfl, hi1]
        exact dec_go s hs r (p ++ [c]) v true k hpe (fun h => by cases h) (fun _ => by omega) (by simp at hk; omega)
      | false =>
        obtain ⟨hv, hv2⟩ := h0 rfl
        rw [if_neg (by decide)]
        by_cases hf : v > 461168601842738790
        · rw [if_pos hf, decide_eq_true hf, hi1]
          exact dec_go s hs r (p ++ [c]) v true k hpe (fun h => by cases h) (fun _ => by omega) (by simp at hk; omega)
        · rw [if_neg hf, decide_eq_false hf, if_pos (by omega), if_pos (by omega), hb, hi1, wu64 (n := v * 10) (by omega) (by omega), show ((c.toNat : Int) - 48) % 256 = (c.toNat : Int) - 48 by omega, wu64 (by omega) (by omega)]
          exact dec_go s hs r (p ++ [c]) _ false k hpe (fun _ => ⟨by omega, by omega⟩) (fun h => by cases h) (by simp at hk; omega)
    · have hall : (c :: r).all isD = false := by rw [List.all_cons, Bool.eq_false_iff.mpr hD]; rfl
      rw [if_pos (show (c :: r).all isD = false ∨ s.data.toList = [] from Or.inl hall)]
      have hn : (c.toNat : Int) < 48 ∨ ¬ (c.toNat : Int) < 48 ∧ (c.toNat : Int) > 57 := by
        rw [isD_iff] at hD; omega
      rcases hn with h | ⟨h, h'⟩
      · rw [if_pos h, num_Decimal.j1, if_pos rfl]
      · rw [if_neg h, decide_eq_true h', num_Decimal.j1, if_pos rfl]
  | [], p, v, far, 0, hp, h0, h1, hk => absurd hk (by omega)
  | c :: r, p, v, far, 0, hp, h0, h1, hk => absurd hk (by omega)
  | c :: r, p, v, far, 1, hp, h0, h1, hk => absurd hk (by simp)
theorem dec_eq (s : ByteArray) (hs : s.size ≤ 140737488355328) (k : Nat) (hk : 2 * s.size < k) : num_Decimal.f k s = some (decS s.data.toList) := by
  have h := dec_go s hs s.data.toList [] 0 false k rfl (fun _ => ⟨rfl, by omega⟩) (fun h => by cases h) (by rw [← size_len]; exact hk)
  unfold num_Decimal.f decS
  rw [List.length_nil] at h
  rw [show ((0 : Nat) : Int) = 0 from rfl] at h
  rw [h, List.nil_append]
  congr 1
  by_cases ha : s.data.toList.all isD = false
  · rw [if_pos (.inl ha), if_pos (.inr ha)]
  · by_cases hn : s.data.toList = []
    · rw [if_pos (.inr hn), if_pos (.inl hn)]
    · rw [if_neg (show ¬ (s.data.toList.all isD = false ∨ s.data.toList = []) from fun h => h.elim ha hn), if_neg (show ¬ (s.data.toList = [] ∨ s.data.toList.all isD = false) from fun h => h.elim hn ha)]

/-! ### pax.one -/
theorem not_isD_32 : isD 32 = false := by decide
theorem takeWhile_first {p : UInt8 → Bool} : ∀ (l : List UInt8), l.all p = true → ∀ (c : UInt8) (r : List UInt8), p c = false → (l ++ c :: r).takeWhile p = l
  | [], _, c, r, hc => by simp [List.takeWhile, hc]
  | a :: l, h, c, r, hc => by
    rw [List.all_cons, Bool.and_eq_true] at h
    rw [List.cons_append, List.takeWhile_cons_of_pos h.1, takeWhile_first l h.2 c r hc]
theorem takeWhile_all {p : UInt8 → Bool} (l : List UInt8) : (l.takeWhile p).all p = true := by
  induction l with
  | nil => rfl
  | cons a l ih =>
    cases h : p a with
    | true => rw [List.takeWhile_cons_of_pos h, List.all_cons, h, ih]; rfl
    | false => rw [List.takeWhile_cons_of_neg (by simp [h])]; rfl
theorem takeWhile_len (p : UInt8 → Bool) (l : List UInt8) : (l.takeWhile p).length ≤ l.length := (List.takeWhile_prefix p).length_le
theorem split_at (p : UInt8 → Bool) (l : List UInt8) : l = l.takeWhile p ++ l.drop (l.takeWhile p).length :=
  (List.prefix_iff_eq_append.1 (List.takeWhile_prefix p)).symm

/-- strings.Cut at one byte, on lists. -/
theorem cut_eq (s : ByteArray) (c : UInt8) : cutAt s c = if c ∈ s.data.toList then (⟨(s.data.toList.takeWhile (· != c)).toArray⟩, ⟨(s.data.toList.drop ((s.data.toList.takeWhile (· != c)).length + 1)).toArray⟩, true) else (s, ⟨#[]⟩, false) := by
  unfold cutAt
  rw [index_takeWhile]
  by_cases h : c ∈ s.data.toList
  · rw [if_pos h, if_pos h, if_pos (by omega)]
    have hle := takeWhile_len (· != c) s.data.toList
    congr 1
    · rw [Lib.extract_eq, List.drop_zero, Nat.sub_zero, Int.toNat_natCast]
      congr 2
      conv => lhs; rw [split_at (· != c) s.data.toList]
      rw [List.take_left']
      rw [← split_at]
    · congr 1
      rw [Lib.extract_eq]
      congr 2
      rw [show (((s.data.toList.takeWhile (· != c)).length : Int) + 1).toNat = (s.data.toList.takeWhile (· != c)).length + 1 by omega]
      exact List.take_of_length_le (by rw [List.length_drop, size_len]; exact Nat.le_refl _)
  · rw [if_neg h, if_neg h, if_neg (by omega)]

/-- what pax.one answers. -/
def OneIs (r : ByteArray × ByteArray × ByteArray × Bool) : Option (List UInt8 × List UInt8 × List UInt8) → Prop
  | none => r.2.2.2 = false
  | some (k, v, t) => r = (⟨k.toArray⟩, ⟨v.toArray⟩, ⟨t.toArray⟩, true)
theorem mk_data (s : ByteArray) : (⟨s.data.toList.toArray⟩ : ByteArray) = s := rfl
theorem size_mk (l : List UInt8) : (⟨l.toArray⟩ : ByteArray).size = l.length := by simp [ByteArray.size]
theorem data_mk (l : List UInt8) : (⟨l.toArray⟩ : ByteArray).data.toList = l := rfl
theorem bt_get (s : ByteArray) (i : Nat) (h : i < s.data.toList.length) : bt s (i : Int) = ((s.data.toList[i]).toNat : Int) := by
  unfold bt
  rw [dif_pos (by rw [size_len]; simpa using h)]
  rfl
theorem u8_eq (a b : UInt8) (h : (a.toNat : Int) = (b.toNat : Int)) : a = b := UInt8.toNat_inj.1 (by omega)

theorem drop_first (c : UInt8) : ∀ L : List UInt8, c ∈ L → ∃ X, L.drop (L.takeWhile (· != c)).length = c :: X
  | [], h => by simp at h
  | a :: L, h => by
    by_cases e : a = c
    · subst e
      exact ⟨L, by simp [List.takeWhile]⟩
    · have hm : c ∈ L := by
        rcases List.mem_cons.1 h with h | h
        · exact absurd h.symm e
        · exact h
      obtain ⟨X, hX⟩ := drop_first c L hm
      exact ⟨X, by rw [List.takeWhile_cons_of_pos (by simpa using e), List.length_cons, List.drop_succ_cons, hX]⟩
theorem first_bad {p : UInt8 → Bool} : ∀ D : List UInt8, D.all p = false → ∃ P d Q, D = P ++ d :: Q ∧ P.all p = true ∧ p d = false
  | [], h => by simp at h
  | a :: D, h => by
    cases ha : p a with
    | false => exact ⟨[], a, D, rfl, rfl, ha⟩
    | true =>
      rw [List.all_cons, ha, Bool.true_and] at h
      obtain ⟨P, d, Q, e, h1, h2⟩ := first_bad D h
      exact ⟨a :: P, d, Q, by rw [e]; rfl, by rw [List.all_cons, ha, h1]; rfl, h2⟩
theorem oneS_bad {D Y : List UInt8} (h : D.all isD = false) (h32 : (32 : UInt8) ∉ D) : oneS (D ++ Y) = none := by
  obtain ⟨P, d, Q, rfl, h1, h2⟩ := first_bad D h
  unfold oneS
  rw [List.append_assoc, List.cons_append, takeWhile_first P h1 d (Q ++ Y) h2, List.drop_left']
  · dsimp only
    rw [if_neg]
    rintro rfl
    exact h32 (by simp)
  · rfl
theorem oneS_no {L : List UInt8} (h32 : (32 : UInt8) ∉ L) : oneS L = none := by
  unfold oneS
  split
  · rfl
  · rename_i b X hb
    rw [if_neg]
    rintro rfl
    exact h32 (List.mem_of_mem_drop (by rw [hb]; exact List.mem_cons_self))
theorem not_mem_takeWhile (c : UInt8) (L : List UInt8) : c ∉ L.takeWhile (· != c) := by
  intro h
  have := List.all_eq_true.1 (takeWhile_all (p := (· != c)) L) c h
  simp at this
theorem takeWhile_full (c : UInt8) : ∀ L : List UInt8, (L.takeWhile (· != c)).length = L.length ↔ c ∉ L
  | [] => by simp
  | a :: L => by
    by_cases e : a = c
    · subst e; simp
    · rw [List.takeWhile_cons_of_pos (by simpa using e), List.length_cons, List.length_cons, List.mem_cons]
      have := takeWhile_full c L
      constructor
      · intro h h'
        rcases h' with h' | h'
        · exact e h'.symm
        · exact this.1 (by omega) h'
      · intro h
        have := this.2 (fun h' => h (.inr h'))
        omega

theorem recTail_none {s ds X : List UInt8} (h : ds = [] ∨ ds.head? = some 48 ∨ s.length < dval ds ∨ dval ds < ds.length + 2 ∨ s[dval ds - 1]? ≠ some 10) : recTail s ds X = none := by unfold recTail; rw [if_pos h]
theorem one_eq (s : ByteArray) (hs : s.size ≤ 140737488355328) (k : Nat) (hk : 2 * s.size < k) : ∃ r, pax_one.f k s = some r ∧ OneIs r (oneS s.data.toList) := by
  have hsl := size_len s
  have hbt := bt_get s
  have hex := Lib.extract_eq s
  generalize hL : s.data.toList = L at *
  unfold pax_one.f strings_Cut.f
  have e32 : (⟨#[32]⟩ : ByteArray).data.toList = [32] := rfl
  have e61 : (⟨#[61]⟩ : ByteArray).data.toList = [61] := rfl
  rw [e32]
  dsimp only
  rw [if_pos (by omega), Option.bind_some, cut_eq, hL]
  by_cases h32 : (32 : UInt8) ∈ L
  · rw [if_pos h32]
    dsimp only
    have htl := takeWhile_len (· != 32) L
    have hspl := split_at (· != 32) L
    have hnm := not_mem_takeWhile 32 L
    obtain ⟨X, hX⟩ := drop_first 32 L h32
    generalize hD : L.takeWhile (· != 32) = D at *
    rw [hX] at hspl
    rw [dec_eq _ (by rw [size_mk]; omega) k (by rw [size_mk]; omega), Option.bind_some, data_mk, if_pos rfl]
    cases hall : D.all isD with
    | false =>
      have hbad : oneS L = none := by rw [hspl]; exact oneS_bad hall hnm
      have hd : decS D = (0, 2) := by unfold decS; rw [if_pos (.inr hall)]
      rw [hd, hbad]
      dsimp only
      rw [if_neg (by decide)]
      exact ⟨_, rfl, rfl⟩
    | true =>
      have hone : oneS L = recTail L D X := by
        unfold oneS
        have : L.takeWhile isD = D := by
          conv => lhs; rw [hspl]
          exact takeWhile_first D hall 32 X (by decide)
        rw [this, hX]
        dsimp only
        rw [if_pos rfl]
      rw [hone]
      by_cases hDn : D = []
      · rw [recTail_none (Or.inl hDn)]
        have hd : decS D = (0, 2) := by unfold decS; rw [if_pos (Or.inl hDn)]
        rw [hd]
        dsimp only
        rw [if_neg (by decide)]
        exact ⟨_, rfl, rfl⟩
      · by_cases hbig : dval D > 4611686018427387904
        · have hd : decS D = (0, 7) := by unfold decS; rw [if_neg (fun h => h.elim hDn (by rw [hall]; simp)), if_pos hbig]
          rw [hd, recTail_none (Or.inr (Or.inr (Or.inl (by omega))))]
          dsimp only
          rw [if_neg (by decide)]
          exact ⟨_, rfl, rfl⟩
        · have hd : decS D = ((dval D : Int), 0) := by unfold decS; rw [if_neg (fun h => h.elim hDn (by rw [hall]; simp)), if_neg hbig]
          rw [hd]
          dsimp only
          have hDl : 0 < D.length := List.length_pos_iff.2 hDn
          rw [if_pos rfl, if_pos (by rw [size_mk]; omega)]
          have hb0 := bt_get ⟨D.toArray⟩ 0 hDl
          rw [show ((0 : Nat) : Int) = 0 from rfl] at hb0
          rw [hb0]
          have hh : D.head? = some D[0] := by cases D with | nil => exact absurd rfl hDn | cons a D => rfl
          simp only [data_mk, size_mk]
          by_cases h48 : ((D[0]).toNat : Int) = 48
          · rw [if_pos h48, recTail_none (Or.inr (Or.inl (by rw [hh, u8_eq _ 48 h48])))]
            exact ⟨_, rfl, rfl⟩
          · rw [if_neg h48]
            by_cases hlong : L.length < dval D
            · rw [if_pos (show ((dval D : Int) > (s.size : Int)) by omega), recTail_none (Or.inr (Or.inr (Or.inl hlong)))]
              exact ⟨_, rfl, rfl⟩
            · rw [if_neg (show ¬ ((dval D : Int) > (s.size : Int)) by omega), wrap64_id (n := (D.length : Int) + 2) (by omega) (by omega)]
              by_cases hsh : dval D < D.length + 2
              · rw [if_pos (show ((dval D : Int) < (D.length : Int) + 2) by omega), recTail_none (Or.inr (Or.inr (Or.inr (Or.inl hsh))))]
                exact ⟨_, rfl, rfl⟩
              · have hw1 : wrap64 ((dval D : Int) - 1) = ((dval D - 1 : Nat) : Int) := by rw [wrap64_id (by omega) (by omega)]; omega
                have hw2 : wrap64 ((D.length : Int) + 1) = ((D.length + 1 : Nat) : Int) := by rw [wrap64_id (by omega) (by omega)]; omega
                have hlt : dval D - 1 < L.length := by omega
                rw [if_neg (show ¬ ((dval D : Int) < (D.length : Int) + 2) by omega), hw1, hw2, if_pos (show (0 : Int) ≤ ((dval D - 1 : Nat) : Int) by omega), if_pos (show ((dval D - 1 : Nat) : Int) < (s.size : Int) by omega), hbt (dval D - 1) hlt]
                by_cases h10 : ((L[dval D - 1]).toNat : Int) = 10
                · have hg : ¬ (D = [] ∨ D.head? = some 48 ∨ L.length < dval D ∨ dval D < D.length + 2 ∨ L[dval D - 1]? ≠ some 10) := by
                    rintro (h | h | h | h | h)
                    · exact hDn h
                    · rw [hh] at h
                      injection h with h
                      rw [h] at h48
                      exact h48 rfl
                    · exact hlong h
                    · exact hsh h
                    · rw [List.getElem?_eq_getElem hlt, u8_eq _ 10 h10] at h
                      exact h rfl
                  unfold recTail
                  rw [if_pos h10, if_neg hg, if_pos (show (0 : Int) ≤ ((D.length + 1 : Nat) : Int) by omega), if_pos (show ((D.length + 1 : Nat) : Int) ≤ ((dval D - 1 : Nat) : Int) by omega), if_pos (show ((dval D - 1 : Nat) : Int) ≤ (s.size : Int) by omega)]
                  have hbody : s.extract ((D.length + 1 : Nat) : Int).toNat ((dval D - 1 : Nat) : Int).toNat = ⟨(X.take (dval D - D.length - 2)).toArray⟩ := by
                    rw [hex, Int.toNat_natCast, Int.toNat_natCast]
                    congr 2
                    have : L.drop (D.length + 1) = X := by
                      rw [← List.drop_drop, hX]
                      rfl
                    rw [this, show dval D - 1 - (D.length + 1) = dval D - D.length - 2 by omega]
                  have hbl : (X.take (dval D - D.length - 2)).length ≤ L.length := by
                    have : L.length = D.length + (X.length + 1) := by
                      rw [hspl]
                      simp
                    rw [List.length_take]
                    omega
                  rw [hbody]
                  generalize X.take (dval D - D.length - 2) = B at hbl
                  dsimp only
                  rw [if_pos (by rw [size_mk]; omega), Option.bind_some, cut_eq, data_mk, if_pos (show (0 : Int) ≤ (dval D : Int) by omega), if_pos (show (dval D : Int) ≤ (s.size : Int) by omega)]
                  have hrest : s.extract (dval D : Int).toNat s.size = ⟨(L.drop (dval D)).toArray⟩ := by
                    rw [hex, Int.toNat_natCast]
                    congr 2
                    exact List.take_of_length_le (by rw [List.length_drop]; omega)
                  rw [hrest]
                  have hfull := takeWhile_full 61 B
                  by_cases h61 : (61 : UInt8) ∈ B
                  · rw [if_pos h61]
                    dsimp only
                    rw [if_pos rfl]
                    refine ⟨_, rfl, ?_⟩
                    by_cases hke : B.takeWhile (· != 61) = []
                    · rw [if_pos (Or.inl hke)]
                      show ((⟨(B.takeWhile (· != 61)).toArray⟩ : ByteArray).toList != []) = false
                      rw [toList_eq, data_mk, hke]
                      rfl
                    · rw [if_neg (by rintro (h | h); exact hke h; exact hfull.1 h h61)]
                      show (_, _, _, _) = (_, _, _, _)
                      rw [toList_eq, data_mk]
                      have : (B.takeWhile (· != 61) != []) = true := by rw [bne_iff_ne]; exact hke
                      rw [this]
                  · rw [if_neg h61]
                    dsimp only
                    rw [if_neg (by decide), if_pos (Or.inr (hfull.2 h61))]
                    exact ⟨_, rfl, rfl⟩
                · rw [if_neg h10, recTail_none (Or.inr (Or.inr (Or.inr (Or.inr (by
                    rw [List.getElem?_eq_getElem hlt]
                    intro h
                    injection h with h
                    rw [h] at h10
                    exact h10 rfl)))))]
                  exact ⟨_, rfl, rfl⟩
  · rw [if_neg h32]
    dsimp only
    rw [dec_eq _ (by omega) k (by omega), Option.bind_some, if_neg (by decide), oneS_no h32]
    exact ⟨_, rfl, rfl⟩

/-! ### pax.Read -/
def mkR (p : List UInt8 × List UInt8) : S39 := ⟨⟨p.1.toArray⟩, ⟨p.2.toArray⟩⟩
def readR (s : List UInt8) : List S39 × Int := match readS s.length s with
  | some l => (l.map mkR, 0)
  | none => ([], 2)
theorem read_go : ∀ (n : Nat) (L : List UInt8) (acc : List S39) (k : Nat), L.length ≤ n → n ≤ 1000000000 → acc.length ≤ 1000000000 - n → 2 * L.length + n < k → pax_Read.l0 k ⟨L.toArray⟩ acc = some (match readS n L with | some l => (acc ++ l.map mkR, 0) | none => ([], 2))
  | n, L, acc, 0, hn, hn2, ha, hk => absurd hk (by omega)
  | 0, L, acc, k + 1, hn, hn2, ha, hk => by
    have : L = [] := List.length_eq_zero_iff.1 (by omega)
    subst this
    rw [pax_Read.l0, toList_eq, data_mk, if_pos rfl, readS, if_pos rfl]
    simp
  | n + 1, L, acc, k + 1, hn, hn2, ha, hk => by
    rw [pax_Read.l0, toList_eq, data_mk, readS]
    by_cases hL : L = []
    · rw [if_pos hL, if_pos hL]
      simp
    · rw [if_neg hL, if_neg hL]
      obtain ⟨r, hr, hi⟩ := one_eq ⟨L.toArray⟩ (by rw [size_mk]; omega) k (by rw [size_mk]; omega)
      rw [data_mk] at hi
      rw [hr, Option.bind_some]
      cases ho : oneS L with
      | none =>
        rw [ho] at hi
        have hi' : r.2.2.2 = false := hi
        rw [if_neg (by rw [hi']; decide)]
      | some t =>
        obtain ⟨a, b, c⟩ := t
        rw [ho] at hi
        have hi' : r = (⟨a.toArray⟩, ⟨b.toArray⟩, ⟨c.toArray⟩, true) := hi
        have hsh := oneS_shorter ho
        subst hi'
        dsimp only
        rw [if_pos rfl, if_pos (by omega), read_go n c _ k (by omega) (by omega) (by simp; omega) (by omega)]
        cases readS n c with
        | none => rfl
        | some l => simp [mkR]
theorem read_eq (s : ByteArray) (hs : s.size ≤ 1000000000) (k : Nat) (hk : 3 * s.size < k) : pax_Read.f k s = some (readR s.data.toList) := by
  have hl := size_len s
  have h := read_go s.data.toList.length s.data.toList [] k (Nat.le_refl _) (by omega) (by simp) (by omega)
  unfold pax_Read.f readR
  rw [mk_data] at h
  rw [h]
  cases readS s.data.toList.length s.data.toList with
  | none => rfl
  | some l => simp
end Go.Proofs.YtfnicahlnpngkaaDoor.PaxOneOfPaxPuts

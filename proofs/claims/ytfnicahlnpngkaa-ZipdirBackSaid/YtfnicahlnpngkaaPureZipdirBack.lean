/- zipdir: what ZipdirBack computes is true (plain). ZipdirBack: the printed namespace. -/
import Derived.Test.YtfnicahlnpngkaaPZipdirBackx
import Derived.Test.YtfnicahlnpngkaaZipRoundOfZipdirBack
set_option linter.unusedVariables false
set_option linter.unusedSimpArgs false
namespace Go.Proofs.Ytfnicahlnpngkaa.PureZipBack
open Go.RowKit Go.Proofs.YtfnicahlnpngkaaW.PrintWords Go.Proofs.YtfnicahlnpngkaaW.PrintLast Go.Proofs.YtfnicahlnpngkaaW.PrintMore Go.Proofs.Ytfnicahlnpngkaa.Base Go.Proofs.Ytfnicahlnpngkaa.ZipLocOfZipdirBack Go.Proofs.Ytfnicahlnpngkaa.ZipCenOfZipdirBack Go.Proofs.Ytfnicahlnpngkaa.ZipFieldsOfZipdirBack Go.Proofs.Ytfnicahlnpngkaa.ZipMay Go.Proofs.Ytfnicahlnpngkaa.ZipPutCOfZipdirBack Go.Proofs.Ytfnicahlnpngkaa.ZipPutLOfZipdirBack Go.Proofs.Ytfnicahlnpngkaa.ZipSameOfZipdirBack Go.Proofs.Ytfnicahlnpngkaa.ZipRoundOfZipdirBack Go.Proofs.Ytfnicahlnpngkaa.PZipdirBack
def fewB (l : List S38) : Bool := (l.all fun x => decide ((x.f1.size : Int) ≤ 300)) && decide ((l.length : Int) ≤ 10)
theorem few_go (l : List S38) (hl : l.length ≤ 9223372036854775807) : ∀ (j i k : Nat), i + j = l.length → j < k → stevedorelaw27_Few.l0 k l (i : Int) = some (((l.drop i).all fun x => decide ((x.f1.size : Int) ≤ 300)) && decide ((l.length : Int) ≤ 10))
  | 0, i, k + 1, hi, hk => by
    rw [stevedorelaw27_Few.l0, if_neg (by omega), List.drop_of_length_le (by omega)]
    simp
  | j + 1, i, k + 1, hi, hk => by
    rw [stevedorelaw27_Few.l0, if_pos (by omega), if_pos (by omega), ExtraPutOfZipdirBack.drop_rd l i (by omega)]
    by_cases h : (((rd_T38 l (i : Int)).f1).size : Int) > 300
    · rw [if_pos h, List.all_cons, decide_eq_false (by omega)]
      simp
    · rw [if_neg h, wrap64_id (by omega) (by omega), show ((i : Int) + 1) = ((i + 1 : Nat) : Int) by omega, few_go l hl j (i + 1) k (by omega) (by omega), List.all_cons, decide_eq_true (show (((rd_T38 l (i : Int)).f1).size : Int) ≤ 300 by omega)]
      simp
theorem few_eq (l : List S38) (hl : l.length ≤ 9223372036854775807) (k : Nat) (hk : l.length < k) : stevedorelaw27_Few.f k l = some (fewB l) := by
  have := few_go l hl l.length 0 k (by omega) hk
  exact this
theorem told_eq : stevedorelaw28_told.f = some true := by decide +kernel
theorem cut_loop (x1 c x10 : List Int) (x13 : Int) (a0 a1 a2 a3 a4 a5 a6 a7 : Int) (a8 : ByteArray) (a9 : List S38) (a10 : ByteArray) (a11 a12 : Int)
    (hcut : ∀ i : Nat, i < c.length → ∃ r, zipdir_Central.f (c.take i) 0 = some r ∧ errOf r = 2) (hl : c.length ≤ 1000000) (h9 : a9.length ≤ 1000000) (h13 : x13 = wrap64 ((x1.length : Int) + (x10.length : Int))) :
    ∀ (j i k : Nat), i + j = c.length → j < k → stevedorelaw28_ZipdirBack.l0 k x1 c x10 0 x13 0 (i : Int) a0 a1 a2 a3 a4 a5 a6 a7 a8 a9 a10 a11 a12 a0 a1 a2 a3 a4 a5 a6 a7 a8 a9 a10 a11 a12 = some true
  | 0, i, k + 1, hi, hk => by
    rw [stevedorelaw28_ZipdirBack.l0, if_neg (by omega), told_eq]
    simp only [Option.bind_some]
    rw [if_pos trivial, if_pos trivial, if_pos trivial, if_pos h13, same_self _ _ _ _ _ _ _ _ _ _ _ _ _ h9]
    rfl
  | j + 1, i, k + 1, hi, hk => by
    obtain ⟨r, h1, h2⟩ := hcut i (by omega)
    rw [stevedorelaw28_ZipdirBack.l0, if_pos (by omega), if_pos (by omega), if_pos (by omega), Int.toNat_natCast, h1]
    simp only [Option.bind_some]
    rw [if_pos (show r.2.2.2.2.2.2.2.2.2.2.2.2.2.2 = 2 from h2), wrap64_id (by omega) (by omega), show ((i : Int) + 1) = ((i + 1 : Nat) : Int) by omega]
    exact cut_loop x1 c x10 x13 a0 a1 a2 a3 a4 a5 a6 a7 a8 a9 a10 a11 a12 hcut hl h9 h13 j (i + 1) k (by omega) (by omega)
theorem j0_few (k : Nat) (l1 : List Int) (m0 m1 m2 m3 m4 m5 m6 m7 : Int) (nm : ByteArray) (xs : List S38) (cm : ByteArray) (m11 m12 : Int) : stevedorelaw28_ZipdirBack.j0 (k + 1) l1 true m0 m1 m2 m3 m4 m5 m6 m7 nm xs cm m11 m12 = some true := by
  rw [stevedorelaw28_ZipdirBack.j0, if_pos rfl, told_eq]
  rfl
theorem putC_cases (m0 m1 m2 m3 m4 m5 m6 m7 : Int) (nm : ByteArray) (xs : List S38) (cm : ByteArray) (m11 m12 : Int) (h5 : 0 ≤ m5 ∧ m5 ≤ 4294967295) (h11 : 0 ≤ m11 ∧ m11 ≤ 4294967295) (hx : xs.length ≤ 10) (hn : nm.size ≤ 300) (hc : cm.size ≤ 300) :
    zipdir_PutCentral.f m0 m1 m2 m3 m4 m5 m6 m7 nm xs cm m11 m12 = some ([], 1) ∨ ∃ q, mayB m0 m1 m2 m3 m4 m6 m7 (nm.size : Int) (cm.size : Int) m12 = true ∧ fieldsF xs [m7, m6, m12] = some (q, true) ∧ q.size ≤ 65535 ∧ zipdir_PutCentral.f m0 m1 m2 m3 m4 m5 m6 m7 nm xs cm m11 m12 = some (cenB m0 m1 m2 m3 m4 m5 m6 m7 nm cm m11 m12 q, 0) := by
  unfold zipdir_PutCentral.f
  by_cases hm : mayB m0 m1 m2 m3 m4 m6 m7 (nm.size : Int) (cm.size : Int) m12 = true
  case neg =>
    rw [if_neg hm]
    exact .inl rfl
  have R := may_range (m5 := m5) (m11 := m11) hm h5 h11
  have hv : ∀ x ∈ [m7, m6, m12], 0 ≤ x ∧ x ≤ 4611686018427387904 := by
    intro x hx
    simp only [List.mem_cons, List.not_mem_nil, or_false] at hx
    rcases hx with rfl | rfl | rfl
    · exact R.w7
    · exact R.w6
    · exact R.w12
  obtain ⟨q, ok, hf⟩ := fields_total xs [m7, m6, m12] hv (by omega) (by simp)
  rw [if_pos hm, hf, Option.bind_some]
  cases ok with
  | false =>
    rw [if_neg (by simp)]
    exact .inl rfl
  | true =>
    obtain ⟨-, hq⟩ := fields_great xs [m7, m6, m12] q hv hf
    refine .inr ⟨q, hm, rfl, hq, ?_⟩
    rw [if_pos rfl, if_pos (by show nm.size + q.size + cm.size ≤ 1000000000; omega), cen_eq R q hq]
theorem putL_eq (m0 m1 m2 m3 m4 m5 m6 m7 : Int) (nm : ByteArray) (xs : List S38) (cm : ByteArray) (m11 m12 : Int) (hm : mayB m0 m1 m2 m3 m4 m6 m7 (nm.size : Int) (cm.size : Int) m12 = true) (R : MayR m0 m1 m2 m3 m4 m5 m6 m7 nm cm m11 m12) (q : ByteArray) (hf : fieldsF xs [m7, m6] = some (q, true)) (hq : q.size ≤ 65535) (hn : nm.size ≤ 300) (hc : cm.size ≤ 300) :
    zipdir_PutLocal.f m0 m1 m2 m3 m4 m5 m6 m7 nm xs cm m11 m12 = some (locB m1 m2 m3 m4 m5 m6 m7 nm q, 0) := by
  unfold zipdir_PutLocal.f
  rw [if_pos hm, hf, Option.bind_some, if_pos rfl, if_pos (by show nm.size + q.size + cm.size ≤ 1000000000; omega), loc_eq R q hq]
theorem j0_bad (k : Nat) (l1 : List Int) (m0 m1 m2 m3 m4 m5 m6 m7 : Int) (nm : ByteArray) (xs : List S38) (cm : ByteArray) (m11 m12 : Int) (h : zipdir_PutCentral.f m0 m1 m2 m3 m4 m5 m6 m7 nm xs cm m11 m12 = some ([], 1)) : stevedorelaw28_ZipdirBack.j0 (k + 1) l1 false m0 m1 m2 m3 m4 m5 m6 m7 nm xs cm m11 m12 = some true := by
  rw [stevedorelaw28_ZipdirBack.j0, if_neg (by simp), h, Option.bind_some, if_neg (by simp), told_eq]
  rfl
theorem j0_good (k : Nat) (l1 c : List Int) (P : Int) (m0 m1 m2 m3 m4 m5 m6 m7 : Int) (nm : ByteArray) (xs : List S38) (cm : ByteArray) (m11 m12 : Int) (h : zipdir_PutCentral.f m0 m1 m2 m3 m4 m5 m6 m7 nm xs cm m11 m12 = some (c, 0)) (h2 : zipdir_Central.f (([] ++ l1) ++ c ++ [7]) (l1.length : Int) = some (m0, m1, m2, m3, m4, m5, m6, m7, nm, xs, cm, m11, m12, P, 0)) (hP : P = wrap64 ((l1.length : Int) + (c.length : Int))) (h1 : l1.length ≤ 100) (hc : c.length ≤ 1000000) (hx : xs.length ≤ 1000000) :
    stevedorelaw28_ZipdirBack.j0 (k + 1) l1 false m0 m1 m2 m3 m4 m5 m6 m7 nm xs cm m11 m12 = stevedorelaw28_ZipdirBack.j1 k l1 c false m0 m1 m2 m3 m4 m5 m6 m7 nm xs cm m11 m12 := by
  have e : (c, (0 : Int)).1.length = c.length := rfl
  rw [stevedorelaw28_ZipdirBack.j0, if_neg (by simp), h, Option.bind_some, if_pos rfl, Option.bind_some, if_pos (by rw [List.length_nil]; omega), Option.bind_some, if_pos (by rw [List.length_append, List.length_nil]; omega), Option.bind_some, if_pos (by rw [List.length_append, List.length_append, List.length_nil]; omega), h2, Option.bind_some, if_pos rfl, if_pos hP, same_self _ _ _ _ _ _ _ _ _ _ _ _ _ hx, Option.bind_some]
  rfl
theorem j1_good (k : Nat) (l1 c d : List Int) (P : Int) (m0 m1 m2 m3 m4 m5 m6 m7 : Int) (nm : ByteArray) (xs : List S38) (cm : ByteArray) (m11 m12 : Int) (h : zipdir_PutLocal.f m0 m1 m2 m3 m4 m5 m6 m7 nm xs cm m11 m12 = some (d, 0)) (h2 : zipdir_Local.f (([] ++ l1) ++ d) (l1.length : Int) = some (0, m1, m2, m3, m4, m5, m6, m7, nm, xs, ⟨#[]⟩, 0, 0, P, 0)) (h1 : l1.length ≤ 100) (hd : d.length ≤ 1000000) :
    stevedorelaw28_ZipdirBack.j1 (k + 1) l1 c false m0 m1 m2 m3 m4 m5 m6 m7 nm xs cm m11 m12 = stevedorelaw28_ZipdirBack.l0 k l1 c d 0 P 0 0 0 m1 m2 m3 m4 m5 m6 m7 nm xs ⟨#[]⟩ 0 0 0 m1 m2 m3 m4 m5 m6 m7 nm xs ⟨#[]⟩ 0 0 := by
  have e : (d, (0 : Int)).1.length = d.length := rfl
  rw [stevedorelaw28_ZipdirBack.j1, if_neg (by simp), h, Option.bind_some, Option.bind_some, if_pos (by rw [List.length_nil]; omega), Option.bind_some, if_pos (by rw [List.length_append, List.length_nil]; omega), h2, Option.bind_some]
theorem j0_ok (k : Nat) (l1 : List Int) (m0 m1 m2 m3 m4 m5 m6 m7 : Int) (nm : ByteArray) (xs : List S38) (cm : ByteArray) (m11 m12 : Int) (h5 : 0 ≤ m5 ∧ m5 ≤ 4294967295) (h11 : 0 ≤ m11 ∧ m11 ≤ 4294967295) (hx : xs.length ≤ 10) (hn : nm.size ≤ 300) (hc : cm.size ≤ 300) (h1 : l1.length ≤ 100) (hk : 70000 ≤ k) :
    stevedorelaw28_ZipdirBack.j0 (k + 2) l1 false m0 m1 m2 m3 m4 m5 m6 m7 nm xs cm m11 m12 = some true := by
  rcases putC_cases m0 m1 m2 m3 m4 m5 m6 m7 nm xs cm m11 m12 h5 h11 hx hn hc with h | ⟨q, hm, hf, hq, h⟩
  · exact j0_bad (k + 1) l1 m0 m1 m2 m3 m4 m5 m6 m7 nm xs cm m11 m12 h
  have R := may_range (m5 := m5) (m11 := m11) hm h5 h11
  have hv : ∀ x ∈ [m7, m6, m12], 0 ≤ x ∧ x ≤ 4611686018427387904 := by
    intro x hx
    simp only [List.mem_cons, List.not_mem_nil, or_false] at hx
    rcases hx with rfl | rfl | rfl
    · exact R.w7
    · exact R.w6
    · exact R.w12
  have hv2 : ∀ x ∈ [m7, m6], 0 ≤ x ∧ x ≤ 4611686018427387904 := fun x hx => hv x (by simp only [List.mem_cons, List.not_mem_nil, or_false] at hx ⊢; rcases hx with rfl | rfl <;> simp)
  obtain ⟨q2, hf2⟩ := fields_less hv hf
  obtain ⟨-, hq2⟩ := fields_great xs [m7, m6] q2 hv2 hf2
  have hL := cenB_len m0 m1 m2 m3 m4 m5 m6 m7 nm cm m11 m12 q
  have hL2 := locB_len m1 m2 m3 m4 m5 m6 m7 nm q2
  have g := putL_eq m0 m1 m2 m3 m4 m5 m6 m7 nm xs cm m11 m12 hm R q2 hf2 hq2 hn hc
  have hcut := fun i hi => central_cut R q hq i hi
  have hcen := fun (l : List Int) (p : Nat) rest hl hd hp => central_of R xs q hf (l := l) (p := p) (rest := rest) hl hd hp
  have hloc := fun (l : List Int) (p : Nat) rest hl hd hp => local_of R xs q2 hf2 (l := l) (p := p) (rest := rest) hl hd hp
  clear hf hf2 hv hv2 R hm
  generalize cenB m0 m1 m2 m3 m4 m5 m6 m7 nm cm m11 m12 q = c at h hL hcut hcen
  generalize locB m1 m2 m3 m4 m5 m6 m7 nm q2 = d at g hL2 hloc
  rw [j0_good (k + 1) l1 c _ m0 m1 m2 m3 m4 m5 m6 m7 nm xs cm m11 m12 h (hcen _ _ [7] (by simp only [List.length_append, List.length_cons, List.length_nil]; omega) (by rw [List.nil_append, List.append_assoc, List.drop_left]) (by simp only [List.length_append, List.length_nil]; omega)) (by rw [wrap64_id (by omega) (by omega)]; omega) h1 (by omega) (by omega)]
  rw [j1_good k l1 c d _ m0 m1 m2 m3 m4 m5 m6 m7 nm xs cm m11 m12 g (hloc _ _ [] (by simp only [List.length_append, List.length_nil]; omega) (by rw [List.nil_append, List.drop_left, List.append_nil]) (by simp only [List.length_append, List.length_nil]; omega)) h1 (by omega)]
  exact cut_loop l1 c d _ 0 m1 m2 m3 m4 m5 m6 m7 nm xs ⟨#[]⟩ 0 0 hcut (by omega) (by omega) (by rw [wrap64_id (by omega) (by omega)]; omega) c.length 0 k (by omega) (by omega)
theorem back_ok (l1 : List Int) (m0 m1 m2 m3 m4 m5 m6 m7 : Int) (nm : ByteArray) (xs : List S38) (cm : ByteArray) (m11 m12 : Int) (h5 : 0 ≤ m5 ∧ m5 ≤ 4294967295) (h11 : 0 ≤ m11 ∧ m11 ≤ 4294967295) (hx : xs.length ≤ 9223372036854775807) :
    stevedorelaw28_ZipdirBack.f (xs.length + 70002) m0 m1 m2 m3 m4 m5 m6 m7 nm xs cm m11 m12 l1 = some true := by
  unfold stevedorelaw28_ZipdirBack.f stevedorelaw28_few.f
  rw [few_eq xs hx _ (by omega)]
  have bad := j0_few (xs.length + 70001) l1 m0 m1 m2 m3 m4 m5 m6 m7 nm xs cm m11 m12
  have hj := j0_ok (xs.length + 70000) l1 m0 m1 m2 m3 m4 m5 m6 m7 nm xs cm m11 m12 h5 h11
  by_cases hn : (nm.size : Int) ≤ 300
  · rw [if_pos hn]
    by_cases hc : (cm.size : Int) ≤ 300
    · rw [if_pos hc]
      simp only [Option.bind_some]
      by_cases hf : fewB xs = true
      · rw [if_pos hf]
        have hx10 : xs.length ≤ 10 := by
          unfold fewB at hf
          rw [Bool.and_eq_true, decide_eq_true_eq] at hf
          omega
        by_cases h1 : (l1.length : Int) > 100
        · rw [decide_eq_true h1]
          exact bad
        · rw [decide_eq_false h1]
          exact hj hx10 (by omega) (by omega) (by omega) (by omega)
      · rw [if_neg hf]
        exact bad
    · rw [if_neg hc, Option.bind_some, if_neg (by simp)]
      exact bad
  · rw [if_neg hn, Option.bind_some, if_neg (by simp)]
    exact bad

end Go.Proofs.Ytfnicahlnpngkaa.PureZipBack

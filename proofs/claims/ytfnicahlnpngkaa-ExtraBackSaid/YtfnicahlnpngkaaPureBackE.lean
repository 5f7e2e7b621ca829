/- ExtraBack, the plain law. -/
import Derived.Test.YtfnicahlnpngkaaPExtraBackx
import Derived.Test.YtfnicahlnpngkaaBase
set_option linter.unusedVariables false
set_option linter.unusedSimpArgs false
namespace Go.Proofs.Ytfnicahlnpngkaa.PureBackE
open Go.RowKit Go.Proofs.YtfnicahlnpngkaaW.PrintWords Go.Proofs.YtfnicahlnpngkaaW.PrintLast Go.Proofs.YtfnicahlnpngkaaW.PrintMore Go.Proofs.Ytfnicahlnpngkaa.Base Go.Proofs.Ytfnicahlnpngkaa.NumRead Go.Proofs.Ytfnicahlnpngkaa.ExtraNum Go.Proofs.Ytfnicahlnpngkaa.NumAcc Go.Proofs.Ytfnicahlnpngkaa.Num1 Go.Proofs.Ytfnicahlnpngkaa.PExtraBack Go.Proofs.Ytfnicahlnpngkaa.ExtraOfExtraBack Go.Proofs.Ytfnicahlnpngkaa.ExtraPutOfExtraBack Go.Proofs.Ytfnicahlnpngkaa.ExtraBigOfExtraBack

theorem told_true : stevedorelaw27_told.f 100 = some true := by decide +kernel
theorem told_at (k : Nat) (hk : 100 ≤ k) : stevedorelaw27_told.f k = some true := at_rounds (g := fun k => stevedorelaw27_told.f k) (fun k => stevedorelaw27_told.mono k) hk told_true

def fewB (l : List S38) : Bool := (l.all fun x => decide ((x.f1.size : Int) ≤ 300)) && decide ((l.length : Int) ≤ 10)
theorem few_go (l : List S38) (hl : l.length ≤ 9223372036854775807) : ∀ (j i k : Nat), i + j = l.length → j < k → stevedorelaw27_Few.l0 k l (i : Int) = some (((l.drop i).all fun x => decide ((x.f1.size : Int) ≤ 300)) && decide ((l.length : Int) ≤ 10))
  | 0, i, k + 1, hi, hk => by
    rw [stevedorelaw27_Few.l0, if_neg (by omega), List.drop_of_length_le (by omega)]
    simp
  | j + 1, i, k + 1, hi, hk => by
    rw [stevedorelaw27_Few.l0, if_pos (by omega), if_pos (by omega), ExtraPutOfExtraBack.drop_rd l i (by omega)]
    by_cases h : (((rd_T38 l (i : Int)).f1).size : Int) > 300
    · rw [if_pos h, List.all_cons, decide_eq_false (by omega)]
      simp
    · rw [if_neg h, wrap64_id (by omega) (by omega), show ((i : Int) + 1) = ((i + 1 : Nat) : Int) by omega, few_go l hl j (i + 1) k (by omega) (by omega), List.all_cons, decide_eq_true (show (((rd_T38 l (i : Int)).f1).size : Int) ≤ 300 by omega)]
      simp
theorem few_eq (l : List S38) (hl : l.length ≤ 9223372036854775807) (k : Nat) (hk : l.length < k) : stevedorelaw27_Few.f k l = some (fewB l) := by
  have := few_go l hl l.length 0 k (by omega) hk
  exact this

theorem same_go (l : List S38) (hl : l.length ≤ 9223372036854775807) : ∀ (j i k : Nat), i + j = l.length → j < k → stevedorelaw27_same.l0 k l l (i : Int) = some true
  | 0, i, k + 1, hi, hk => by rw [stevedorelaw27_same.l0, if_neg (by omega)]
  | j + 1, i, k + 1, hi, hk => by
    rw [stevedorelaw27_same.l0, if_pos (by omega), if_pos (by omega), if_pos (by omega), if_neg (by simp), wrap64_id (by omega) (by omega), show ((i : Int) + 1) = ((i + 1 : Nat) : Int) by omega]
    exact same_go l hl j (i + 1) k (by omega) (by omega)
theorem same_eq (l : List S38) (hl : l.length ≤ 9223372036854775807) (k : Nat) (hk : l.length < k) : stevedorelaw27_same.f k l l = some true := by
  unfold stevedorelaw27_same.f
  rw [if_pos rfl]
  exact same_go l hl l.length 0 k (by omega) hk

/-! ### bytes as lists -/
theorem str_app (a b : List Int) : strOfNums (a ++ b) = strOfNums a ++ strOfNums b := by
  apply ByteArray.ext
  simp [strOfNums]
theorem str_bytes (s : ByteArray) : strOfNums (bytesOf s) = s := by
  apply ByteArray.ext
  apply Array.ext'
  rw [strOfNums_data]
  unfold bytesOf
  rw [List.map_map]
  exact (List.map_congr_left (fun b _ => by simp)).trans (List.map_id _)
theorem str_size (a : List Int) : (strOfNums a).size = a.length := strOfNums_size a
def IsB (l : List Int) : Prop := ∀ x ∈ l, 0 ≤ x ∧ x < 256
theorem bytes_str (l : List Int) (h : IsB l) : bytesOf (strOfNums l) = l := by
  unfold bytesOf
  rw [strOfNums_data, List.map_map]
  refine (List.map_congr_left (fun b hb => ?_)).trans (List.map_id _)
  have := h b hb
  simp only [Function.comp, UInt8.toNat_ofNat', id]
  omega
theorem isB_bytes (s : ByteArray) : IsB (bytesOf s) := by
  intro x hx
  unfold bytesOf at hx
  obtain ⟨b, _, rfl⟩ := List.mem_map.1 hx
  have := b.toNat_lt
  omega
theorem bytes_extract (s : ByteArray) (i n : Nat) : bytesOf (s.extract i (i + n)) = ((bytesOf s).drop i).take n := by
  unfold bytesOf
  rw [← List.map_drop, ← List.map_take]
  congr 1
  rw [ByteArray.data_extract, Array.toList_extract, List.extract_eq_take_drop, show i + n - i = n by omega]
theorem str_extract (l : List Int) (i n : Nat) : (strOfNums l).extract i (i + n) = strOfNums ((l.drop i).take n) := by
  apply ByteArray.ext
  apply Array.ext'
  rw [ByteArray.data_extract, Array.toList_extract, List.extract_eq_take_drop, strOfNums_data, strOfNums_data, List.map_take, List.map_drop, show i + n - i = n by omega]
theorem rd_app (a b : List Int) (j : Nat) : rd (a ++ b) ((a.length + j : Nat) : Int) = rd b (j : Int) := by
  unfold rd
  rw [Int.toNat_natCast, Int.toNat_natCast, List.getD_eq_getElem?_getD, List.getD_eq_getElem?_getD, List.getElem?_append_right (by omega)]
  congr 2; omega
theorem rd_left (a b : List Int) (j : Nat) (h : j < a.length) : rd (a ++ b) (j : Int) = rd a (j : Int) := by
  unfold rd
  rw [Int.toNat_natCast, List.getD_eq_getElem?_getD, List.getD_eq_getElem?_getD, List.getElem?_append_left h]

/-! ### numbers of n bytes, the lowest first -/
theorem leB_rd (v : Int) (n j : Nat) (hn : 1 ≤ n) (hn8 : n ≤ 8) (hj : j < n) : rd (leB v n) (j : Int) = v / 256 ^ j % 256 := by
  unfold leB rd
  rw [if_neg (by omega), Int.toNat_natCast, Int.toNat_natCast, bs_getD _ _ _ _ hj, Int.zero_add, byteAt_eq v j (by omega)]
theorem leB_isB (v n : Int) : IsB (leB v n) := by
  intro x hx
  unfold leB at hx
  split at hx
  · cases hx
  · obtain ⟨j, hj, rfl⟩ := List.mem_iff_getElem.1 hx
    rw [bs_length] at hj
    have e := bs_getD (byteAt v) n.toNat j 0 hj
    rw [List.getD_eq_getElem?_getD, List.getElem?_eq_getElem (by rw [bs_length]; exact hj)] at e
    rw [show (bs (byteAt v) 0 n.toNat)[j] = byteAt v (0 + (j : Int)) from e]
    exact byteAt_range _ _
/-- what stands at a place as leB put it is read. -/
theorem num_at (a b : List Int) (v : Int) (n : Nat) (hn : 1 ≤ n) (hn8 : n ≤ 8) (h0 : 0 ≤ v) (hv : v < 256 ^ n) (hv2 : v ≤ 4611686018427387904) : exNum (a ++ (leB v n ++ b)) (a.length : Int) n = some v := by
  have hlen : (leB v n).length = n := by rw [leB_length, if_neg (by omega)]; omega
  have hacc : acc (a ++ (leB v n ++ b)) (a.length : Int) (fun i => (n : Int) - 1 - i) n = v := by
    have := acc_val (a ++ (leB v n ++ b)) (a.length : Int) (fun i => (n : Int) - 1 - i) v n hn8 (fun j hj => by
      rw [show (a.length : Int) + ((n : Int) - 1 - (j : Int)) = ((a.length + (n - 1 - j) : Nat) : Int) by omega, rd_app, rd_left _ _ _ (by omega), leB_rd v n _ hn hn8 (by omega)]) n (Nat.le_refl n)
    rw [this, Nat.sub_self, Int.pow_zero, Int.ediv_one]
    exact Int.emod_eq_of_lt h0 hv
  have hrd : rdNum (a ++ (leB v n ++ b)) (a.length : Int) n (fun i => (n : Int) - 1 - i) = (v, 0) := by
    unfold rdNum
    rw [if_neg (by omega), if_neg (by rw [List.length_append, List.length_append, hlen]; omega), Int.toNat_natCast, hacc]
  unfold exNum
  rw [hrd, if_pos ⟨rfl, hv2⟩]
theorem two_at (a b : List Int) (v : Int) (h0 : 0 ≤ v) (hv : v < 65536) (p : Int) (hp : p = a.length) : exNum (a ++ (leB v 2 ++ b)) p 2 = some v := by
  subst hp
  exact num_at a b v 2 (by omega) (by omega) h0 (by simpa using hv) (by omega)

/-! ### Read of Put -/
def Good (x : S38) : Prop := 0 ≤ x.f0 ∧ x.f0 ≤ 65535 ∧ x.f1.size ≤ 65535
def all (l : List S38) : List Int := l.flatMap fieldB
theorem field_eq (x : S38) (h : Good x) : fieldB x = leB x.f0 2 ++ (leB (x.f1.size : Int) 2 ++ bytesOf x.f1) := by
  unfold fieldB
  obtain ⟨h0, h1, h2⟩ := h
  rw [wu64 h0 (by omega), wu64 (n := (x.f1.size : Int)) (by omega) (by omega), List.append_assoc]
theorem field_isB (x : S38) : IsB (fieldB x) := by
  intro y hy
  unfold fieldB at hy
  rcases List.mem_append.1 hy with hy | hy
  · rcases List.mem_append.1 hy with hy | hy
    · exact leB_isB _ _ y hy
    · exact leB_isB _ _ y hy
  · exact isB_bytes _ y hy
theorem all_isB (l : List S38) : IsB (all l) := by
  intro y hy
  obtain ⟨x, _, hx⟩ := List.mem_flatMap.1 hy
  exact field_isB x y hx
theorem put_ok : ∀ (l : List S38) (b : List Int) (s : ByteArray), putLoop l b = (s, 0) → s = strOfNums (b ++ all l) ∧ (∀ x ∈ l, Good x) ∧ (b.length ≤ 65535 → (b ++ all l).length ≤ 65535)
  | [], b, s, h => by
    rw [putLoop] at h
    exact ⟨by rw [← (Prod.mk.inj h).1]; simp [all], by simp, fun hb => by simpa [all] using hb⟩
  | x :: l, b, s, h => by
    rw [putLoop] at h
    split at h
    · exact absurd (Prod.mk.inj h).2 (by omega)
    · rename_i hc
      have h' := put_ok l (b ++ fieldB x) s h
      have e : b ++ fieldB x ++ all l = b ++ all (x :: l) := by simp [all]
      rw [e] at h'
      have hfl := fieldB_length x
      refine ⟨h'.1, fun y hy => ?_, fun hb => h'.2.2 (by rw [List.length_append, hfl]; omega)⟩
      rcases List.mem_cons.1 hy with rfl | hy
      · exact ⟨by omega, by omega, by omega⟩
      · exact h'.2.1 y hy
theorem put_of : ∀ (l : List S38) (b : List Int), (∀ x ∈ l, Good x) → (b ++ all l).length ≤ 65535 → putLoop l b = (strOfNums (b ++ all l), 0)
  | [], b, _, _ => by rw [putLoop]; simp [all]
  | x :: l, b, hg, hl => by
    have e : b ++ fieldB x ++ all l = b ++ all (x :: l) := by simp [all]
    have hfl := fieldB_length x
    have hx := hg x List.mem_cons_self
    have hl2 : (b ++ fieldB x ++ all l).length ≤ 65535 := by rw [e]; exact hl
    rw [List.length_append, List.length_append, hfl] at hl2
    rw [putLoop, if_neg (by have := hx.1; have := hx.2.1; have := hx.2.2; omega), put_of l (b ++ fieldB x) (fun y hy => hg y (List.mem_cons_of_mem _ hy)) (by rw [e]; exact hl), e]
theorem read_of (B : List Int) (hB : IsB B) : ∀ (l dn : List S38) (k : Nat), (∀ x ∈ l, Good x) → B = all dn ++ all l → (all l).length < k → rdLoop (strOfNums B) k ((all dn).length : Int) dn = some (dn ++ l, 0)
  | [], dn, k + 1, _, he, _ => by
    rw [rdLoop, if_neg (by rw [str_size, he]; simp [all])]
    simp
  | x :: l, dn, k + 1, hg, he, hk => by
    have hx := hg x List.mem_cons_self
    have hfl := fieldB_length x
    have hal : all (x :: l) = fieldB x ++ all l := by simp [all]
    have hlen : (all (x :: l)).length = 4 + x.f1.size + (all l).length := by rw [hal, List.length_append, hfl]
    have hdn : all (dn ++ [x]) = all dn ++ fieldB x := by simp [all]
    have n2 : ∀ v, (leB v 2).length = 2 := fun v => by rw [leB_length, if_neg (by omega)]; rfl
    have e1 : B = all dn ++ (leB x.f0 2 ++ ((leB (x.f1.size : Int) 2 ++ bytesOf x.f1) ++ all l)) := by rw [he, hal, field_eq x hx]; simp only [List.append_assoc]
    have e2 : B = (all dn ++ leB x.f0 2) ++ (leB (x.f1.size : Int) 2 ++ (bytesOf x.f1 ++ all l)) := by rw [e1]; simp only [List.append_assoc]
    have e3 : B = ((all dn ++ leB x.f0 2) ++ leB (x.f1.size : Int) 2) ++ (bytesOf x.f1 ++ all l) := by rw [e1]; simp only [List.append_assoc]
    have hb : bytesOf (strOfNums B) = B := bytes_str B hB
    have hsz : ((strOfNums B).size : Int) = (all dn).length + (4 + x.f1.size + (all l).length) := by rw [str_size, he, List.length_append, hlen]; omega
    have r1 : exNum (bytesOf (strOfNums B)) ((all dn).length : Int) 2 = some x.f0 := by
      rw [hb, e1]; exact two_at _ _ _ hx.1 (by have := hx.2.1; omega) _ rfl
    have r2 : exNum (bytesOf (strOfNums B)) ((all dn).length + 2 : Int) 2 = some (x.f1.size : Int) := by
      rw [hb, e2]; exact two_at _ _ _ (by omega) (by have := hx.2.2; omega) _ (by rw [List.length_append, n2]; omega)
    have r3 : (strOfNums B).extract ((all dn).length + 4 : Int).toNat ((all dn).length + 4 + (x.f1.size : Int)).toNat = x.f1 := by
      rw [show ((all dn).length + 4 : Int).toNat = (all dn).length + 4 by omega, show ((all dn).length + 4 + (x.f1.size : Int)).toNat = (all dn).length + 4 + x.f1.size by omega, str_extract]
      have hd : B.drop ((all dn).length + 4) = bytesOf x.f1 ++ all l := by
        rw [e3]
        exact List.drop_left' (by rw [List.length_append, List.length_append, n2, n2])
      rw [hd, List.take_left' (by rw [bytesOf_length]), str_bytes]
    rw [rdLoop, if_pos (by omega), r1]
    dsimp only
    rw [r2]
    dsimp only
    rw [if_neg (by omega), r3]
    have := read_of B hB l (dn ++ [x]) k (fun y hy => hg y (List.mem_cons_of_mem _ hy)) (by rw [hdn, he, hal, List.append_assoc]) (by omega)
    rw [hdn, List.length_append, hfl] at this
    rw [show ((all dn).length : Int) + 4 + (x.f1.size : Int) = (((all dn).length + (4 + x.f1.size) : Nat) : Int) by omega, this]
    simp

/-! ### Put of Read -/
theorem leB2 (v : Int) (h0 : 0 ≤ v) (h1 : v < 65536) : leB v 2 = [v % 256, v / 256] := by
  have hl : (leB v 2).length = 2 := by rw [leB_length, if_neg (by omega)]; rfl
  match h : leB v 2, hl with
  | [a, b], _ =>
    have ha := leB_rd v 2 0 (by omega) (by omega) (by omega)
    have hb := leB_rd v 2 1 (by omega) (by omega) (by omega)
    rw [show ((2 : Nat) : Int) = 2 from rfl, h] at ha hb
    have ha' : a = v / 256 ^ 0 % 256 := ha
    have hb' : b = v / 256 ^ 1 % 256 := hb
    rw [ha', hb']
    simp
    omega
theorem num_of (B : List Int) (hB : IsB B) (at_ : Nat) (v : Int) (h : exNum B (at_ : Int) 2 = some v) : 0 ≤ v ∧ v ≤ 65535 ∧ B.drop at_ = leB v 2 ++ B.drop (at_ + 2) ∧ at_ + 2 ≤ B.length := by
  have hlt : at_ + 2 ≤ B.length := by
    by_cases hc : (at_ : Int) < 0 ∨ (B.length : Int) < (at_ : Int) ∨ (B.length : Int) ≤ (at_ : Int) + 2 - 1
    · have hrd : rdNum B (at_ : Int) 2 (fun i => 2 - 1 - i) = (0, 5) := by
        unfold rdNum
        rw [if_neg (by omega), if_pos hc]
      unfold exNum at h
      rw [hrd] at h
      simp at h
    · omega
  have g0 : at_ < B.length := by omega
  have g1 : at_ + 1 < B.length := by omega
  have b0 := hB _ (List.getElem_mem g0)
  have b1 := hB _ (List.getElem_mem g1)
  have hd : B.drop at_ = B[at_] :: B[at_ + 1] :: B.drop (at_ + 2) := by
    rw [List.drop_eq_getElem_cons g0, List.drop_eq_getElem_cons g1]
  generalize B[at_] = x at b0 hd
  generalize B[at_ + 1] = y at b1 hd
  have hl : leB (x + 256 * y) 2 = [x, y] := by
    rw [leB2 _ (by omega) (by omega), show (x + 256 * y) % 256 = x by omega, show (x + 256 * y) / 256 = y by omega]
  have hB2 : B = B.take at_ ++ (leB (x + 256 * y) 2 ++ B.drop (at_ + 2)) := by
    rw [hl]
    conv => lhs; rw [← List.take_append_drop at_ B, hd]
    rfl
  have hv := two_at (B.take at_) (B.drop (at_ + 2)) (x + 256 * y) (by omega) (by omega) (at_ : Int) (by rw [List.length_take]; omega)
  rw [← hB2, h] at hv
  injection hv with hv
  subst hv
  exact ⟨by omega, by omega, by rw [hd, hl]; rfl, hlt⟩
theorem read_ok (s : ByteArray) : ∀ (k at_ : Nat) (out l : List S38), at_ ≤ s.size → rdLoop s k (at_ : Int) out = some (l, 0) → ∃ rest, l = out ++ rest ∧ (∀ x ∈ rest, Good x) ∧ all rest = (bytesOf s).drop at_
  | 0, at_, out, l, _, h => by rw [rdLoop] at h; cases h
  | k + 1, at_, out, l, ha, h => by
    rw [rdLoop] at h
    by_cases hlt : (at_ : Int) < (s.size : Int)
    · rw [if_pos hlt] at h
      cases hx : exNum (bytesOf s) (at_ : Int) 2 with
      | none => rw [hx] at h; simp at h
      | some id =>
        rw [hx] at h
        dsimp only at h
        cases hy : exNum (bytesOf s) ((at_ : Int) + 2) 2 with
        | none => rw [hy] at h; simp at h
        | some n =>
          rw [hy] at h
          dsimp only at h
          have b1 := num_of (bytesOf s) (isB_bytes s) at_ id hx
          have b2 := num_of (bytesOf s) (isB_bytes s) (at_ + 2) n (by rw [show ((at_ + 2 : Nat) : Int) = (at_ : Int) + 2 by omega]; exact hy)
          rw [bytesOf_length] at b1 b2
          by_cases hc : n > (s.size : Int) - ((at_ : Int) + 4)
          · rw [if_pos hc] at h; simp at h
          · rw [if_neg hc] at h
            obtain ⟨m, rfl⟩ : ∃ m : Nat, n = m := ⟨n.toNat, by omega⟩
            rw [show ((at_ : Int) + 4 + (m : Int)) = ((at_ + 4 + m : Nat) : Int) by omega, show ((at_ : Int) + 4).toNat = at_ + 4 by omega, Int.toNat_natCast] at h
            obtain ⟨rest, hl, hg, hr⟩ := read_ok s k (at_ + 4 + m) _ l (by omega) h
            have hes : (s.extract (at_ + 4) (at_ + 4 + m)).size = m := by rw [ByteArray.size_extract]; omega
            have hgx : Good ⟨id, s.extract (at_ + 4) (at_ + 4 + m)⟩ := ⟨b1.1, b1.2.1, by show (s.extract (at_ + 4) (at_ + 4 + m)).size ≤ 65535; omega⟩
            refine ⟨⟨id, s.extract (at_ + 4) (at_ + 4 + m)⟩ :: rest, by rw [hl, List.append_assoc]; rfl, fun y hy2 => ?_, ?_⟩
            · rcases List.mem_cons.1 hy2 with rfl | hy2
              · exact hgx
              · exact hg y hy2
            · have : all (⟨id, s.extract (at_ + 4) (at_ + 4 + m)⟩ :: rest) = fieldB ⟨id, s.extract (at_ + 4) (at_ + 4 + m)⟩ ++ all rest := by simp [all]
              rw [this, field_eq _ hgx]
              dsimp only
              rw [hes, hr, bytes_extract, b1.2.2.1, b2.2.2.1, ← List.drop_drop (i := m) (j := at_ + 4), show at_ + 2 + 2 = at_ + 4 by omega]
              simp only [List.append_assoc, List.take_append_drop]
    · rw [if_neg hlt] at h
      injection h with h
      have := (Prod.mk.inj h).1
      subst this
      exact ⟨[], by simp, by simp, by rw [List.drop_of_length_le (by rw [bytesOf_length]; omega)]; rfl⟩

/-! ### great numbers -/
def eights (v : List Int) : List Int := v.flatMap fun x => leB x 8
theorem eights_length (v : List Int) : (eights v).length = 8 * v.length := by
  induction v with
  | nil => rfl
  | cons x v ih =>
    have : eights (x :: v) = leB x 8 ++ eights v := by simp [eights]
    rw [this, List.length_append, ih, leB_length, if_neg (by omega), List.length_cons]
    omega
theorem eights_isB (v : List Int) : IsB (eights v) := by
  intro y hy
  obtain ⟨x, _, hx⟩ := List.mem_flatMap.1 hy
  exact leB_isB x 8 y hx
theorem putBig_go (v : List Int) (hl : v.length ≤ 1000) (hv : ∀ x ∈ v, 0 ≤ x ∧ x ≤ 4611686018427387904) : ∀ (j i k : Nat) (b : List Int), i + j = v.length → j < k → b.length ≤ 8 * i → extra_PutBig.l0 k b v (v.length : Int) (i : Int) = some (1, strOfNums (b ++ eights (v.drop i)))
  | 0, i, k + 1, b, hi, hk, hb => by
    rw [extra_PutBig.l0, if_neg (by omega), List.drop_of_length_le (by omega)]
    simp [eights]
  | j + 1, i, k + 1, b, hi, hk, hb => by
    have hi' : i < v.length := by omega
    have e : v.drop i = v[i] :: v.drop (i + 1) := List.drop_eq_getElem_cons hi'
    have er : rd v (i : Int) = v[i] := by
      unfold rd
      rw [Int.toNat_natCast, List.getD_eq_getElem?_getD, List.getElem?_eq_getElem hi']
      rfl
    have hx := hv _ (List.getElem_mem hi')
    have n8 : ∀ v, (leB v 8).length = 8 := fun v => by rw [leB_length, if_neg (by omega)]; rfl
    have e2 : eights (v.drop i) = leB v[i] 8 ++ eights (v.drop (i + 1)) := by unfold eights; rw [e, List.flatMap_cons]
    rw [extra_PutBig.l0, if_pos (by omega), if_pos (by omega), if_pos (by omega), er, wu64 hx.1 (by omega)]
    unfold num_PutLittle.f
    rw [if_pos (by omega), Option.bind_some, wrap64_id (by omega) (by omega), show ((i : Int) + 1) = ((i + 1 : Nat) : Int) by omega, putBig_go v hl hv j (i + 1) k _ (by omega) (by omega) (by rw [List.length_append, n8]; omega), e2, List.append_assoc]
theorem putBig_eq (v : List Int) (hl : v.length ≤ 1000) (hv : ∀ x ∈ v, 0 ≤ x ∧ x ≤ 4611686018427387904) (k : Nat) (hk : v.length < k) : extra_PutBig.f k v = some (1, strOfNums (eights v)) := by
  have := putBig_go v hl hv v.length 0 k [] (by omega) hk (by simp)
  exact this
theorem cnt_all (n : Nat) : cnt (List.replicate n true) = n := by
  induction n with
  | zero => rfl
  | succ n ih => rw [List.replicate_succ, cnt, ih]; omega
theorem big_of (v : List Int) (hv : ∀ x ∈ v, 0 ≤ x ∧ x ≤ 4611686018427387904) : ∀ (u dn : List Int), v = dn ++ u → bigGo (strOfNums (eights v)) (List.replicate u.length true) ((8 * dn.length : Nat) : Int) dn.length (dn ++ List.replicate u.length 0) = some v
  | [], dn, h => by simp [bigGo, h]
  | x :: u, dn, h => by
    have hb : bytesOf (strOfNums (eights v)) = eights v := bytes_str _ (eights_isB v)
    have e : eights v = eights dn ++ (leB x 8 ++ eights u) := by rw [h]; simp [eights]
    have hx := hv x (by rw [h]; simp)
    have r := num_at (eights dn) (eights u) x 8 (by omega) (by omega) hx.1 (by have := hx.2; omega) hx.2
    rw [List.length_cons, List.replicate_succ, List.replicate_succ, bigGo, hb, e, show ((8 * dn.length : Nat) : Int) = (eights dn).length by rw [eights_length]]
    rw [show ((8 : Nat) : Int) = 8 from rfl] at r
    rw [r]
    dsimp only
    have := big_of v hv u (dn ++ [x]) (by rw [h]; simp)
    rw [← e, eights_length, show ((8 * dn.length : Nat) : Int) + 8 = ((8 * (dn ++ [x]).length : Nat) : Int) by simp; omega, show dn.length + 1 = (dn ++ [x]).length by simp, show List.set (dn ++ (0 : Int) :: List.replicate u.length 0) dn.length x = dn ++ [x] ++ List.replicate u.length 0 from by simp [List.set_append]]
    exact this
theorem big_eq (v : List Int) (hl : v.length ≤ 1000) (hv : ∀ x ∈ v, 0 ≤ x ∧ x ≤ 4611686018427387904) : extra_Big.f [⟨7, ⟨#[120]⟩⟩, ⟨1, strOfNums (eights v)⟩] (List.replicate v.length true) = some (v, 0) := by
  unfold extra_Big.f
  rw [if_pos ⟨by simp, by simp; omega⟩, cnt_all]
  congr 1
  by_cases h0 : (v.length : Int) = 0
  · rw [if_pos h0]
    have : v = [] := List.eq_nil_of_length_eq_zero (by omega)
    subst this
    rfl
  · have hz : ((strOfNums (eights v)).size : Int) = 8 * (v.length : Int) := by rw [str_size, eights_length]; omega
    rw [if_neg h0, bigRes, if_neg (by decide), bigRes, if_pos rfl, cnt_all, if_pos hz]
    have := big_of v hv v [] rfl
    simp only [List.length_nil, Nat.mul_zero, List.nil_append] at this
    rw [List.length_replicate, show ((0 : Nat) : Int) = 0 from rfl] at *
    rw [this]

theorem and_small (x : Int) : 0 ≤ Go.bits .and .i64 x 4611686018427387903 ∧ Go.bits .and .i64 x 4611686018427387903 ≤ 4611686018427387903 := by
  have h : Go.bits .and .i64 x 4611686018427387903 = wrap64 (((BitVec.ofInt 64 x &&& BitVec.ofInt 64 4611686018427387903).toNat : Nat) : Int) := wi64 _
  have hb : (BitVec.ofInt 64 x &&& BitVec.ofInt 64 4611686018427387903).toNat ≤ 4611686018427387903 := by
    rw [BitVec.toNat_and]
    exact Nat.and_le_right
  rw [h, wrap64_id (by omega) (by omega)]
  omega
def vm (vs : List Int) : List Int := vs.map fun x => Go.bits .and .i64 x 4611686018427387903
theorem vm_length (vs : List Int) : (vm vs).length = vs.length := List.length_map _
theorem vm_range (vs : List Int) : ∀ x ∈ vm vs, 0 ≤ x ∧ x ≤ 4611686018427387904 := by
  intro x hx
  obtain ⟨y, _, rfl⟩ := List.mem_map.1 hx
  have := and_small y
  omega
theorem l1_go (v : List Int) (hl : v.length ≤ 3) : ∀ (j i k : Nat), i + j = v.length → j + 100 < k → stevedorelaw27_ExtraBack.l1 k v v (i : Int) = some true
  | 0, i, k + 1, hi, hk => by rw [stevedorelaw27_ExtraBack.l1, if_neg (by omega), told_at k (by omega)]; rfl
  | j + 1, i, k + 1, hi, hk => by
    rw [stevedorelaw27_ExtraBack.l1, if_pos (by omega), if_pos (by omega), if_pos (by omega), if_pos rfl, wrap64_id (by omega) (by omega), show ((i : Int) + 1) = ((i + 1 : Nat) : Int) by omega]
    exact l1_go v hl j (i + 1) k (by omega) (by omega)
theorem l0_go (vs : List Int) (hl : vs.length ≤ 3) : ∀ (j i k : Nat), i + j = vs.length → j + 300 < k → stevedorelaw27_ExtraBack.l0 k vs (vm (vs.take i)) (List.replicate i true) (i : Int) = some true
  | 0, i, k + 2, hi, hk => by
    have hv := vm_length vs
    rw [stevedorelaw27_ExtraBack.l0, if_neg (by omega), List.take_of_length_le (by omega), putBig_eq (vm vs) (by omega) (vm_range vs) (k + 1) (by omega), Option.bind_some]
    dsimp only
    rw [show i = (vm vs).length by omega, big_eq (vm vs) (by omega) (vm_range vs), Option.bind_some]
    dsimp only
    rw [if_pos rfl, bne_self_eq_false, stevedorelaw27_ExtraBack.j4, if_neg (by decide)]
    exact l1_go (vm vs) (by omega) (vm vs).length 0 k (by omega) (by omega)
  | j + 1, i, k + 1, hi, hk => by
    have hi' : i < vs.length := by omega
    have er : rd vs (i : Int) = vs[i] := by
      unfold rd
      rw [Int.toNat_natCast, List.getD_eq_getElem?_getD, List.getElem?_eq_getElem hi']
      rfl
    have e1 : vm (vs.take i) ++ [Go.bits .and .i64 (rd vs (i : Int)) 4611686018427387903] = vm (vs.take (i + 1)) := by
      unfold vm
      rw [er, List.take_succ_eq_append_getElem hi', List.map_append]
      rfl
    have e2 : List.replicate i true ++ [true] = List.replicate (i + 1) true := by rw [List.replicate_succ']
    rw [stevedorelaw27_ExtraBack.l0, if_pos (by omega), if_pos (by omega), if_pos (by rw [vm_length, List.length_take]; omega), if_pos (by rw [List.length_replicate]; omega), e1, e2, wrap64_id (by omega) (by omega), show ((i : Int) + 1) = ((i + 1 : Nat) : Int) by omega]
    exact l0_go vs hl j (i + 1) k (by omega) (by omega)
theorem j2_ok (vs : List Int) (hl : vs.length ≤ 3) (k : Nat) (hk : 400 ≤ k) : stevedorelaw27_ExtraBack.j2 k vs = some true := by
  obtain ⟨k, rfl⟩ : ∃ q, k = q + 1 := ⟨k - 1, by omega⟩
  rw [stevedorelaw27_ExtraBack.j2]
  exact l0_go vs hl vs.length 0 k (by omega) (by omega)
theorem read_total (s : ByteArray) : ∀ (k : Nat) (at_ : Int) (out : List S38), (s.size : Int) - at_ < k → at_ ≤ s.size → ∃ p, rdLoop s k at_ out = some p
  | 0, at_, out, h1, h2 => by omega
  | k + 1, at_, out, h1, h2 => by
    rw [rdLoop]
    by_cases h : at_ < (s.size : Int)
    · rw [if_pos h]
      cases hx : exNum (bytesOf s) at_ 2 with
      | none => exact ⟨_, rfl⟩
      | some id =>
        dsimp only
        cases hy : exNum (bytesOf s) (at_ + 2) 2 with
        | none => exact ⟨_, rfl⟩
        | some n =>
          have hn : 0 ≤ n := by
            unfold exNum at hy
            split at hy
            · injection hy with hy; rw [← hy]; exact (rdNum_range _ _ _ _).1
            · cases hy
          dsimp only
          by_cases hc : n > (s.size : Int) - (at_ + 4)
          · rw [if_pos hc]; exact ⟨_, rfl⟩
          · rw [if_neg hc]
            exact read_total s k (at_ + 4 + n) _ (by omega) (by omega)
    · rw [if_neg h]
      exact ⟨_, rfl⟩
theorem all_length (l : List S38) : l.length ≤ (all l).length := by
  induction l with
  | nil => simp
  | cons x l ih =>
    have : all (x :: l) = fieldB x ++ all l := by simp [all]
    rw [this, List.length_append, fieldB_length, List.length_cons]
    omega
theorem j1_ok (s : ByteArray) (hs : s.size ≤ 1000) (vs : List Int) (hl : vs.length ≤ 3) (k : Nat) (hk : 500 ≤ k) : stevedorelaw27_ExtraBack.j1 k s vs = some true := by
  obtain ⟨k, rfl⟩ : ∃ q, k = q + 1 := ⟨k - 1, by omega⟩
  rw [stevedorelaw27_ExtraBack.j1]
  obtain ⟨⟨l, e⟩, hp⟩ := read_total s (s.size + 1) 0 [] (by omega) (by omega)
  have hr : extra_Read.f s = some (l, e) := by unfold extra_Read.f; rw [if_pos (by omega), hp]
  rw [hr, Option.bind_some]
  dsimp only
  by_cases he : e = 0
  · subst he
    obtain ⟨rest, hl1, hg, ha⟩ := read_ok s (s.size + 1) 0 [] l (by omega) hp
    rw [List.nil_append] at hl1
    subst hl1
    rw [List.drop_zero] at ha
    have hal : (all l).length = s.size := by rw [ha, bytesOf_length]
    have hll := all_length l
    have hpt := put_of l [] hg (by rw [List.nil_append]; omega)
    rw [List.nil_append, ha, str_bytes] at hpt
    have hw : extra_Put.f l = some (s, 0) := by unfold extra_Put.f; rw [if_pos (by omega), hpt]
    rw [if_pos rfl, hw, Option.bind_some]
    dsimp only
    rw [if_pos rfl, if_pos rfl]
    exact j2_ok vs hl k (by omega)
  · rw [if_neg he]
    exact j2_ok vs hl k (by omega)
theorem ExtraBack (l : List S38) (s : ByteArray) (vs : List Int) (hl : l.length ≤ 9223372036854775807) : ∃ k, stevedorelaw27_ExtraBack.f k l s vs = some true := by
  refine ⟨l.length + 5001, ?_⟩
  have hj : stevedorelaw27_ExtraBack.j0 (l.length + 5001) l s vs true = some true := by
    rw [stevedorelaw27_ExtraBack.j0, if_pos rfl, told_at _ (by omega)]; rfl
  unfold stevedorelaw27_ExtraBack.f
  rw [few_eq l hl _ (by omega), Option.bind_some]
  cases hf : fewB l with
  | false => rw [if_neg (by decide)]; exact hj
  | true =>
    rw [if_pos rfl]
    by_cases h1 : (s.size : Int) > 1000
    · rw [if_pos h1]; exact hj
    · rw [if_neg h1]
      by_cases h3 : (vs.length : Int) > 3
      · rw [decide_eq_true h3]; exact hj
      · have hj1 := j1_ok s (by omega) vs (by omega) (l.length + 5000) (by omega)
        unfold fewB at hf
        rw [Bool.and_eq_true, decide_eq_true_eq] at hf
        rw [decide_eq_false h3, stevedorelaw27_ExtraBack.j0, if_neg (by decide)]
        have hw : extra_Put.f l = some (putLoop l []) := by unfold extra_Put.f; rw [if_pos (by omega)]
        rw [hw, Option.bind_some]
        obtain ⟨⟨b, e⟩, hb⟩ : ∃ p, putLoop l [] = p := ⟨_, rfl⟩
        rw [hb]
        dsimp only
        by_cases he : e = 0
        · subst he
          obtain ⟨h5, h6, h7⟩ := put_ok l [] b hb
          rw [List.nil_append] at h5 h7
          have h8 := h7 (by simp)
          have hrd := read_of (all l) (all_isB l) l [] ((all l).length + 1) h6 (by simp [all]) (by omega)
          have hr : extra_Read.f b = some (l, 0) := by
            unfold extra_Read.f
            rw [h5, str_size, if_pos (by omega)]
            exact hrd
          rw [if_pos rfl, hr, Option.bind_some]
          dsimp only
          rw [if_pos rfl, same_eq l hl _ (by omega), Option.bind_some, if_pos rfl]
          exact hj1
        · rw [if_neg he]
          exact hj1
end Go.Proofs.Ytfnicahlnpngkaa.PureBackE

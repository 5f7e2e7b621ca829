/- zipdir: what PutCentral, PutLocal put is what Central, Local read (plain). ZipdirBack: the printed namespace. -/
import Derived.Test.YtfnicahlnpngkaaZipLaw
import Derived.Test.YtfnicahlnpngkaaZipCenOfZipdirBack
import Derived.Test.YtfnicahlnpngkaaZipPutLOfZipdirBack
import Derived.Test.YtfnicahlnpngkaaZipPutCOfZipdirBack
set_option linter.unusedVariables false
set_option linter.unusedSimpArgs false
namespace Go.Proofs.Ytfnicahlnpngkaa.ZipRoundOfZipdirBack
open Go.RowKit Go.Proofs.YtfnicahlnpngkaaW.PrintWords Go.Proofs.YtfnicahlnpngkaaW.PrintLast Go.Proofs.YtfnicahlnpngkaaW.PrintMore Go.Proofs.Ytfnicahlnpngkaa.Base Go.Proofs.Ytfnicahlnpngkaa.NumRead Go.Proofs.Ytfnicahlnpngkaa.ExtraNum Go.Proofs.Ytfnicahlnpngkaa.NumAcc Go.Proofs.Ytfnicahlnpngkaa.Num1 Go.Proofs.Ytfnicahlnpngkaa.ZipRd Go.Proofs.Ytfnicahlnpngkaa.ZipNums Go.Proofs.Ytfnicahlnpngkaa.ZipText Go.Proofs.Ytfnicahlnpngkaa.ZipCom Go.Proofs.Ytfnicahlnpngkaa.ZipRow Go.Proofs.Ytfnicahlnpngkaa.ZipPut Go.Proofs.Ytfnicahlnpngkaa.ZipEnd Go.Proofs.Ytfnicahlnpngkaa.ZipCm Go.Proofs.Ytfnicahlnpngkaa.ZipMay Go.Proofs.Ytfnicahlnpngkaa.ZipLaw Go.Proofs.Ytfnicahlnpngkaa.PZipdirBack Go.Proofs.Ytfnicahlnpngkaa.ExtraOfZipdirBack Go.Proofs.Ytfnicahlnpngkaa.ExtraPutOfZipdirBack Go.Proofs.Ytfnicahlnpngkaa.ExtraBigOfZipdirBack Go.Proofs.Ytfnicahlnpngkaa.ZipGreatOfZipdirBack Go.Proofs.Ytfnicahlnpngkaa.ZipLocOfZipdirBack Go.Proofs.Ytfnicahlnpngkaa.ZipCenOfZipdirBack Go.Proofs.Ytfnicahlnpngkaa.ZipFieldsOfZipdirBack
theorem str_app (a b : List Int) : strOfNums (a ++ b) = strOfNums a ++ strOfNums b := by
  apply ByteArray.ext
  simp [strOfNums]
theorem str_bytes (s : ByteArray) : strOfNums (bytesOf s) = s := by
  apply ByteArray.ext
  apply Array.ext'
  rw [strOfNums_data]
  unfold bytesOf
  rw [List.map_map]
  exact (List.map_congr_left (fun b _ => by simp)).trans (List.map_id _)
theorem str_size (a : List Int) : (strOfNums a).size = a.length := strOfNums_size a
def IsB (l : List Int) : Prop := ∀ x ∈ l, 0 ≤ x ∧ x < 256
theorem bytes_str (l : List Int) (h : IsB l) : bytesOf (strOfNums l) = l := by
  unfold bytesOf
  rw [strOfNums_data, List.map_map]
  refine (List.map_congr_left (fun b hb => ?_)).trans (List.map_id _)
  have := h b hb
  simp only [Function.comp, UInt8.toNat_ofNat', id]
  omega
theorem isB_bytes (s : ByteArray) : IsB (bytesOf s) := by
  intro x hx
  unfold bytesOf at hx
  obtain ⟨b, _, rfl⟩ := List.mem_map.1 hx
  have := b.toNat_lt
  omega
theorem bytes_extract (s : ByteArray) (i n : Nat) : bytesOf (s.extract i (i + n)) = ((bytesOf s).drop i).take n := by
  unfold bytesOf
  rw [← List.map_drop, ← List.map_take]
  congr 1
  rw [ByteArray.data_extract, Array.toList_extract, List.extract_eq_take_drop, show i + n - i = n by omega]
theorem str_extract (l : List Int) (i n : Nat) : (strOfNums l).extract i (i + n) = strOfNums ((l.drop i).take n) := by
  apply ByteArray.ext
  apply Array.ext'
  rw [ByteArray.data_extract, Array.toList_extract, List.extract_eq_take_drop, strOfNums_data, strOfNums_data, List.map_take, List.map_drop, show i + n - i = n by omega]
theorem leB_isB (v n : Int) : IsB (leB v n) := by
  intro x hx
  unfold leB at hx
  split at hx
  · cases hx
  · obtain ⟨j, hj, rfl⟩ := List.mem_iff_getElem.1 hx
    rw [bs_length] at hj
    have e := bs_getD (byteAt v) n.toNat j 0 hj
    rw [List.getD_eq_getElem?_getD, List.getElem?_eq_getElem (by rw [bs_length]; exact hj)] at e
    rw [show (bs (byteAt v) 0 n.toNat)[j] = byteAt v (0 + (j : Int)) from e]
    exact byteAt_range _ _
theorem two_at (a b : List Int) (v : Int) (h0 : 0 ≤ v) (hv : v < 65536) (p : Int) (hp : p = a.length) : exNum (a ++ (leB v 2 ++ b)) p 2 = some v := by
  subst hp
  exact num_at a b v 2 (by omega) (by omega) h0 (by simpa using hv) (by omega)

/-! ### Read of Put -/
def Good (x : S38) : Prop := 0 ≤ x.f0 ∧ x.f0 ≤ 65535 ∧ x.f1.size ≤ 65535
def all (l : List S38) : List Int := l.flatMap fieldB
theorem field_eq (x : S38) (h : Good x) : fieldB x = leB x.f0 2 ++ (leB (x.f1.size : Int) 2 ++ bytesOf x.f1) := by
  unfold fieldB
  obtain ⟨h0, h1, h2⟩ := h
  rw [wu64 h0 (by omega), wu64 (n := (x.f1.size : Int)) (by omega) (by omega), List.append_assoc]
theorem field_isB (x : S38) : IsB (fieldB x) := by
  intro y hy
  unfold fieldB at hy
  rcases List.mem_append.1 hy with hy | hy
  · rcases List.mem_append.1 hy with hy | hy
    · exact leB_isB _ _ y hy
    · exact leB_isB _ _ y hy
  · exact isB_bytes _ y hy
theorem all_isB (l : List S38) : IsB (all l) := by
  intro y hy
  obtain ⟨x, _, hx⟩ := List.mem_flatMap.1 hy
  exact field_isB x y hx
theorem put_ok : ∀ (l : List S38) (b : List Int) (s : ByteArray), putLoop l b = (s, 0) → s = strOfNums (b ++ all l) ∧ (∀ x ∈ l, Good x) ∧ (b.length ≤ 65535 → (b ++ all l).length ≤ 65535)
  | [], b, s, h => by
    rw [putLoop] at h
    exact ⟨by rw [← (Prod.mk.inj h).1]; simp [all], by simp, fun hb => by simpa [all] using hb⟩
  | x :: l, b, s, h => by
    rw [putLoop] at h
    split at h
    · exact absurd (Prod.mk.inj h).2 (by omega)
    · rename_i hc
      have h' := put_ok l (b ++ fieldB x) s h
      have e : b ++ fieldB x ++ all l = b ++ all (x :: l) := by simp [all]
      rw [e] at h'
      have hfl := fieldB_length x
      refine ⟨h'.1, fun y hy => ?_, fun hb => h'.2.2 (by rw [List.length_append, hfl]; omega)⟩
      rcases List.mem_cons.1 hy with rfl | hy
      · exact ⟨by omega, by omega, by omega⟩
      · exact h'.2.1 y hy
theorem put_of : ∀ (l : List S38) (b : List Int), (∀ x ∈ l, Good x) → (b ++ all l).length ≤ 65535 → putLoop l b = (strOfNums (b ++ all l), 0)
  | [], b, _, _ => by rw [putLoop]; simp [all]
  | x :: l, b, hg, hl => by
    have e : b ++ fieldB x ++ all l = b ++ all (x :: l) := by simp [all]
    have hfl := fieldB_length x
    have hx := hg x List.mem_cons_self
    have hl2 : (b ++ fieldB x ++ all l).length ≤ 65535 := by rw [e]; exact hl
    rw [List.length_append, List.length_append, hfl] at hl2
    rw [putLoop, if_neg (by have := hx.1; have := hx.2.1; have := hx.2.2; omega), put_of l (b ++ fieldB x) (fun y hy => hg y (List.mem_cons_of_mem _ hy)) (by rw [e]; exact hl), e]
theorem read_of (B : List Int) (hB : IsB B) : ∀ (l dn : List S38) (k : Nat), (∀ x ∈ l, Good x) → B = all dn ++ all l → (all l).length < k → rdLoop (strOfNums B) k ((all dn).length : Int) dn = some (dn ++ l, 0)
  | [], dn, k + 1, _, he, _ => by
    rw [rdLoop, if_neg (by rw [str_size, he]; simp [all])]
    simp
  | x :: l, dn, k + 1, hg, he, hk => by
    have hx := hg x List.mem_cons_self
    have hfl := fieldB_length x
    have hal : all (x :: l) = fieldB x ++ all l := by simp [all]
    have hlen : (all (x :: l)).length = 4 + x.f1.size + (all l).length := by rw [hal, List.length_append, hfl]
    have hdn : all (dn ++ [x]) = all dn ++ fieldB x := by simp [all]
    have n2 : ∀ v, (leB v 2).length = 2 := fun v => by rw [leB_length, if_neg (by omega)]; rfl
    have e1 : B = all dn ++ (leB x.f0 2 ++ ((leB (x.f1.size : Int) 2 ++ bytesOf x.f1) ++ all l)) := by rw [he, hal, field_eq x hx]; simp only [List.append_assoc]
    have e2 : B = (all dn ++ leB x.f0 2) ++ (leB (x.f1.size : Int) 2 ++ (bytesOf x.f1 ++ all l)) := by rw [e1]; simp only [List.append_assoc]
    have e3 : B = ((all dn ++ leB x.f0 2) ++ leB (x.f1.size : Int) 2) ++ (bytesOf x.f1 ++ all l) := by rw [e1]; simp only [List.append_assoc]
    have hb : bytesOf (strOfNums B) = B := bytes_str B hB
    have hsz : ((strOfNums B).size : Int) = (all dn).length + (4 + x.f1.size + (all l).length) := by rw [str_size, he, List.length_append, hlen]; omega
    have r1 : exNum (bytesOf (strOfNums B)) ((all dn).length : Int) 2 = some x.f0 := by
      rw [hb, e1]; exact two_at _ _ _ hx.1 (by have := hx.2.1; omega) _ rfl
    have r2 : exNum (bytesOf (strOfNums B)) ((all dn).length + 2 : Int) 2 = some (x.f1.size : Int) := by
      rw [hb, e2]; exact two_at _ _ _ (by omega) (by have := hx.2.2; omega) _ (by rw [List.length_append, n2]; omega)
    have r3 : (strOfNums B).extract ((all dn).length + 4 : Int).toNat ((all dn).length + 4 + (x.f1.size : Int)).toNat = x.f1 := by
      rw [show ((all dn).length + 4 : Int).toNat = (all dn).length + 4 by omega, show ((all dn).length + 4 + (x.f1.size : Int)).toNat = (all dn).length + 4 + x.f1.size by omega, str_extract]
      have hd : B.drop ((all dn).length + 4) = bytesOf x.f1 ++ all l := by
        rw [e3]
        exact List.drop_left' (by rw [List.length_append, List.length_append, n2, n2])
      rw [hd, List.take_left' (by rw [bytesOf_length]), str_bytes]
    rw [rdLoop, if_pos (by omega), r1]
    dsimp only
    rw [r2]
    dsimp only
    rw [if_neg (by omega), r3]
    have := read_of B hB l (dn ++ [x]) k (fun y hy => hg y (List.mem_cons_of_mem _ hy)) (by rw [hdn, he, hal, List.append_assoc]) (by omega)
    rw [hdn, List.length_append, hfl] at this
    rw [show ((all dn).length : Int) + 4 + (x.f1.size : Int) = (((all dn).length + (4 + x.f1.size) : Nat) : Int) by omega, this]
    simp

def eights (v : List Int) : List Int := v.flatMap fun x => leB x 8
theorem eights_length (v : List Int) : (eights v).length = 8 * v.length := by
  induction v with
  | nil => rfl
  | cons x v ih =>
    have : eights (x :: v) = leB x 8 ++ eights v := by simp [eights]
    rw [this, List.length_append, ih, leB_length, if_neg (by omega), List.length_cons]
    omega
theorem eights_isB (v : List Int) : IsB (eights v) := by
  intro y hy
  obtain ⟨x, _, hx⟩ := List.mem_flatMap.1 hy
  exact leB_isB x 8 y hx
theorem putBig_go (v : List Int) (hl : v.length ≤ 1000) (hv : ∀ x ∈ v, 0 ≤ x ∧ x ≤ 4611686018427387904) : ∀ (j i k : Nat) (b : List Int), i + j = v.length → j < k → b.length ≤ 8 * i → PZip2.extra_PutBig.l0 k b v (v.length : Int) (i : Int) = some (1, strOfNums (b ++ eights (v.drop i)))
  | 0, i, k + 1, b, hi, hk, hb => by
    rw [PZip2.extra_PutBig.l0, if_neg (by omega), List.drop_of_length_le (by omega)]
    simp [eights]
  | j + 1, i, k + 1, b, hi, hk, hb => by
    have hi' : i < v.length := by omega
    have e : v.drop i = v[i] :: v.drop (i + 1) := List.drop_eq_getElem_cons hi'
    have er : rd v (i : Int) = v[i] := by
      unfold rd
      rw [Int.toNat_natCast, List.getD_eq_getElem?_getD, List.getElem?_eq_getElem hi']
      rfl
    have hx := hv _ (List.getElem_mem hi')
    have n8 : ∀ v, (leB v 8).length = 8 := fun v => by rw [leB_length, if_neg (by omega)]; rfl
    have e2 : eights (v.drop i) = leB v[i] 8 ++ eights (v.drop (i + 1)) := by unfold eights; rw [e, List.flatMap_cons]
    rw [PZip2.extra_PutBig.l0, if_pos (by omega), if_pos (by omega), if_pos (by omega), er, wu64 hx.1 (by omega)]
    unfold num_PutLittle.f
    rw [if_pos (by omega), Option.bind_some, wrap64_id (by omega) (by omega), show ((i : Int) + 1) = ((i + 1 : Nat) : Int) by omega, putBig_go v hl hv j (i + 1) k _ (by omega) (by omega) (by rw [List.length_append, n8]; omega), e2, List.append_assoc]
theorem putBig_eq (v : List Int) (hl : v.length ≤ 1000) (hv : ∀ x ∈ v, 0 ≤ x ∧ x ≤ 4611686018427387904) (k : Nat) (hk : v.length < k) : PZip2.extra_PutBig.f k v = some (1, strOfNums (eights v)) := by
  have := putBig_go v hl hv v.length 0 k [] (by omega) hk (by simp)
  exact this
theorem all_length (l : List S38) : l.length ≤ (all l).length := by
  induction l with
  | nil => simp
  | cons x l ih =>
    have : all (x :: l) = fieldB x ++ all l := by simp [all]
    rw [this, List.length_append, fieldB_length, List.length_cons]
    omega

/-! ### great numbers among others -/
/-- a number as it stands in a header. -/
def sm (x : Int) : Int := if x ≥ 4294967295 then 4294967295 else x
theorem small_eq (x : Int) (h0 : 0 ≤ x) : small_ x = sm x := by
  unfold small_ mn sm
  split
  · rw [if_pos (by omega), wu64 (by omega) (by omega)]
  · by_cases h : x ≥ 4294967295
    · rw [if_pos h, wu64 (by omega) (by omega)]; omega
    · rw [if_neg h, wu64 (by omega) (by omega)]
theorem wants_sm (vs : List Int) : wants (vs.map sm) = vs.map fun x => decide (x ≥ 4294967295) := by
  unfold wants
  rw [List.map_map]
  refine List.map_congr_left fun x _ => ?_
  simp only [Function.comp, sm]
  by_cases h : x ≥ 4294967295
  · rw [if_pos h, decide_eq_true h]; rfl
  · rw [if_neg h, decide_eq_false h]
    simp only [beq_eq_false_iff_ne]; omega
theorem cnt_bigs : ∀ vs : List Int, cnt (vs.map fun x => decide (x ≥ 4294967295)) = (bigs vs).length
  | [] => rfl
  | x :: vs => by
    rw [List.map_cons, bigs, List.filter_cons]
    by_cases h : x ≥ 4294967295
    · rw [decide_eq_true h, cnt, cnt_bigs vs, if_pos rfl, List.length_cons, bigs]; omega
    · rw [decide_eq_false h, cnt, cnt_bigs vs, if_neg (by simp), bigs]
def shownB (vs : List Int) : List Int := vs.map fun x => if x ≥ 4294967295 then x else 0
theorem big_mixed (B : List Int) (hB : IsB B) : ∀ (vs dn pre : List Int), (∀ x ∈ vs, 0 ≤ x ∧ x ≤ 4611686018427387904) → B = eights dn ++ eights (bigs vs) → bigGo (strOfNums B) (vs.map fun x => decide (x ≥ 4294967295)) ((8 * dn.length : Nat) : Int) pre.length (pre ++ List.replicate vs.length 0) = some (pre ++ shownB vs)
  | [], dn, pre, _, _ => by simp [bigGo, shownB]
  | x :: vs, dn, pre, hv, h => by
    have hx := hv x List.mem_cons_self
    have ht := fun y hy => hv y (List.mem_cons_of_mem _ hy)
    rw [List.map_cons]
    by_cases hb : x ≥ 4294967295
    · have e : bigs (x :: vs) = x :: bigs vs := by rw [bigs, List.filter_cons, if_pos (by simpa using hb)]; rfl
      rw [e] at h
      have e2 : B = eights dn ++ (leB x 8 ++ eights (bigs vs)) := by rw [h]; simp [eights]
      have r := num_at (eights dn) (eights (bigs vs)) x 8 (by omega) (by omega) hx.1 (by have := hx.2; omega) hx.2
      rw [show ((8 : Nat) : Int) = 8 from rfl, ← e2] at r
      rw [decide_eq_true hb, bigGo, bytes_str B hB, show ((8 * dn.length : Nat) : Int) = (eights dn).length by rw [eights_length], r]
      dsimp only
      have ih := big_mixed B hB vs (dn ++ [x]) (pre ++ [x]) ht (by rw [h]; simp [eights])
      have hs : List.set (pre ++ List.replicate (x :: vs).length 0) pre.length x = pre ++ [x] ++ List.replicate vs.length 0 := by
        rw [List.length_cons, List.replicate_succ]; simp [List.set_append]
      rw [eights_length, hs, show ((8 * dn.length : Nat) : Int) + 8 = ((8 * (dn ++ [x]).length : Nat) : Int) by simp; omega, show pre.length + 1 = (pre ++ [x]).length by simp, ih, shownB, shownB, List.map_cons, if_pos hb, List.append_assoc]
      rfl
    · have e : bigs (x :: vs) = bigs vs := by rw [bigs, List.filter_cons, if_neg (by simpa using hb)]; rfl
      rw [e] at h
      have ih := big_mixed B hB vs dn (pre ++ [0]) ht h
      rw [decide_eq_false hb, bigGo, show pre.length + 1 = (pre ++ [(0 : Int)]).length by simp, show pre ++ List.replicate (x :: vs).length 0 = pre ++ [0] ++ List.replicate vs.length 0 by rw [List.length_cons, List.replicate_succ]; simp, ih, shownB, shownB, List.map_cons, if_neg hb, List.append_assoc]
      rfl
theorem pick_shown : ∀ vs : List Int, pick (vs.map sm) (shownB vs) = vs
  | [] => rfl
  | x :: vs => by
    have ih := pick_shown vs
    unfold pick shownB at ih ⊢
    rw [List.map_cons, List.map_cons, List.zipWith_cons_cons, ih]
    congr 1
    unfold sm
    by_cases h : x ≥ 4294967295
    · rw [if_pos h, if_pos h, if_pos rfl]
    · rw [if_neg h, if_neg h, if_neg (by omega)]
theorem pick_zeros : ∀ vs : List Int, bigs vs = [] → pick (vs.map sm) (List.replicate vs.length 0) = vs
  | [], _ => rfl
  | x :: vs, h => by
    rw [bigs, List.filter_cons] at h
    by_cases hb : x ≥ 4294967295
    · rw [if_pos (by simpa using hb)] at h; cases h
    · rw [if_neg (by simpa using hb)] at h
      have ih := pick_zeros vs h
      unfold pick at ih ⊢
      rw [List.map_cons, List.length_cons, List.replicate_succ, List.zipWith_cons_cons, ih]
      congr 1
      unfold sm
      rw [if_neg hb, if_neg (by omega)]
theorem keep_all {xs : List S38} (h : hasOne xs = false) : keepX xs = xs := by
  unfold keepX
  rw [List.filter_eq_self]
  intro f hf
  unfold hasOne at h
  rw [List.any_eq_false] at h
  have := h f hf
  simpa using this
theorem read_q {L : List S38} {q : ByteArray} (hq : q = strOfNums (all L)) (hg : ∀ x ∈ L, Good x) (hl : (all L).length ≤ 65535) : extra_Read.f q = some (L, 0) := by
  have hs : q.size = (all L).length := by rw [hq, str_size]
  unfold extra_Read.f
  rw [if_pos (by omega), hs, hq]
  have := read_of (all L) (all_isB L) L [] ((all L).length + 1) hg (by simp [all]) (by omega)
  simpa [all] using this
/-- fields that were put are read, the great numbers in their places. -/
theorem fields_great (xs : List S38) (vs : List Int) (q : ByteArray) (hv : ∀ x ∈ vs, 0 ≤ x ∧ x ≤ 4611686018427387904) (h : fieldsF xs vs = some (q, true)) : greatF q (vs.map sm) = some (some (xs, vs)) ∧ q.size ≤ 65535 := by
  unfold fieldsF at h
  split at h
  · rename_i hl
    obtain ⟨hl1, hl2⟩ := hl
    split at h
    · simp at h
    · rename_i hone
      have hone : hasOne xs = false := by simpa using hone
      have putOk : ∀ L : List S38, (extra_Put.f L).map putR = some (q, true) → q = strOfNums (all L) ∧ (∀ x ∈ L, Good x) ∧ (all L).length ≤ 65535 := by
        intro L hL
        obtain ⟨⟨s, e⟩, hp, hr⟩ := Option.map_eq_some_iff.1 hL
        unfold putR at hr
        simp only [Prod.mk.injEq, beq_iff_eq] at hr
        obtain ⟨rfl, rfl⟩ := hr
        unfold extra_Put.f at hp
        split at hp
        · injection hp with hp
          have := put_ok L [] s hp
          simpa using this
        · cases hp
      split at h
      · rename_i h0
        obtain ⟨p1, p2, p3⟩ := putOk xs h
        have hb : bigs vs = [] := List.eq_nil_of_length_eq_zero h0
        refine ⟨?_, by rw [p1, str_size]; omega⟩
        unfold greatF
        rw [read_q p1 p2 p3]
        have := all_length xs
        simp only [if_true]
        rw [if_pos (by omega), wants_sm]
        unfold extra_Big.f
        rw [if_pos ⟨by omega, by rw [List.length_map]; omega⟩, cnt_bigs, if_pos (by omega), List.length_map]
        simp only [if_true]
        rw [keep_all hone, pick_zeros vs hb]
      · rename_i h0
        have hbl : (bigs vs).length ≤ vs.length := List.length_filter_le _ _
        have hbv : ∀ x ∈ bigs vs, 0 ≤ x ∧ x ≤ 4611686018427387904 := fun x hx => hv x (List.mem_filter.1 hx).1
        rw [putBig_eq (bigs vs) (by omega) hbv (vs.length + 1) (by omega), Option.bind_some] at h
        obtain ⟨p1, p2, p3⟩ := putOk _ h
        refine ⟨?_, by rw [p1, str_size]; omega⟩
        unfold greatF
        rw [read_q p1 p2 p3]
        have := all_length (⟨1, strOfNums (eights (bigs vs))⟩ :: xs)
        have p3 : (all (⟨1, strOfNums (eights (bigs vs))⟩ :: xs)).length ≤ 65535 := p3
        simp only [if_true]
        rw [if_pos (by omega), wants_sm]
        unfold extra_Big.f
        rw [if_pos ⟨by rw [List.length_cons] at *; omega, by rw [List.length_map]; omega⟩, cnt_bigs, if_neg (by omega), bigRes, if_pos rfl, if_pos (by rw [str_size, eights_length, cnt_bigs]; omega)]
        have hm := big_mixed (eights (bigs vs)) (eights_isB _) vs [] [] hv (by simp [eights])
        simp only [List.length_nil, Nat.mul_zero, List.nil_append] at hm
        rw [show ((0 : Nat) : Int) = 0 from rfl] at hm
        rw [List.length_map, hm]
        simp only [if_true]
        rw [pick_shown]
        have hk : keepX (⟨1, strOfNums (eights (bigs vs))⟩ :: xs) = xs := by
          unfold keepX
          rw [List.filter_cons, if_neg (by simp)]
          exact keep_all hone
        rw [hk]
  · cases h
/-! ### texts, dates -/
theorem tx_step {l : List Int} {p : Nat} {s : ByteArray} {rest : List Int} (h : l.drop p = bytesOf s ++ rest) (hp : p ≤ l.length) : tx l (p : Int) false (s.size : Int) = (s, ((p + s.size : Nat) : Int), false) ∧ l.drop (p + s.size) = rest ∧ p + s.size ≤ l.length := by
  have hlen := congrArg List.length h
  rw [List.length_drop, List.length_append, bytesOf_length] at hlen
  refine ⟨?_, ?_, by omega⟩
  · unfold tx
    rw [if_neg (by simp; omega), Int.toNat_natCast, Int.toNat_natCast, h, List.take_left' (bytesOf_length _), str_bytes]
    simp
  · rw [← List.drop_drop, h, List.drop_left' (bytesOf_length _)]
theorem wraps_i64 (n : Int) (h₀ : 0 ≤ n) (h₁ : n < 2 ^ 62) : IntKind.i64.wrap n = n := by rw [IntKind.wrap_i64]; omega
theorem i64_join (i : Nat) (x y : Int) (hx₀ : 0 ≤ x) (hx : x % 2 ^ i = 0) (hx₁ : x < 4611686018427387904) (hy₀ : 0 ≤ y) (hy : y < 2 ^ i) (hy₁ : y < 4611686018427387904) : Go.bits .or .i64 x y = x + y :=
  bits_join .i64 62 (by decide) wraps_i64 i x y hx₀ hx hx₁ hy₀ hy hy₁
theorem date_back (d : Int) (h0 : 0 ≤ d) (h1 : d ≤ 4294967295) : dateOf (d / 65536) (d % 65536) = d := by
  unfold dateOf
  rw [wrap64_id (by omega) (by omega)]
  have hm : d / 65536 * 65536 % 2 ^ 16 = 0 := by
    have : (2 : Int) ^ 16 = 65536 := by decide
    rw [this]; omega
  have h2 : (2 : Int) ^ 16 = 65536 := by decide
  rw [i64_join 16 _ _ (by omega) hm (by omega) (by omega) (by omega) (by omega)]
  omega
theorem date_low (d : Int) (h0 : 0 ≤ d) (h1 : d ≤ 4294967295) : Go.bits .and .i64 d 65535 = d % 65536 := by
  have := and_i64 16 (by omega) (x := d) (m := 65535) (by decide) h0 (by omega)
  rw [this]
  have h2 : (2 : Int) ^ 16 = 65536 := by decide
  rw [h2]
theorem within_all {m : Int} {l : List Int} (h : within_ m l = true) : ∀ x ∈ l, 0 ≤ x ∧ x ≤ m := by
  intro x hx
  unfold within_ at h
  rw [List.all_eq_true] at h
  have := h x hx
  simpa using this
/-! ### the headers' bytes -/
def comB (m1 m2 m3 m4 m5 m6 m7 : Int) (nm q : ByteArray) (rest : List Int) : List Int :=
  flat 2 [m1, m2, m3, m4 % 65536, m4 / 65536] ++ (flat 4 [m5, sm m6, sm m7] ++ (flat 2 [(nm.size : Int), (q.size : Int)] ++ rest))
def cenB (m0 m1 m2 m3 m4 m5 m6 m7 : Int) (nm cm : ByteArray) (m11 m12 : Int) (q : ByteArray) : List Int :=
  flat 4 [33639248] ++ (flat 2 [m0] ++ comB m1 m2 m3 m4 m5 m6 m7 nm q (flat 2 [(cm.size : Int), 0, 0] ++ (flat 4 [m11, sm m12] ++ (bytesOf nm ++ (bytesOf q ++ bytesOf cm)))))
def locB (m1 m2 m3 m4 m5 m6 m7 : Int) (nm q : ByteArray) : List Int :=
  flat 4 [67324752] ++ comB m1 m2 m3 m4 m5 m6 m7 nm q (bytesOf nm ++ bytesOf q)
structure MayR (m0 m1 m2 m3 m4 m5 m6 m7 : Int) (nm cm : ByteArray) (m11 m12 : Int) : Prop where
  w0 : 0 ≤ m0 ∧ m0 ≤ 65535
  w1 : 0 ≤ m1 ∧ m1 ≤ 65535
  w2 : 0 ≤ m2 ∧ m2 ≤ 65535
  w3 : 0 ≤ m3 ∧ m3 ≤ 65535
  w4 : 0 ≤ m4 ∧ m4 ≤ 4294967295
  w5 : 0 ≤ m5 ∧ m5 ≤ 4294967295
  w6 : 0 ≤ m6 ∧ m6 ≤ 4611686018427387904
  w7 : 0 ≤ m7 ∧ m7 ≤ 4611686018427387904
  wn : nm.size ≤ 65535
  wc : cm.size ≤ 65535
  w11 : 0 ≤ m11 ∧ m11 ≤ 4294967295
  w12 : 0 ≤ m12 ∧ m12 ≤ 4611686018427387904
theorem may_range {m0 m1 m2 m3 m4 m5 m6 m7 m11 m12 : Int} {nm cm : ByteArray} (h : mayB m0 m1 m2 m3 m4 m6 m7 (nm.size : Int) (cm.size : Int) m12 = true) (h5 : 0 ≤ m5 ∧ m5 ≤ 4294967295) (h11 : 0 ≤ m11 ∧ m11 ≤ 4294967295) : MayR m0 m1 m2 m3 m4 m5 m6 m7 nm cm m11 m12 := by
  unfold mayB at h
  rw [Bool.and_eq_true, Bool.and_eq_true] at h
  obtain ⟨⟨a, b⟩, c⟩ := h
  have a := within_all a
  have b := within_all b
  have c := within_all c
  exact ⟨a m0 (by simp), a m1 (by simp), a m2 (by simp), a m3 (by simp), b m4 (by simp), h5, c m6 (by simp), c m7 (by simp), by have := a (nm.size : Int) (by simp); omega, by have := a (cm.size : Int) (by simp); omega, h11, c m12 (by simp)⟩
theorem com_eq {m0 m1 m2 m3 m4 m5 m6 m7 m11 m12 : Int} {nm cm : ByteArray} (h : MayR m0 m1 m2 m3 m4 m5 m6 m7 nm cm m11 m12) (q : ByteArray) (hq : q.size ≤ 65535) (l : List Int) : comOf l m1 m2 m3 m4 m5 m6 m7 (nm.size : Int) (q.size : Int) = l ++ (flat 2 [m1, m2, m3, m4 % 65536, m4 / 65536] ++ (flat 4 [m5, sm m6, sm m7] ++ flat 2 [(nm.size : Int), (q.size : Int)])) := by
  have w := fun (x : Int) (h0 : 0 ≤ x) (h1 : x ≤ 4611686018427387904) => wu64 (n := x) h0 (by omega)
  have a1 := h.w1; have a2 := h.w2; have a3 := h.w3; have a4 := h.w4; have a5 := h.w5; have a6 := h.w6; have a7 := h.w7; have an := h.wn
  unfold comOf
  simp only [putAll_flat]
  rw [date_low m4 a4.1 a4.2, w m1 a1.1 (by omega), w m2 a2.1 (by omega), w m3 a3.1 (by omega), w (m4 % 65536) (by omega) (by omega), w (m4 / 65536) (by omega) (by omega), w m5 a5.1 (by omega), small_eq m6 a6.1, small_eq m7 a7.1, w (nm.size : Int) (by omega) (by omega), w (q.size : Int) (by omega) (by omega)]
  simp only [List.append_assoc]
theorem bytes_app (a b : ByteArray) : bytesOf (a ++ b) = bytesOf a ++ bytesOf b := by simp [bytesOf]
theorem cen_eq {m0 m1 m2 m3 m4 m5 m6 m7 m11 m12 : Int} {nm cm : ByteArray} (h : MayR m0 m1 m2 m3 m4 m5 m6 m7 nm cm m11 m12) (q : ByteArray) (hq : q.size ≤ 65535) : ZipPutCOfZipdirBack.bytesPut m0 m1 m2 m3 m4 m5 m6 m7 nm cm m11 m12 q = cenB m0 m1 m2 m3 m4 m5 m6 m7 nm cm m11 m12 q := by
  have w := fun (x : Int) (h0 : 0 ≤ x) (h1 : x ≤ 4611686018427387904) => wu64 (n := x) h0 (by omega)
  have a0 := h.w0; have ac := h.wc; have a11 := h.w11; have a12 := h.w12
  unfold ZipPutCOfZipdirBack.bytesPut cenB comB
  rw [com_eq h q hq]
  simp only [putAll_flat]
  rw [w m0 a0.1 (by omega), w (cm.size : Int) (by omega) (by omega), w m11 a11.1 (by omega), small_eq m12 a12.1, bytes_app, bytes_app]
  simp only [List.append_assoc, List.nil_append]
theorem loc_eq {m0 m1 m2 m3 m4 m5 m6 m7 m11 m12 : Int} {nm cm : ByteArray} (h : MayR m0 m1 m2 m3 m4 m5 m6 m7 nm cm m11 m12) (q : ByteArray) (hq : q.size ≤ 65535) : ZipPutLOfZipdirBack.bytesPut m0 m1 m2 m3 m4 m5 m6 m7 nm cm m11 m12 q = locB m1 m2 m3 m4 m5 m6 m7 nm q := by
  unfold ZipPutLOfZipdirBack.bytesPut locB comB
  rw [com_eq h q hq]
  simp only [putAll_flat]
  rw [bytes_app]
  simp only [List.append_assoc, List.nil_append]
theorem sm_fits {x : Int} (h : 0 ≤ x) : Fits 4 (sm x) := by
  unfold sm
  split
  · exact fits4 (by omega) (by omega)
  · exact fits4 (by omega) (by omega)
/-- the three rows of numbers that both headers bear are read. -/
theorem com_read {m0 m1 m2 m3 m4 m5 m6 m7 m11 m12 : Int} {nm cm : ByteArray} (h : MayR m0 m1 m2 m3 m4 m5 m6 m7 nm cm m11 m12) (q : ByteArray) (hq : q.size ≤ 65535) {l : List Int} {p : Nat} {rest : List Int} (hd : l.drop p = comB m1 m2 m3 m4 m5 m6 m7 nm q rest) (hp : p ≤ l.length) :
    s1 l (p : Int) false = ([m1, m2, m3, m4 % 65536, m4 / 65536], ((p + 10 : Nat) : Int), false) ∧ s2 l (p : Int) false = ([m5, sm m6, sm m7], ((p + 22 : Nat) : Int), false) ∧ s3 l (p : Int) false = ([(nm.size : Int), (q.size : Int)], ((p + 26 : Nat) : Int), false) ∧ l.drop (p + 26) = rest ∧ p + 26 ≤ l.length := by
  have a1 := h.w1; have a2 := h.w2; have a3 := h.w3; have a4 := h.w4; have a5 := h.w5; have a6 := h.w6; have a7 := h.w7; have an := h.wn
  obtain ⟨b1, b2, b3⟩ := nxi_all (n := 2) (by omega) (by omega) (vs := [m1, m2, m3, m4 % 65536, m4 / 65536]) (fun v hv => by simp only [List.mem_cons, List.not_mem_nil, or_false] at hv; rcases hv with rfl | rfl | rfl | rfl | rfl <;> exact fits2 (by omega) (by omega)) hd hp 5 rfl
  obtain ⟨c1, c2, c3⟩ := nxi_all (n := 4) (by omega) (by omega) (vs := [m5, sm m6, sm m7]) (fun v hv => by
    simp only [List.mem_cons, List.not_mem_nil, or_false] at hv
    rcases hv with rfl | rfl | rfl
    · exact fits4 (by omega) (by omega)
    · exact sm_fits a6.1
    · exact sm_fits a7.1) b2 b3 3 rfl
  obtain ⟨d1, d2, d3⟩ := nxi_all (n := 2) (by omega) (by omega) (vs := [(nm.size : Int), (q.size : Int)]) (fun v hv => by simp only [List.mem_cons, List.not_mem_nil, or_false] at hv; rcases hv with rfl | rfl <;> exact fits2 (by omega) (by omega)) c2 c3 2 rfl
  have e1 : s1 l (p : Int) false = ([m1, m2, m3, m4 % 65536, m4 / 65536], ((p + 10 : Nat) : Int), false) := b1
  have e2 : s2 l (p : Int) false = ([m5, sm m6, sm m7], ((p + 22 : Nat) : Int), false) := by unfold s2; rw [e1]; exact c1
  have e3 : s3 l (p : Int) false = ([(nm.size : Int), (q.size : Int)], ((p + 26 : Nat) : Int), false) := by unfold s3; rw [e2]; exact d1
  exact ⟨e1, e2, e3, d2, d3⟩
theorem local_of {m0 m1 m2 m3 m4 m5 m6 m7 m11 m12 : Int} {nm cm : ByteArray} (h : MayR m0 m1 m2 m3 m4 m5 m6 m7 nm cm m11 m12) (xs : List S38) (q : ByteArray) (hf : fieldsF xs [m7, m6] = some (q, true)) {l : List Int} {p : Nat} {rest : List Int} (hl : l.length ≤ 1000000) (hd : l.drop p = locB m1 m2 m3 m4 m5 m6 m7 nm q ++ rest) (hp : p ≤ l.length) :
    zipdir_Local.f l (p : Int) = some (0, m1, m2, m3, m4, m5, m6, m7, nm, xs, ⟨#[]⟩, 0, 0, ((p + 30 + nm.size + q.size : Nat) : Int), 0) := by
  have a4 := h.w4; have a5 := h.w5; have a6 := h.w6; have a7 := h.w7
  obtain ⟨hg, hq⟩ := fields_great xs [m7, m6] q (fun x hx => by simp only [List.mem_cons, List.not_mem_nil, or_false] at hx; rcases hx with rfl | rfl <;> assumption) hf
  have hd1 : l.drop p = leB 67324752 (4 : Nat) ++ comB m1 m2 m3 m4 m5 m6 m7 nm q (bytesOf nm ++ (bytesOf q ++ rest)) := by rw [hd, locB]; simp [flat, comB]
  obtain ⟨b1, b2, b3⟩ := nx_step hd1 hp (by omega) (by omega) (fits4 (by omega) (by omega))
  obtain ⟨c1, c2, c3, c4, c5⟩ := com_read h q hq b2 b3
  obtain ⟨d1, d2, d3⟩ := tx_step c4 c5
  obtain ⟨e1, e2, e3⟩ := tx_step d2 d3
  rw [show ((4 : Nat) : Int) = 4 from rfl] at b1
  unfold zipdir_Local.f
  rw [if_pos hl, b1]
  unfold locMid
  simp only
  rw [c1, c2, c3]
  simp only [locTail]
  rw [d1]
  simp only
  rw [e1]
  simp only [locEnd]
  rw [if_neg (by simp), show [sm m7, sm m6] = [m7, m6].map sm from rfl, hg]
  simp only
  rw [date_back m4 a4.1 a4.2, Int.emod_eq_of_lt a5.1 (by omega)]
  rfl
theorem cen_chain {m0 m1 m2 m3 m4 m5 m6 m7 m11 m12 : Int} {nm cm : ByteArray} (h : MayR m0 m1 m2 m3 m4 m5 m6 m7 nm cm m11 m12) (q : ByteArray) (hq : q.size ≤ 65535) {l : List Int} {p : Nat} {rest : List Int} (hd : l.drop p = cenB m0 m1 m2 m3 m4 m5 m6 m7 nm cm m11 m12 q ++ rest) (hp : p ≤ l.length) :
    nxi l (p : Int) false 4 1 = ([33639248], ((p + 4 : Nat) : Int), false) ∧ nxi l ((p + 4 : Nat) : Int) false 2 1 = ([m0], ((p + 6 : Nat) : Int), false) ∧ s1 l ((p + 6 : Nat) : Int) false = ([m1, m2, m3, m4 % 65536, m4 / 65536], ((p + 16 : Nat) : Int), false) ∧ s2 l ((p + 6 : Nat) : Int) false = ([m5, sm m6, sm m7], ((p + 28 : Nat) : Int), false) ∧ s3 l ((p + 6 : Nat) : Int) false = ([(nm.size : Int), (q.size : Int)], ((p + 32 : Nat) : Int), false) ∧
      nxi l ((p + 32 : Nat) : Int) false 2 3 = ([(cm.size : Int), 0, 0], ((p + 38 : Nat) : Int), false) ∧ nxi l ((p + 38 : Nat) : Int) false 4 2 = ([m11, sm m12], ((p + 46 : Nat) : Int), false) ∧ tx l ((p + 46 : Nat) : Int) false (nm.size : Int) = (nm, ((p + 46 + nm.size : Nat) : Int), false) ∧ tx l ((p + 46 + nm.size : Nat) : Int) false (q.size : Int) = (q, ((p + 46 + nm.size + q.size : Nat) : Int), false) ∧
      tx l ((p + 46 + nm.size + q.size : Nat) : Int) false (cm.size : Int) = (cm, ((p + 46 + nm.size + q.size + cm.size : Nat) : Int), false) := by
  have a0 := h.w0; have ac := h.wc; have a11 := h.w11; have a12 := h.w12
  have hd1 : l.drop p = flat (4 : Nat) [33639248] ++ (flat (2 : Nat) [m0] ++ comB m1 m2 m3 m4 m5 m6 m7 nm q (flat 2 [(cm.size : Int), 0, 0] ++ (flat 4 [m11, sm m12] ++ (bytesOf nm ++ (bytesOf q ++ (bytesOf cm ++ rest)))))) := by rw [hd, cenB, comB, comB]; simp only [List.append_assoc]; rfl
  obtain ⟨b1, b2, b3⟩ := nxi_all (n := 4) (by omega) (by omega) (vs := [33639248]) (fun v hv => by simp only [List.mem_cons, List.not_mem_nil, or_false] at hv; subst hv; exact fits4 (by omega) (by omega)) hd1 hp 1 rfl
  obtain ⟨c1, c2, c3⟩ := nxi_all (n := 2) (by omega) (by omega) (vs := [m0]) (fun v hv => by simp only [List.mem_cons, List.not_mem_nil, or_false] at hv; subst hv; exact fits2 (by omega) (by omega)) b2 b3 1 rfl
  obtain ⟨d1, d2, d3, d4, d5⟩ := com_read h q hq c2 c3
  obtain ⟨e1, e2, e3⟩ := nxi_all (n := 2) (by omega) (by omega) (vs := [(cm.size : Int), 0, 0]) (fun v hv => by simp only [List.mem_cons, List.not_mem_nil, or_false] at hv; rcases hv with rfl | rfl | rfl <;> exact fits2 (by omega) (by omega)) d4 d5 3 rfl
  obtain ⟨f1, f2, f3⟩ := nxi_all (n := 4) (by omega) (by omega) (vs := [m11, sm m12]) (fun v hv => by
    simp only [List.mem_cons, List.not_mem_nil, or_false] at hv
    rcases hv with rfl | rfl
    · exact fits4 (by omega) (by omega)
    · exact sm_fits a12.1) e2 e3 2 rfl
  obtain ⟨g1, g2, g3⟩ := tx_step f2 f3
  obtain ⟨i1, i2, i3⟩ := tx_step g2 g3
  obtain ⟨j1, j2, j3⟩ := tx_step i2 i3
  exact ⟨b1, c1, d1, d2, d3, e1, f1, g1, i1, j1⟩
theorem central_of {m0 m1 m2 m3 m4 m5 m6 m7 m11 m12 : Int} {nm cm : ByteArray} (h : MayR m0 m1 m2 m3 m4 m5 m6 m7 nm cm m11 m12) (xs : List S38) (q : ByteArray) (hf : fieldsF xs [m7, m6, m12] = some (q, true)) {l : List Int} {p : Nat} {rest : List Int} (hl : l.length ≤ 1000000) (hd : l.drop p = cenB m0 m1 m2 m3 m4 m5 m6 m7 nm cm m11 m12 q ++ rest) (hp : p ≤ l.length) :
    zipdir_Central.f l (p : Int) = some (m0, m1, m2, m3, m4, m5, m6, m7, nm, xs, cm, m11, m12, ((p + 46 + nm.size + q.size + cm.size : Nat) : Int), 0) := by
  have a4 := h.w4; have a5 := h.w5; have a6 := h.w6; have a7 := h.w7; have a11 := h.w11; have a12 := h.w12
  obtain ⟨hg, hq⟩ := fields_great xs [m7, m6, m12] q (fun x hx => by simp only [List.mem_cons, List.not_mem_nil, or_false] at hx; rcases hx with rfl | rfl | rfl <;> assumption) hf
  obtain ⟨b1, c1, d1, d2, d3, e1, f1, g1, i1, j1⟩ := cen_chain h q hq hd hp
  unfold zipdir_Central.f
  rw [if_pos hl, b1]
  simp only [cen1]
  rw [c1]
  simp only [cen2]
  rw [d1, d2, d3]
  simp only [cen3]
  rw [e1]
  simp only [cen4]
  rw [f1]
  simp only [cen5, cenT]
  rw [g1]
  simp only
  rw [i1]
  simp only
  rw [j1]
  simp only [cenEnd]
  rw [if_pos trivial, if_pos trivial, if_pos (.inl trivial), show [sm m7, sm m6, sm m12] = [m7, m6, m12].map sm from rfl, hg]
  simp only
  rw [date_back m4 a4.1 a4.2, Int.emod_eq_of_lt a5.1 (by omega), Int.emod_eq_of_lt a11.1 (by omega)]
  rfl
/-! ### fewer bytes -/
theorem acc_congr {l l' : List Int} {f : Int} {pl : Int → Int} : ∀ k : Nat, (∀ j : Nat, j < k → rd l (f + pl j) = rd l' (f + pl j)) → acc l f pl k = acc l' f pl k
  | 0, _ => rfl
  | k + 1, h => by rw [acc, acc, acc_congr k (fun j hj => h j (by omega)), h k (by omega)]
theorem rd_take {l : List Int} {i : Nat} {x : Int} (h0 : 0 ≤ x) (h1 : x < ((l.take i).length : Int)) : rd (l.take i) x = rd l x := by
  unfold rd
  rw [List.length_take] at h1
  rw [List.getD_eq_getElem?_getD, List.getD_eq_getElem?_getD, List.getElem?_take_of_lt (by omega)]
theorem exNum_pre {l : List Int} {i : Nat} {a n v : Int} (h : exNum (l.take i) a n = some v) : exNum l a n = some v := by
  obtain ⟨_, _, h0, h1, h8, hr⟩ := exNum_in h
  have hle : ((l.take i).length : Int) ≤ l.length := by rw [List.length_take]; omega
  have hac : acc (l.take i) a (fun i => n - 1 - i) n.toNat = acc l a (fun i => n - 1 - i) n.toNat := acc_congr _ (fun j hj => rd_take (by omega) (by omega))
  have e1 : rdNum (l.take i) a n (fun i => n - 1 - i) = (acc (l.take i) a (fun i => n - 1 - i) n.toNat, 0) := by
    unfold rdNum
    rw [if_neg (by omega), if_neg (by omega)]
  have e2 : rdNum l a n (fun i => n - 1 - i) = (acc l a (fun i => n - 1 - i) n.toNat, 0) := by
    unfold rdNum
    rw [if_neg (by omega), if_neg (by omega)]
  unfold exNum at h ⊢
  rw [e1, hac] at h
  rw [e2]
  exact h
theorem nx_pre {l : List Int} {i : Nat} {a n v a2 : Int} {b : Bool} (h : nx (l.take i) a b n = (v, a2, false)) : nx l a b n = (v, a2, false) ∧ b = false := by
  unfold nx at h ⊢
  split at h
  · rename_i hv
    rw [exNum_pre hv]
    exact ⟨h, rfl⟩
  · simp at h
theorem nxi_pre {l : List Int} {i : Nat} {a n : Int} {b : Bool} : ∀ (m : Nat) {vs : List Int} {a2 : Int}, nxi (l.take i) a b n m = (vs, a2, false) → nxi l a b n m = (vs, a2, false) ∧ b = false
  | 0, vs, a2, h => by
    simp only [nxi, Prod.mk.injEq] at h ⊢
    exact ⟨h, h.2.2⟩
  | m + 1, vs, a2, h => by
    obtain ⟨⟨v0, a0, b0⟩, h0⟩ : ∃ s, nxi (l.take i) a b n m = s := ⟨_, rfl⟩
    rw [nxi, h0] at h
    simp only at h
    obtain ⟨⟨v1, a1, b1⟩, h1⟩ : ∃ s, nx (l.take i) a0 b0 n = s := ⟨_, rfl⟩
    rw [h1] at h
    simp only [Prod.mk.injEq] at h
    obtain ⟨rfl, rfl, rfl⟩ := h
    obtain ⟨g1, rfl⟩ := nx_pre h1
    obtain ⟨g0, g2⟩ := nxi_pre m h0
    refine ⟨?_, g2⟩
    rw [nxi, g0]
    simp only
    rw [g1]
theorem tx_bad {l : List Int} {a n a2 : Int} {b : Bool} {s : ByteArray} (h : tx l a b n = (s, a2, false)) : b = false := by
  unfold tx at h
  split at h
  · simp at h
  · rename_i hh
    cases b with
    | false => rfl
    | true => exact absurd (.inl rfl) hh
theorem tx_pre {l : List Int} {i : Nat} {a n a2 : Int} {b : Bool} {s : ByteArray} (h : tx (l.take i) a b n = (s, a2, false)) (ha : 0 ≤ a) (hn : 0 ≤ n) : tx l a b n = (s, a2, false) ∧ a2 ≤ i := by
  unfold tx at h ⊢
  rw [List.length_take] at h
  split at h
  · simp at h
  · rename_i hh
    have hb : b = false := by
      cases b with
      | false => rfl
      | true => exact absurd (.inl rfl) hh
    subst hb
    have h1 : ¬ ((min i l.length : Nat) : Int) - a < n := fun e => hh (.inr e)
    rw [if_neg (by simp; omega)]
    have e : ((l.take i).drop a.toNat).take n.toNat = (l.drop a.toNat).take n.toNat := by
      rw [List.drop_take, List.take_take, Nat.min_eq_left (by omega)]
    rw [e] at h
    simp only [Prod.mk.injEq] at h ⊢
    exact ⟨h, by omega⟩
theorem comB_len (m1 m2 m3 m4 m5 m6 m7 : Int) (nm q : ByteArray) (rest : List Int) : (comB m1 m2 m3 m4 m5 m6 m7 nm q rest).length = 26 + rest.length := by
  unfold comB
  simp only [List.length_append, f2, f4, List.length_cons, List.length_nil]
  omega
theorem cenB_len (m0 m1 m2 m3 m4 m5 m6 m7 : Int) (nm cm : ByteArray) (m11 m12 : Int) (q : ByteArray) : (cenB m0 m1 m2 m3 m4 m5 m6 m7 nm cm m11 m12 q).length = 46 + nm.size + q.size + cm.size := by
  unfold cenB
  simp only [List.length_append, f2, f4, comB_len, List.length_cons, List.length_nil, bytesOf_length]
  omega
theorem locB_len (m1 m2 m3 m4 m5 m6 m7 : Int) (nm q : ByteArray) : (locB m1 m2 m3 m4 m5 m6 m7 nm q).length = 30 + nm.size + q.size := by
  unfold locB
  simp only [List.length_append, f4, comB_len, List.length_cons, List.length_nil, bytesOf_length]
  omega
def errOf (r : LocR) : Int := r.2.2.2.2.2.2.2.2.2.2.2.2.2.2
/-- of fewer bytes there is no header. -/
theorem central_cut {m0 m1 m2 m3 m4 m5 m6 m7 m11 m12 : Int} {nm cm : ByteArray} (h : MayR m0 m1 m2 m3 m4 m5 m6 m7 nm cm m11 m12) (q : ByteArray) (hq : q.size ≤ 65535) (i : Nat) (hi : i < (cenB m0 m1 m2 m3 m4 m5 m6 m7 nm cm m11 m12 q).length) :
    ∃ r, zipdir_Central.f ((cenB m0 m1 m2 m3 m4 m5 m6 m7 nm cm m11 m12 q).take i) 0 = some r ∧ errOf r = 2 := by
  have hL := cenB_len m0 m1 m2 m3 m4 m5 m6 m7 nm cm m11 m12 q
  have hn := h.wn
  have hcm := h.wc
  obtain ⟨l, hl⟩ : ∃ l, cenB m0 m1 m2 m3 m4 m5 m6 m7 nm cm m11 m12 q = l := ⟨_, rfl⟩
  obtain ⟨g1, g2, g3, g4, g5, g6, g7, g8, g9, g10⟩ := cen_chain h q hq (l := l) (p := 0) (rest := []) (by rw [List.drop_zero, List.append_nil, hl]) (Nat.zero_le _)
  rw [hl] at hi hL ⊢
  simp only [Nat.zero_add] at g1 g2 g3 g4 g5 g6 g7 g8 g9 g10
  unfold zipdir_Central.f
  rw [if_pos (by rw [List.length_take]; omega)]
  obtain ⟨⟨x1, p1, b1⟩, e1⟩ : ∃ s, nxi (l.take i) 0 false 4 1 = s := ⟨_, rfl⟩
  have n1 := nxi_len (l.take i) 0 false 4 1
  rw [e1] at n1 ⊢
  obtain ⟨mk, rfl⟩ := lone_ n1
  simp only [cen1]
  obtain ⟨⟨x2, p2, b2⟩, e2⟩ : ∃ s, nxi (l.take i) p1 b1 2 1 = s := ⟨_, rfl⟩
  have n2 := nxi_len (l.take i) p1 b1 2 1
  rw [e2] at n2 ⊢
  obtain ⟨md, rfl⟩ := lone_ n2
  simp only [cen2]
  obtain ⟨⟨x3, p3, b3⟩, e3⟩ : ∃ s, s1 (l.take i) p2 b2 = s := ⟨_, rfl⟩
  have n3 := nxi_len (l.take i) p2 b2 2 5
  rw [show nxi (l.take i) p2 b2 2 5 = s1 (l.take i) p2 b2 from rfl, e3] at n3
  obtain ⟨a1, a2, a3, a4, a5, rfl⟩ := five n3
  obtain ⟨⟨x4, p4, b4⟩, e4⟩ : ∃ s, s2 (l.take i) p2 b2 = s := ⟨_, rfl⟩
  have e4' : nxi (l.take i) p3 b3 4 3 = (x4, p4, b4) := by rw [← e4, s2, e3]
  have n4 := nxi_len (l.take i) p3 b3 4 3
  rw [e4'] at n4
  obtain ⟨c1, c2, c3, rfl⟩ := three n4
  obtain ⟨⟨x5, p5, b5⟩, e5⟩ : ∃ s, s3 (l.take i) p2 b2 = s := ⟨_, rfl⟩
  have e5' : nxi (l.take i) p4 b4 2 2 = (x5, p5, b5) := by rw [← e5, s3, e4]
  have n5 := nxi_len (l.take i) p4 b4 2 2
  rw [e5'] at n5
  obtain ⟨d1, d2, rfl⟩ := two n5
  rw [e3, e4, e5]
  simp only [cen3]
  obtain ⟨⟨x6, p6, b6⟩, e6⟩ : ∃ s, nxi (l.take i) p5 b5 2 3 = s := ⟨_, rfl⟩
  have n6 := nxi_len (l.take i) p5 b5 2 3
  rw [e6] at n6 ⊢
  obtain ⟨f1, f2, f3, rfl⟩ := three n6
  simp only [cen4]
  obtain ⟨⟨x7, p7, b7⟩, e7⟩ : ∃ s, nxi (l.take i) p6 b6 4 2 = s := ⟨_, rfl⟩
  have n7 := nxi_len (l.take i) p6 b6 4 2
  rw [e7] at n7 ⊢
  obtain ⟨k1, k2, rfl⟩ := two n7
  simp only [cen5, cenT]
  obtain ⟨⟨t1, p8, b8⟩, e8⟩ : ∃ s, tx (l.take i) p7 b7 d1 = s := ⟨_, rfl⟩
  rw [e8]
  simp only
  obtain ⟨⟨t2, p9, b9⟩, e9⟩ : ∃ s, tx (l.take i) p8 b8 d2 = s := ⟨_, rfl⟩
  rw [e9]
  simp only
  obtain ⟨⟨t3, p10, b10⟩, e10⟩ : ∃ s, tx (l.take i) p9 b9 f1 = s := ⟨_, rfl⟩
  rw [e10]
  simp only [cenEnd]
  cases b10 with
  | true => exact ⟨locZ, by rw [if_neg (by simp)], rfl⟩
  | false =>
    exfalso
    obtain rfl := tx_bad e10
    obtain rfl := tx_bad e9
    obtain rfl := tx_bad e8
    obtain ⟨y7, rfl⟩ := nxi_pre 2 e7
    obtain ⟨y6, rfl⟩ := nxi_pre 3 e6
    obtain ⟨y5, rfl⟩ := nxi_pre 2 e5'
    obtain ⟨y4, rfl⟩ := nxi_pre 3 e4'
    obtain ⟨y3, rfl⟩ := nxi_pre 5 (show nxi (l.take i) p2 b2 2 5 = _ from e3)
    obtain ⟨y2, rfl⟩ := nxi_pre 1 e2
    obtain ⟨y1, _⟩ := nxi_pre 1 e1
    rw [show ((0 : Nat) : Int) = 0 from rfl] at g1
    rw [g1] at y1
    simp only [Prod.mk.injEq] at y1
    obtain ⟨_, rfl, _⟩ := y1
    rw [g2] at y2
    simp only [Prod.mk.injEq] at y2
    obtain ⟨_, rfl, _⟩ := y2
    have y3 : s1 l ((6 : Nat) : Int) false = _ := y3
    rw [g3] at y3
    simp only [Prod.mk.injEq] at y3
    obtain ⟨_, rfl, _⟩ := y3
    have z4 : s2 l ((6 : Nat) : Int) false = ([c1, c2, c3], p4, false) := by rw [s2, g3]; exact y4
    rw [g4] at z4
    simp only [Prod.mk.injEq] at z4
    obtain ⟨_, rfl, _⟩ := z4
    have z5 : s3 l ((6 : Nat) : Int) false = ([d1, d2], p5, false) := by rw [s3, g4]; exact y5
    rw [g5] at z5
    simp only [Prod.mk.injEq, List.cons.injEq] at z5
    obtain ⟨⟨rfl, rfl, _⟩, rfl, _⟩ := z5
    rw [g6] at y6
    simp only [Prod.mk.injEq, List.cons.injEq] at y6
    obtain ⟨⟨rfl, _⟩, rfl, _⟩ := y6
    rw [g7] at y7
    simp only [Prod.mk.injEq] at y7
    obtain ⟨_, rfl, _⟩ := y7
    obtain ⟨y8, _⟩ := tx_pre e8 (by omega) (by omega)
    rw [g8] at y8
    simp only [Prod.mk.injEq] at y8
    obtain ⟨_, rfl, _⟩ := y8
    obtain ⟨y9, _⟩ := tx_pre e9 (by omega) (by omega)
    rw [g9] at y9
    simp only [Prod.mk.injEq] at y9
    obtain ⟨_, rfl, _⟩ := y9
    obtain ⟨y10, hle⟩ := tx_pre e10 (by omega) (by omega)
    rw [g10] at y10
    simp only [Prod.mk.injEq] at y10
    obtain ⟨_, rfl, _⟩ := y10
    omega
/-! ### what may be put -/
theorem fields_ok {xs : List S38} {vs : List Int} {q : ByteArray} (hv : ∀ x ∈ vs, 0 ≤ x ∧ x ≤ 4611686018427387904) (h : fieldsF xs vs = some (q, true)) : xs.length ≤ 1000000 ∧ hasOne xs = false ∧ (∀ x ∈ (if (bigs vs).length = 0 then xs else ⟨1, strOfNums (eights (bigs vs))⟩ :: xs), Good x) ∧ (all (if (bigs vs).length = 0 then xs else ⟨1, strOfNums (eights (bigs vs))⟩ :: xs)).length ≤ 65535 := by
  unfold fieldsF at h
  split at h
  · rename_i hl
    obtain ⟨hl1, hl2⟩ := hl
    split at h
    · simp at h
    · rename_i hone
      have hone : hasOne xs = false := by simpa using hone
      have putOk : ∀ L : List S38, (extra_Put.f L).map putR = some (q, true) → (∀ x ∈ L, Good x) ∧ (all L).length ≤ 65535 := by
        intro L hL
        obtain ⟨⟨s, e⟩, hp, hr⟩ := Option.map_eq_some_iff.1 hL
        unfold putR at hr
        simp only [Prod.mk.injEq, beq_iff_eq] at hr
        obtain ⟨rfl, rfl⟩ := hr
        unfold extra_Put.f at hp
        split at hp
        · injection hp with hp
          have := put_ok L [] s hp
          simpa using this.2
        · cases hp
      split at h
      · rename_i h0
        rw [if_pos h0]
        exact ⟨hl1, hone, putOk xs h⟩
      · rename_i h0
        have hbl : (bigs vs).length ≤ vs.length := List.length_filter_le _ _
        have hbv : ∀ x ∈ bigs vs, 0 ≤ x ∧ x ≤ 4611686018427387904 := fun x hx => hv x (List.mem_filter.1 hx).1
        rw [putBig_eq (bigs vs) (by omega) hbv (vs.length + 1) (by omega), Option.bind_some] at h
        rw [if_neg h0]
        exact ⟨hl1, hone, putOk _ h⟩
  · cases h
theorem fields_total (xs : List S38) (vs : List Int) (hv : ∀ x ∈ vs, 0 ≤ x ∧ x ≤ 4611686018427387904) (hl : xs.length ≤ 1000000) (hl2 : vs.length ≤ 1000) : ∃ q ok, fieldsF xs vs = some (q, ok) := by
  unfold fieldsF
  rw [if_pos ⟨hl, hl2⟩]
  split
  · exact ⟨_, _, rfl⟩
  · split
    · unfold extra_Put.f
      rw [if_pos (by omega)]
      exact ⟨_, _, rfl⟩
    · have hbl : (bigs vs).length ≤ vs.length := List.length_filter_le _ _
      have hbv : ∀ x ∈ bigs vs, 0 ≤ x ∧ x ≤ 4611686018427387904 := fun x hx => hv x (List.mem_filter.1 hx).1
      rw [putBig_eq (bigs vs) (by omega) hbv (vs.length + 1) (by omega), Option.bind_some]
      unfold extra_Put.f
      rw [if_pos (by rw [List.length_cons]; omega)]
      exact ⟨_, _, rfl⟩
theorem fields_of (xs : List S38) (vs : List Int) (hv : ∀ x ∈ vs, 0 ≤ x ∧ x ≤ 4611686018427387904) (hl : xs.length ≤ 1000000) (hl2 : vs.length ≤ 1000) (hone : hasOne xs = false) (hg : ∀ x ∈ (if (bigs vs).length = 0 then xs else ⟨1, strOfNums (eights (bigs vs))⟩ :: xs), Good x) (ha : (all (if (bigs vs).length = 0 then xs else ⟨1, strOfNums (eights (bigs vs))⟩ :: xs)).length ≤ 65535) : ∃ q, fieldsF xs vs = some (q, true) := by
  unfold fieldsF
  rw [if_pos ⟨hl, hl2⟩, if_neg (by rw [hone]; simp)]
  by_cases h0 : (bigs vs).length = 0
  · rw [if_pos h0] at hg ha ⊢
    unfold extra_Put.f
    rw [if_pos (by omega), put_of xs [] hg (by simpa using ha)]
    exact ⟨_, rfl⟩
  · rw [if_neg h0] at hg ha ⊢
    have hbl : (bigs vs).length ≤ vs.length := List.length_filter_le _ _
    have hbv : ∀ x ∈ bigs vs, 0 ≤ x ∧ x ≤ 4611686018427387904 := fun x hx => hv x (List.mem_filter.1 hx).1
    rw [putBig_eq (bigs vs) (by omega) hbv (vs.length + 1) (by omega), Option.bind_some]
    unfold extra_Put.f
    rw [if_pos (by rw [List.length_cons]; omega), put_of _ [] hg (by simpa using ha)]
    exact ⟨_, rfl⟩
theorem all_cons (x : S38) (l : List S38) : (all (x :: l)).length = 4 + x.f1.size + (all l).length := by
  have : all (x :: l) = fieldB x ++ all l := by simp [all]
  rw [this, List.length_append, fieldB_length]
/-- what may be put with an offset may be put without. -/
theorem fields_less {xs : List S38} {a b c : Int} {q : ByteArray} (hv : ∀ x ∈ [a, b, c], 0 ≤ x ∧ x ≤ 4611686018427387904) (h : fieldsF xs [a, b, c] = some (q, true)) : ∃ q2, fieldsF xs [a, b] = some (q2, true) := by
  obtain ⟨h1, h2, h3, h4⟩ := fields_ok hv h
  have hv2 : ∀ x ∈ [a, b], 0 ≤ x ∧ x ≤ 4611686018427387904 := fun x hx => hv x (by simp only [List.mem_cons, List.not_mem_nil, or_false] at hx ⊢; rcases hx with rfl | rfl <;> simp)
  have hap : bigs [a, b, c] = bigs [a, b] ++ bigs [c] := by rw [bigs, bigs, bigs, show [a, b, c] = [a, b] ++ [c] from rfl, List.filter_append]
  have hlen : (bigs [a, b, c]).length = (bigs [a, b]).length + (bigs [c]).length := by rw [hap, List.length_append]
  have hgx : ∀ x ∈ xs, Good x := fun x hx => h3 x (by split <;> simp [hx])
  have hax : (all xs).length ≤ 65535 := by
    split at h4
    · exact h4
    · rw [all_cons] at h4; omega
  by_cases h0 : (bigs [a, b]).length = 0
  · exact fields_of xs [a, b] hv2 h1 (by simp) h2 (by rw [if_pos h0]; exact hgx) (by rw [if_pos h0]; exact hax)
  · have h0' : ¬ (bigs [a, b, c]).length = 0 := by omega
    rw [if_neg h0'] at h3 h4
    rw [all_cons] at h4
    have hs : (strOfNums (eights (bigs [a, b]))).size = 8 * (bigs [a, b]).length := by rw [str_size, eights_length]
    have hs2 : (strOfNums (eights (bigs [a, b, c]))).size = 8 * (bigs [a, b, c]).length := by rw [str_size, eights_length]
    have hs3 : (bigs [a, b]).length ≤ 2 := List.length_filter_le _ _
    refine fields_of xs [a, b] hv2 h1 (by simp) h2 ?_ ?_
    · rw [if_neg h0]
      intro x hx
      rcases List.mem_cons.1 hx with rfl | hx
      · exact ⟨by simp, by simp, by simp only [hs]; omega⟩
      · exact hgx x hx
    · rw [if_neg h0, all_cons]
      simp only at h4 ⊢
      omega

end Go.Proofs.Ytfnicahlnpngkaa.ZipRoundOfZipdirBack

/- zipdir: what the writer put is what the reader reads; the end is found (plain). -/
import Derived.Test.YtfnicahlnpngkaaZipFnd
import Derived.Test.YtfnicahlnpngkaaZipWrt
import Derived.Test.YtfnicahlnpngkaaNumAcc
set_option linter.unusedVariables false
set_option linter.unusedSimpArgs false
namespace Go.Proofs.Ytfnicahlnpngkaa.ZipLaw
open Go.RowKit Go.Proofs.YtfnicahlnpngkaaW.PrintWords Go.Proofs.YtfnicahlnpngkaaW.PrintLast Go.Proofs.YtfnicahlnpngkaaW.PrintMore Go.Proofs.Ytfnicahlnpngkaa.Base Go.Proofs.Ytfnicahlnpngkaa.NumRead Go.Proofs.Ytfnicahlnpngkaa.ExtraNum Go.Proofs.Ytfnicahlnpngkaa.NumAcc Go.Proofs.Ytfnicahlnpngkaa.Num1 Go.Proofs.Ytfnicahlnpngkaa.ZipRd Go.Proofs.Ytfnicahlnpngkaa.ZipNums Go.Proofs.Ytfnicahlnpngkaa.ZipPut Go.Proofs.Ytfnicahlnpngkaa.ZipEnd Go.Proofs.Ytfnicahlnpngkaa.ZipFound Go.Proofs.Ytfnicahlnpngkaa.ZipFar Go.Proofs.Ytfnicahlnpngkaa.ZipFind
theorem rd_app (a b : List Int) (j : Nat) : rd (a ++ b) ((a.length + j : Nat) : Int) = rd b (j : Int) := by
  unfold rd
  rw [Int.toNat_natCast, Int.toNat_natCast, List.getD_eq_getElem?_getD, List.getD_eq_getElem?_getD, List.getElem?_append_right (by omega)]
  congr 2; omega
theorem rd_left (a b : List Int) (j : Nat) (h : j < a.length) : rd (a ++ b) (j : Int) = rd a (j : Int) := by
  unfold rd
  rw [Int.toNat_natCast, List.getD_eq_getElem?_getD, List.getD_eq_getElem?_getD, List.getElem?_append_left h]

/-! ### numbers of n bytes, the lowest first -/
theorem leB_rd (v : Int) (n j : Nat) (hn : 1 ≤ n) (hn8 : n ≤ 8) (hj : j < n) : rd (leB v n) (j : Int) = v / 256 ^ j % 256 := by
  unfold leB rd
  rw [if_neg (by omega), Int.toNat_natCast, Int.toNat_natCast, bs_getD _ _ _ _ hj, Int.zero_add, byteAt_eq v j (by omega)]
/-- what stands at a place as leB put it is read. -/
theorem num_at (a b : List Int) (v : Int) (n : Nat) (hn : 1 ≤ n) (hn8 : n ≤ 8) (h0 : 0 ≤ v) (hv : v < 256 ^ n) (hv2 : v ≤ 4611686018427387904) : exNum (a ++ (leB v n ++ b)) (a.length : Int) n = some v := by
  have hlen : (leB v n).length = n := by rw [leB_length, if_neg (by omega)]; omega
  have hacc : acc (a ++ (leB v n ++ b)) (a.length : Int) (fun i => (n : Int) - 1 - i) n = v := by
    have := acc_val (a ++ (leB v n ++ b)) (a.length : Int) (fun i => (n : Int) - 1 - i) v n hn8 (fun j hj => by
      rw [show (a.length : Int) + ((n : Int) - 1 - (j : Int)) = ((a.length + (n - 1 - j) : Nat) : Int) by omega, rd_app, rd_left _ _ _ (by omega), leB_rd v n _ hn hn8 (by omega)]) n (Nat.le_refl n)
    rw [this, Nat.sub_self, Int.pow_zero, Int.ediv_one]
    exact Int.emod_eq_of_lt h0 hv
  have hrd : rdNum (a ++ (leB v n ++ b)) (a.length : Int) n (fun i => (n : Int) - 1 - i) = (v, 0) := by
    unfold rdNum
    rw [if_neg (by omega), if_neg (by rw [List.length_append, List.length_append, hlen]; omega), Int.toNat_natCast, hacc]
  unfold exNum
  rw [hrd, if_pos ⟨rfl, hv2⟩]

/-- numbers of n bytes, one behind the other. -/
def flat (n : Int) (vs : List Int) : List Int := vs.flatMap fun v => leB v n
theorem putAll_flat (n : Int) : ∀ (vs l : List Int), ZipPut.putAll l n vs = l ++ flat n vs
  | [], l => by simp [ZipPut.putAll, flat]
  | v :: vs, l => by rw [ZipPut.putAll, putAll_flat n vs]; simp [flat]
theorem leB_len (v : Int) (n : Nat) (hn : 1 ≤ n) (hn8 : n ≤ 8) : (leB v n).length = n := by rw [leB_length, if_neg (by omega)]; omega
theorem flat_len (n : Nat) (hn : 1 ≤ n) (hn8 : n ≤ 8) : ∀ vs : List Int, (flat n vs).length = n * vs.length
  | [] => by simp [flat]
  | v :: vs => by
    have := flat_len n hn hn8 vs
    rw [flat, List.flatMap_cons, List.length_append, leB_len v n hn hn8, show (vs.flatMap fun v => leB v n) = flat n vs from rfl, this, List.length_cons]
    rw [Nat.mul_add]; omega
/-- a number fits into n bytes. -/
def Fits (n : Nat) (v : Int) : Prop := 0 ≤ v ∧ v < 256 ^ n ∧ v ≤ 4611686018427387904
theorem nx_step {l : List Int} {p : Nat} {v : Int} {n : Nat} {rest : List Int} (h : l.drop p = leB v n ++ rest) (hp : p ≤ l.length) (hn : 1 ≤ n) (hn8 : n ≤ 8) (hv : Fits n v) :
    nx l (p : Int) false (n : Int) = (v, ((p + n : Nat) : Int), false) ∧ l.drop (p + n) = rest ∧ p + n ≤ l.length := by
  have hl : l = l.take p ++ (leB v n ++ rest) := by rw [← h, List.take_append_drop]
  have hlen : (l.take p).length = p := by rw [List.length_take]; omega
  have he : exNum l (p : Int) (n : Int) = some v := by
    have := num_at (l.take p) rest v n hn hn8 hv.1 hv.2.1 hv.2.2
    rw [hlen, ← hl] at this
    exact this
  have hd : l.drop (p + n) = rest := by
    rw [← List.drop_drop, h, List.drop_append, leB_len v n hn hn8, List.drop_of_length_le (by rw [leB_len v n hn hn8]; omega), Nat.sub_self]
    simp
  refine ⟨?_, hd, ?_⟩
  · unfold nx; rw [he]; simp
  · have := congrArg List.length h
    rw [List.length_drop, List.length_append, leB_len v n hn hn8] at this
    omega
theorem nxi_step {l : List Int} {p : Nat} {n : Nat} (hn : 1 ≤ n) (hn8 : n ≤ 8) {vs rest : List Int} (hv : ∀ v ∈ vs, Fits n v) (h : l.drop p = flat n vs ++ rest) (hp : p ≤ l.length) : ∀ i : Nat, i ≤ vs.length →
    nxi l (p : Int) false (n : Int) i = (vs.take i, ((p + n * i : Nat) : Int), false) ∧ l.drop (p + n * i) = flat n (vs.drop i) ++ rest ∧ p + n * i ≤ l.length
  | 0, _ => by
    refine ⟨by simp [nxi], by simpa using h, by simpa using hp⟩
  | i + 1, hi => by
    obtain ⟨h1, h2, h3⟩ := nxi_step hn hn8 hv h hp i (by omega)
    have hlt : i < vs.length := by omega
    have hc : vs.drop i = vs[i] :: vs.drop (i + 1) := List.drop_eq_getElem_cons hlt
    have h2' : l.drop (p + n * i) = leB vs[i] n ++ (flat n (vs.drop (i + 1)) ++ rest) := by rw [h2, hc, flat, List.flatMap_cons, List.append_assoc]; rfl
    obtain ⟨g1, g2, g3⟩ := nx_step h2' h3 hn hn8 (hv _ (List.getElem_mem hlt))
    have hq : p + n * (i + 1) = p + n * i + n := by rw [Nat.mul_add]; omega
    rw [nxi, h1]
    simp only
    rw [g1, hq]
    exact ⟨by rw [List.take_succ_eq_append_getElem hlt], g2, g3⟩
theorem nxi_all {l : List Int} {p : Nat} {n : Nat} (hn : 1 ≤ n) (hn8 : n ≤ 8) {vs rest : List Int} (hv : ∀ v ∈ vs, Fits n v) (h : l.drop p = flat n vs ++ rest) (hp : p ≤ l.length) (m : Nat) (hm : m = vs.length) :
    nxi l (p : Int) false (n : Int) m = (vs, ((p + n * m : Nat) : Int), false) ∧ l.drop (p + n * m) = rest ∧ p + n * m ≤ l.length := by
  subst hm
  have := nxi_step hn hn8 hv h hp vs.length (Nat.le_refl _)
  rw [List.take_length, List.drop_length] at this
  simpa [flat] using this
theorem fits_small {n : Nat} {v : Int} (h0 : 0 ≤ v) (h : v < 256) (hn : 1 ≤ n) : Fits n v := by
  refine ⟨h0, Int.lt_of_lt_of_le h ?_, by omega⟩
  have h1 : 256 ^ 1 ≤ 256 ^ n := Nat.pow_le_pow_right (by decide) hn
  have h2 : ((256 ^ 1 : Nat) : Int) ≤ ((256 ^ n : Nat) : Int) := by exact_mod_cast h1
  simpa using h2
theorem f2 (vs : List Int) : (flat 2 vs).length = 2 * vs.length := flat_len 2 (by omega) (by omega) vs
theorem f4 (vs : List Int) : (flat 4 vs).length = 4 * vs.length := flat_len 4 (by omega) (by omega) vs
theorem f8 (vs : List Int) : (flat 8 vs).length = 8 * vs.length := flat_len 8 (by omega) (by omega) vs
/-- the end record's words. -/
def endR (e s o : Int) : List Int := flat 4 [101010256] ++ (flat 2 [0, 0, e, e] ++ (flat 4 [s, o] ++ flat 2 [0]))
def farR (e s o : Int) : List Int := flat 4 [101075792] ++ (flat 8 [44] ++ (flat 2 [45, 45] ++ (flat 4 [0, 0] ++ (flat 8 [e, e, s, o] ++ (flat 4 [117853008, 0] ++ (flat 8 [s + o] ++ flat 4 [1]))))))
theorem endR_len (e s o : Int) : (endR e s o).length = 22 := by
  unfold endR
  simp only [List.length_append, f2, f4, f8, List.length_cons, List.length_nil]
theorem farR_len (e s o : Int) : (farR e s o).length = 76 := by
  unfold farR
  simp only [List.length_append, f2, f4, f8, List.length_cons, List.length_nil]
theorem end_words (e s o : Int) (he : 0 ≤ e ∧ e ≤ 1048576) (hs : 0 ≤ s ∧ s ≤ 200) (ho : 0 ≤ o ∧ o ≤ 1000) : endTail (if isFar e s o = true then endFar e s o else []) e s o = (if 65535 ≤ e then farR e s o else []) ++ endR (if 65535 < e then 65535 else e) s o := by
  have f : isFar e s o = decide (65535 ≤ e) := by
    unfold isFar
    rw [show decide (s ≥ 4294967295) = false from decide_eq_false (by omega), show decide (o ≥ 4294967295) = false from decide_eq_false (by omega)]
    simp
  have w : ∀ x : Int, 0 ≤ x → x ≤ 4611686018427387904 → IntKind.u64.wrap x = x := fun x h0 h1 => wu64 h0 (by omega)
  have hm : IntKind.u64.wrap (mn e 65535) = if 65535 < e then 65535 else e := by unfold mn; rw [w _ (by split <;> omega) (by split <;> omega)]
  have hsm : ∀ x : Int, 0 ≤ x → x ≤ 1000 → small_ x = x := fun x h0 h1 => by unfold small_ mn; rw [if_neg (by omega), w _ h0 (by omega)]
  unfold endTail
  rw [hm, hsm s hs.1 (by omega), hsm o ho.1 (by omega)]
  simp only [putAll_flat]
  by_cases h : 65535 ≤ e
  · rw [f, decide_eq_true h, if_pos rfl, if_pos h]
    unfold endFar farR endR
    rw [w e he.1 (by omega), w s hs.1 (by omega), w o ho.1 (by omega), w (s + o) (by omega) (by omega)]
    simp only [putAll_flat, List.append_assoc, List.nil_append]
  · rw [f, decide_eq_false h, if_neg (by simp), if_neg h]
    unfold endR
    simp only [List.append_assoc, List.nil_append]
theorem fits4 {v : Int} (h0 : 0 ≤ v) (h : v < 4294967296) : Fits 4 v := ⟨h0, by simpa using h, by omega⟩
theorem fits2 {v : Int} (h0 : 0 ≤ v) (h : v < 65536) : Fits 2 v := ⟨h0, by simpa using h, by omega⟩
theorem fits8 {v : Int} (h0 : 0 ≤ v) (h : v ≤ 4611686018427387904) : Fits 8 v := ⟨h0, by have : (256 : Int) ^ 8 = 18446744073709551616 := by decide
                                                                                         omega, h⟩
/-- what stands at the end is found. -/
theorem found_end (pre : List Int) (e s o : Int) (he : 0 ≤ e ∧ e ≤ 65535) (hs : 0 ≤ s ∧ s ≤ 200) (ho : 0 ≤ o ∧ o ≤ 1000) : foundOf (pre ++ endR e s o) = (pre.length : Int) ∧
    nxi (pre ++ endR e s o) ((pre.length : Int) + 4) false 2 4 = ([0, 0, e, e], ((pre.length + 12 : Nat) : Int), false) ∧ nxi (pre ++ endR e s o) ((pre.length + 12 : Nat) : Int) false 4 2 = ([s, o], ((pre.length + 20 : Nat) : Int), false) := by
  obtain ⟨l, hl⟩ : ∃ l, pre ++ endR e s o = l := ⟨_, rfl⟩
  have hlen : l.length = pre.length + 22 := by rw [← hl, List.length_append, endR_len]
  have hd : l.drop pre.length = leB 101010256 (4 : Nat) ++ (flat 2 [0, 0, e, e] ++ (flat 4 [s, o] ++ flat 2 [0])) := by
    rw [← hl, List.drop_append_of_le_length (Nat.le_refl _), List.drop_length, endR]; simp [flat]
  rw [hl]
  obtain ⟨a1, a2, a3⟩ := nx_step hd (by omega) (by omega) (by omega) (fits4 (by omega) (by omega))
  obtain ⟨b1, b2, b3⟩ := nxi_all (n := 2) (by omega) (by omega) (vs := [0, 0, e, e]) (fun v hv => by simp only [List.mem_cons, List.not_mem_nil, or_false] at hv; rcases hv with rfl | rfl | rfl | rfl <;> exact fits2 (by omega) (by omega)) a2 a3 4 rfl
  obtain ⟨c1, c2, c3⟩ := nxi_all (n := 4) (by omega) (by omega) (vs := [s, o]) (fun v hv => by simp only [List.mem_cons, List.not_mem_nil, or_false] at hv; rcases hv with rfl | rfl <;> exact fits4 (by omega) (by omega)) b2 b3 2 rfl
  have hd2 : l.drop (pre.length + 4 + 2 * 4 + 4 * 2) = leB 0 (2 : Nat) ++ [] := by rw [c2]; simp [flat]
  obtain ⟨d1, _, _⟩ := nx_step hd2 c3 (by omega) (by omega) (fits2 (by omega) (by omega))
  refine ⟨?_, ?_, ?_⟩
  · have hit1 : hit l (pre.length : Int) = true := by
      unfold hit
      rw [show ((4 : Nat) : Int) = 4 from rfl] at a1
      rw [a1]
      simp only
      rw [show (pre.length : Int) + 20 = ((pre.length + 4 + 2 * 4 + 4 * 2 : Nat) : Int) by omega]
      rw [show ((2 : Nat) : Int) = 2 from rfl] at d1
      rw [d1]
      simp only [Bool.not_false, Bool.true_and, beq_self_eq_true, beq_iff_eq]
      omega
    unfold foundOf
    rw [show (l.length : Int) - 22 = (pre.length : Int) by omega, show l.length + 1 = (pre.length + 22) + 1 by omega, foundGo, if_pos ⟨by omega, by omega⟩, if_pos hit1]
  · rw [show (pre.length : Int) + 4 = ((pre.length + 4 : Nat) : Int) by omega]
    exact b1
  · exact c1
theorem find_near (b : List Int) (e s o : Int) (he : 0 ≤ e ∧ e < 65535) (hs : 0 ≤ s ∧ s ≤ 200) (ho : 0 ≤ o ∧ o ≤ 1000) (hb : (b.length : Int) = o + s) : findOf (b ++ endR e s o) = ((e, s, o, (b.length : Int), (b.length : Int)), 0) := by
  obtain ⟨h1, h2, h3⟩ := found_end b e s o ⟨he.1, by omega⟩ hs ho
  unfold findOf
  rw [h1, if_neg (by omega)]
  unfold find1
  rw [h2]
  simp only [find2]
  rw [h3]
  have z : zeroB false 0 = true := rfl
  simp only [find3, if_true]
  rw [if_pos z, if_pos z, if_neg (by omega)]
  simp only [find4, if_true]
  rw [if_pos (by omega), if_pos (by rw [wrap64_id (by omega) (by omega)]; omega)]
theorem far_end (b : List Int) (e s o : Int) (t : List Int) (he : 0 ≤ e ∧ e ≤ 1048576) (hs : 0 ≤ s ∧ s ≤ 200) (ho : 0 ≤ o ∧ o ≤ 1000) (hb : (b.length : Int) = o + s) : farOf (b ++ (farR e s o ++ t)) ((b.length : Int) + 76) = ((e, s, o, (b.length : Int), (b.length : Int) + 76), true) := by
  obtain ⟨l, hl⟩ : ∃ l, b ++ (farR e s o ++ t) = l := ⟨_, rfl⟩
  have hlen : l.length = b.length + 76 + t.length := by rw [← hl, List.length_append, List.length_append, farR_len]; omega
  have hd : l.drop b.length = leB 101075792 (4 : Nat) ++ (leB 44 (8 : Nat) ++ (flat 2 [45, 45] ++ (leB 0 (4 : Nat) ++ (leB 0 (4 : Nat) ++ (leB e (8 : Nat) ++ (flat 8 [e, s, o] ++ (leB 117853008 (4 : Nat) ++ (leB 0 (4 : Nat) ++ (leB (s + o) (8 : Nat) ++ (leB 1 (4 : Nat) ++ t)))))))))) := by
    rw [← hl, List.drop_append_of_le_length (Nat.le_refl _), List.drop_length, farR]; simp [flat]
  rw [hl]
  obtain ⟨a1, a2, a3⟩ := nx_step hd (by omega) (by omega) (by omega) (fits4 (by omega) (by omega))
  obtain ⟨b1, b2, b3⟩ := nx_step a2 a3 (by omega) (by omega) (fits8 (by omega) (by omega))
  -- 45, 45 as one number of four bytes
  have h45 : flat 2 [45, 45] = leB 2949165 (4 : Nat) := by decide +kernel
  rw [h45] at b2
  obtain ⟨c1, c2, c3⟩ := nx_step b2 b3 (by omega) (by omega) (fits4 (by omega) (by omega))
  obtain ⟨d1, d2, d3⟩ := nx_step c2 c3 (by omega) (by omega) (fits4 (by omega) (by omega))
  obtain ⟨e1, e2, e3⟩ := nx_step d2 d3 (by omega) (by omega) (fits4 (by omega) (by omega))
  obtain ⟨f1, f2, f3⟩ := nx_step e2 e3 (by omega) (by omega) (fits8 (by omega) (by omega))
  obtain ⟨g1, g2, g3⟩ := nxi_all (n := 8) (by omega) (by omega) (vs := [e, s, o]) (fun v hv => by simp only [List.mem_cons, List.not_mem_nil, or_false] at hv; rcases hv with rfl | rfl | rfl <;> exact fits8 (by omega) (by omega)) f2 f3 3 rfl
  obtain ⟨i1, i2, i3⟩ := nx_step g2 g3 (by omega) (by omega) (fits4 (by omega) (by omega))
  obtain ⟨j1, j2, j3⟩ := nx_step i2 i3 (by omega) (by omega) (fits4 (by omega) (by omega))
  obtain ⟨k1, k2, k3⟩ := nx_step j2 j3 (by omega) (by omega) (fits8 (by omega) (by omega))
  obtain ⟨m1, m2, m3⟩ := nx_step k2 k3 (by omega) (by omega) (fits4 (by omega) (by omega))
  have n4 : ((4 : Nat) : Int) = 4 := rfl
  have n8 : ((8 : Nat) : Int) = 8 := rfl
  rw [n4] at a1 c1 d1 e1 i1 j1 m1
  rw [n8] at b1 f1 g1 k1
  unfold farOf
  rw [if_neg (by omega), show (b.length : Int) + 76 - 20 = ((b.length + 4 + 8 + 4 + 4 + 4 + 8 + 8 * 3 : Nat) : Int) by omega, i1]
  unfold far1
  simp only [if_true]
  rw [j1]
  unfold far2
  simp only [if_true]
  rw [k1]
  unfold far3
  simp only
  rw [m1]
  unfold far4
  simp only [if_true]
  rw [if_pos (by omega), show (s + o : Int) = ((b.length : Nat) : Int) by omega, a1]
  unfold far5
  simp only [if_true]
  rw [b1]
  unfold far6
  simp only [if_true]
  rw [c1]
  unfold far7
  simp only
  rw [d1]
  unfold far8
  simp only [if_true]
  rw [e1]
  unfold far9
  simp only [if_true]
  rw [f1]
  unfold far10
  simp only
  rw [g1]
  simp [far11]
theorem find_far (b : List Int) (e s o : Int) (he : 65535 ≤ e ∧ e ≤ 1048576) (hs : 0 ≤ s ∧ s ≤ 200) (ho : 0 ≤ o ∧ o ≤ 1000) (hb : (b.length : Int) = o + s) : findOf (b ++ (farR e s o ++ endR 65535 s o)) = ((e, s, o, (b.length : Int), (b.length : Int) + 76), 0) := by
  have hf := far_end b e s o (endR 65535 s o) ⟨by omega, he.2⟩ hs ho hb
  have hlen : (b ++ farR e s o).length = b.length + 76 := by rw [List.length_append, farR_len]
  obtain ⟨h1, h2, h3⟩ := found_end (b ++ farR e s o) 65535 s o ⟨by omega, by omega⟩ hs ho
  rw [List.append_assoc] at h1 h2 h3
  rw [hlen] at h1 h2 h3
  unfold findOf
  rw [h1, if_neg (by omega)]
  unfold find1
  rw [h2]
  simp only [find2]
  rw [h3]
  have z : zeroB false 0 = true := rfl
  simp only [find3, if_true]
  rw [if_pos z, if_pos z, if_pos (.inl trivial), show ((b.length + 76 : Nat) : Int) = (b.length : Int) + 76 by omega, hf]
  simp only [find4, if_true]
  rw [if_pos (by omega), if_pos (by rw [wrap64_id (by omega) (by omega)]; omega)]
theorem within_ok (e s o : Int) (he : 0 ≤ e ∧ e ≤ 1048576) (hs : 0 ≤ s ∧ s ≤ 200) (ho : 0 ≤ o ∧ o ≤ 1000) : within_ 4611686018427387904 [e, s, o] = true := by
  unfold within_
  simp only [List.all_cons, List.all_nil, Bool.and_true]
  simp [show 0 ≤ e by omega, show e ≤ 4611686018427387904 by omega, show 0 ≤ s by omega, show s ≤ 4611686018427387904 by omega, show 0 ≤ o by omega, show o ≤ 4611686018427387904 by omega]
/-- the law, plain: what PutEnd puts behind a directory is found. -/
theorem finds (b : List Int) (e s o : Int) (he : 0 ≤ e ∧ e ≤ 1048576) (hs : 0 ≤ s ∧ s ≤ 200) (ho : 0 ≤ o ∧ o ≤ 1000) (hb : (b.length : Int) = o + s) :
    ∃ p : List Int, zipdir_PutEnd.f e s o = some (p, 0) ∧ (p.length : Int) = (if 65535 ≤ e then 98 else 22) ∧ zipdir_Find.f (b ++ p) = some (e, s, o, (b.length : Int), (b.length : Int) + (if 65535 ≤ e then 76 else 0), 0) := by
  refine ⟨_, by unfold zipdir_PutEnd.f; rw [if_pos (within_ok e s o he hs ho)], ?_, ?_⟩
  · rw [end_words e s o he hs ho]
    by_cases h : 65535 ≤ e
    · rw [if_pos h, if_pos h, List.length_append, farR_len, endR_len]; rfl
    · rw [if_neg h, if_neg h, List.length_append, endR_len]; rfl
  · rw [end_words e s o he hs ho]
    unfold zipdir_Find.f
    by_cases h : 65535 ≤ e
    · rw [if_pos h, if_pos h]
      have : (if (65535 : Int) < e then (65535 : Int) else e) = 65535 := by split <;> omega
      rw [this, if_pos (by simp only [List.length_append, farR_len, endR_len]; omega), find_far b e s o ⟨h, he.2⟩ hs ho hb]
    · rw [if_neg h, if_neg h, List.nil_append]
      have : (if (65535 : Int) < e then (65535 : Int) else e) = e := by split <;> omega
      rw [this, if_pos (by simp only [List.length_append, endR_len]; omega), find_near b e s o ⟨he.1, by omega⟩ hs ho hb]
      simp
end Go.Proofs.Ytfnicahlnpngkaa.ZipLaw

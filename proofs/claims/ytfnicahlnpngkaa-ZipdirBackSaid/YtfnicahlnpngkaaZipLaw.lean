/- zipdir: what the writer put is what the reader reads; the end is found (plain). -/
import Derived.Test.YtfnicahlnpngkaaZipFnd
import Derived.Test.YtfnicahlnpngkaaZipWrt
import Derived.Test.YtfnicahlnpngkaaNumAcc
set_option linter.unusedVariables false
set_option linter.unusedSimpArgs false
namespace Go.Proofs.Ytfnicahlnpngkaa.ZipLaw
open Go.RowKit Go.Proofs.YtfnicahlnpngkaaW.PrintWords Go.Proofs.YtfnicahlnpngkaaW.PrintLast Go.Proofs.YtfnicahlnpngkaaW.PrintMore Go.Proofs.Ytfnicahlnpngkaa.Base Go.Proofs.Ytfnicahlnpngkaa.NumRead Go.Proofs.Ytfnicahlnpngkaa.ExtraNum Go.Proofs.Ytfnicahlnpngkaa.NumAcc Go.Proofs.Ytfnicahlnpngkaa.Num1 Go.Proofs.Ytfnicahlnpngkaa.ZipRd Go.Proofs.Ytfnicahlnpngkaa.ZipNums Go.Proofs.Ytfnicahlnpngkaa.ZipPut Go.Proofs.Ytfnicahlnpngkaa.ZipEnd Go.Proofs.Ytfnicahlnpngkaa.ZipFound Go.Proofs.Ytfnicahlnpngkaa.ZipFar Go.Proofs.Ytfnicahlnpngkaa.ZipFind
theorem rd_app (a b : List Int) (j : Nat) : rd (a ++ b) ((a.length + j : Nat) : Int) = rd b (j : Int) := by
  unfold rd
  rw [Int.toNat_natCast, Int.toNat_natCast, List.getD_eq_getElem?_getD, List.getD_eq_getElem?_getD, List.getElem?_append_right (by omega)]
  congr 2; omega
theorem rd_left (a b : List Int) (j : Nat) (h : j < a.length) : rd (a ++ b) (j : Int) = rd a (j : Int) := by
  unfold rd
  rw [Int.toNat_natCast, List.getD_eq_getElem?_getD, List.getD_eq_getElem?_getD, List.getElem?_append_left h]

/-! ### numbers of n bytes, the lowest first -/
theorem leB_rd (v : Int) (n j : Nat) (hn : 1 ≤ n) (hn8 : n ≤ 8) (hj : j < n) : rd (leB v n) (j : Int) = v / 256 ^ j % 256 := by
  unfold leB rd
  rw [if_neg (by omega), Int.toNat_natCast, Int.toNat_natCast, bs_getD _ _ _ _ hj, Int.zero_add, byteAt_eq v j (by omega)]
/-- what stands at a place as leB put it is read. -/
theorem num_at (a b : List Int) (v : Int) (n : Nat) (hn : 1 ≤ n) (hn8 : n ≤ 8) (h0 : 0 ≤ v) (hv : v < 256 ^ n) (hv2 : v ≤ 4611686018427387904) : exNum (a ++ (leB v n ++ b)) (a.length : Int) n = some v := by
  have hlen : (leB v n).length = n := by rw [leB_length, if_neg (by omega)]; omega
  have hacc : acc (a ++ (leB v n ++ b)) (a.length : Int) (fun i => (n : Int) - 1 - i) n = v := by
    have := acc_val (a ++ (leB v n ++ b)) (a.length : Int) (fun i => (n : Int) - 1 - i) v n hn8 (fun j hj => by
      rw [show (a.length : Int) + ((n : Int) - 1 - (j : Int)) = ((a.length + (n - 1 - j) : Nat) : Int) by omega, rd_app, rd_left _ _ _ (by omega), leB_rd v n _ hn hn8 (by omega)]) n (Nat.le_refl n)
    rw [this, Nat.sub_self, Int.pow_zero, Int.ediv_one]
    exact Int.emod_eq_of_lt h0 hv
  have hrd : rdNum (a ++ (leB v n ++ b)) (a.length : Int) n (fun i => (n : Int) - 1 - i) = (v, 0) := by
    unfold rdNum
    rw [if_neg (by omega), if_neg (by rw [List.length_append, List.length_append, hlen]; omega), Int.toNat_natCast, hacc]
  unfold exNum
  rw [hrd, if_pos ⟨rfl, hv2⟩]

/-- numbers of n bytes, one behind the other. -/
def flat (n : Int) (vs : List Int) : List Int := vs.flatMap fun v => leB v n
theorem putAll_flat (n : Int) : ∀ (vs l : List Int), ZipPut.putAll l n vs = l ++ flat n vs
  | [], l => by simp [ZipPut.putAll, flat]
  | v :: vs, l => by rw [ZipPut.putAll, putAll_flat n vs]; simp [flat]
theorem leB_len (v : Int) (n : Nat) (hn : 1 ≤ n) (hn8 : n ≤ 8) : (leB v n).length = n := by rw [leB_length, if_neg (by omega)]; omega
theorem flat_len (n : Nat) (hn : 1 ≤ n) (hn8 : n ≤ 8) : ∀ vs : List Int, (flat n vs).length = n * vs.length
  | [] => by simp [flat]
  | v :: vs => by
    have := flat_len n hn hn8 vs
    rw [flat, List.flatMap_cons, List.length_append, leB_len v n hn hn8, show (vs.flatMap fun v => leB v n) = flat n vs from rfl, this, List.length_cons]
    rw [Nat.mul_add]; omega
/-- a number fits into n bytes. -/
def Fits (n : Nat) (v : Int) : Prop := 0 ≤ v ∧ v < 256 ^ n ∧ v ≤ 4611686018427387904
theorem nx_step {l : List Int} {p : Nat} {v : Int} {n : Nat} {rest : List Int} (h : l.drop p = leB v n ++ rest) (hp : p ≤ l.length) (hn : 1 ≤ n) (hn8 : n ≤ 8) (hv : Fits n v) :
    nx l (p : Int) false (n : Int) = (v, ((p + n : Nat) : Int), false) ∧ l.drop (p + n) = rest ∧ p + n ≤ l.length := by
  have hl : l = l.take p ++ (leB v n ++ rest) := by rw [← h, List.take_append_drop]
  have hlen : (l.take p).length = p := by rw [List.length_take]; omega
  have he : exNum l (p : Int) (n : Int) = some v := by
    have := num_at (l.take p) rest v n hn hn8 hv.1 hv.2.1 hv.2.2
    rw [hlen, ← hl] at this
    exact this
  have hd : l.drop (p + n) = rest := by
    rw [← List.drop_drop, h, List.drop_append, leB_len v n hn hn8, List.drop_of_length_le (by rw [leB_len v n hn hn8]; omega), Nat.sub_self]
    simp
  refine ⟨?_, hd, ?_⟩
  · unfold nx; rw [he]; simp
  · have := congrArg List.length h
    rw [List.length_drop, List.length_append, leB_len v n hn hn8] at this
    omega
theorem nxi_step {l : List Int} {p : Nat} {n : Nat} (hn : 1 ≤ n) (hn8 : n ≤ 8) {vs rest : List Int} (hv : ∀ v ∈ vs, Fits n v) (h : l.drop p = flat n vs ++ rest) (hp : p ≤ l.length) : ∀ i : Nat, i ≤ vs.length →
    nxi l (p : Int) false (n : Int) i = (vs.take i, ((p + n * i : Nat) : Int), false) ∧ l.drop (p + n * i) = flat n (vs.drop i) ++ rest ∧ p + n * i ≤ l.length
  | 0, _ => by
    refine ⟨by simp [nxi], by simpa using h, by simpa using hp⟩
  | i + 1, hi => by
    obtain ⟨h1, h2, h3⟩ := nxi_step hn hn8 hv h hp i (by omega)
    have hlt : i < vs.length := by omega
    have hc : vs.drop i = vs[i] :: vs.drop (i + 1) := List.drop_eq_getElem_cons hlt
    have h2' : l.drop (p + n * i) = leB vs[i] n ++ (flat n (vs.drop (i + 1)) ++ rest) := by rw [h2, hc, flat, List.flatMap_cons, List.append_assoc]; rfl
    obtain ⟨g1, g2, g3⟩ := nx_step h2' h3 hn hn8 (hv _ (List.getElem_mem hlt))
    have hq : p + n * (i + 1) = p + n * i + n := by rw [Nat.mul_add]; omega
    rw [nxi, h1]
    simp only
    rw [g1, hq]
    exact ⟨by rw [List.take_succ_eq_append_getElem hlt], g2, g3⟩
theorem nxi_all {l : List Int} {p : Nat} {n : Nat} (hn : 1 ≤ n) (hn8 : n ≤ 8) {vs rest : List Int} (hv : ∀ v ∈ vs, Fits n v) (h : l.drop p = flat n vs ++ rest) (hp : p ≤ l.length) (m : Nat) (hm : m = vs.length) :
    nxi l (p : Int) false (n : Int) m = (vs, ((p + n * m : Nat) : Int), false) ∧ l.drop (p + n * m) = rest ∧ p + n * m ≤ l.length := by
  subst hm
  have := nxi_step hn hn8 hv h hp vs.length (Nat.le_refl _)
  rw [List.take_length, List.drop_length] at this
  simpa [flat] using this
theorem f2 (vs : List Int) : (flat 2 vs).length = 2 * vs.length := flat_len 2 (by omega) (by omega) vs
theorem f4 (vs : List Int) : (flat 4 vs).length = 4 * vs.length := flat_len 4 (by omega) (by omega) vs
theorem f8 (vs : List Int) : (flat 8 vs).length = 8 * vs.length := flat_len 8 (by omega) (by omega) vs
theorem fits4 {v : Int} (h0 : 0 ≤ v) (h : v < 4294967296) : Fits 4 v := ⟨h0, by simpa using h, by omega⟩
theorem fits2 {v : Int} (h0 : 0 ≤ v) (h : v < 65536) : Fits 2 v := ⟨h0, by simpa using h, by omega⟩
end Go.Proofs.Ytfnicahlnpngkaa.ZipLaw

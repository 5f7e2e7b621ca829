/- The document's Merge, as it is printed: it is the program's. PaxPuts -/
import Derived.Test.YtfnicahlnpngkaaDoorPaxMergeLOfPaxPuts
set_option linter.unusedVariables false
set_option linter.unusedSimpArgs false
namespace Go.Proofs.YtfnicahlnpngkaaDoor.PaxMergeROfPaxPuts
open Go.RowKit Go.Proofs Go.Proofs.YtfnicahlnpngkaaDoorW.PrintWords Go.Proofs.YtfnicahlnpngkaaDoorW.PrintLast Go.Proofs.YtfnicahlnpngkaaDoorW.PrintMore Go.Proofs.YtfnicahlnpngkaaDoor.Base Go.Proofs.YtfnicahlnpngkaaDoor.MergeP Go.Proofs.YtfnicahlnpngkaaDoor.PPaxPuts Go.Proofs.YtfnicahlnpngkaaDoor.PaxMergeOfPaxPuts Go.Proofs.YtfnicahlnpngkaaDoor.PaxLawsOfPaxPuts Go.Proofs.YtfnicahlnpngkaaDoor.PaxMergeLOfPaxPuts
theorem rget_is : ∀ (k : Nat) (l : List S39) (key : ByteArray) (i : Int), stevedoreref23_Get.l0 k l key i = pax_Get.l0 k l key i
  | 0, l, key, i => rfl
  | k + 1, l, key, i => by rw [stevedoreref23_Get.l0, pax_Get.l0, rget_is k]
theorem rget_eq (l : List S39) (key : ByteArray) (hl : l.length ≤ 1000000) (k : Nat) (hk : l.length < k) : stevedoreref23_Get.f k l key = some (getS l key) := by
  rw [← get_eq l key hl k hk]
  exact rget_is _ _ _ _
theorem inner (x1 out : List S39) (x6 : Int) (r : S39) (hl : out.length ≤ 1000000) (K : Nat) : ∀ (d i : Nat) (next : List S39) (done : Bool), i + d = out.length → next.length ≤ i →
    stevedoreref23_Merge.l1 (d + 1 + K) x1 out x6 next done (i : Int) r.f0 r.f1 =
      stevedoreref23_Merge.l0 K x1 (if live39 r = true ∧ (go S39.f0 live39 r (out.drop i) next done).2 = false then (go S39.f0 live39 r (out.drop i) next done).1 ++ [r] else (go S39.f0 live39 r (out.drop i) next done).1) (wrap64 (x6 + 1))
  | 0, i, next, done, hi, hn => by
    rw [show 0 + 1 + K = K + 1 by omega, stevedoreref23_Merge.l1, if_neg (by omega), List.drop_of_length_le (by omega), go]
    by_cases h : r.f1.toList = []
    · rw [if_pos h, if_neg (fun e => (live_iff r).1 e.1 h)]
    · rw [if_neg h]
      cases done with
      | true => rw [if_pos rfl, if_neg (by simp)]
      | false => rw [if_neg (by decide), if_pos (by omega), if_pos ⟨(live_iff r).2 h, rfl⟩]
  | d + 1, i, next, done, hi, hn => by
    have hlt : i < out.length := by omega
    have hw : wrap64 ((i : Int) + 1) = ((i + 1 : Nat) : Int) := by rw [wrap64_id (by omega) (by omega)]; omega
    rw [show d + 1 + 1 + K = (d + 1 + K) + 1 by omega, stevedoreref23_Merge.l1, if_pos (by omega), if_pos (by omega), rd_get out i hlt, hw, List.drop_eq_getElem_cons hlt]
    by_cases hk : out[i].f0 = r.f0
    · have hg : go S39.f0 live39 r (out[i] :: out.drop (i + 1)) next done = if live39 r = true ∧ done = false then go S39.f0 live39 r (out.drop (i + 1)) (next ++ [r]) true else go S39.f0 live39 r (out.drop (i + 1)) next done := by rw [go, if_neg (by simpa using hk)]
      rw [if_pos (tl_eq.2 hk), hg]
      by_cases h : r.f1.toList = []
      · have hn2 : ¬ (live39 r = true ∧ done = false) := fun e => (live_iff r).1 e.1 h
        rw [if_pos h, if_neg hn2]
        exact inner x1 out x6 r hl K d (i + 1) next done (by omega) (by omega)
      · rw [if_neg h]
        cases done with
        | true =>
          have hn2 : ¬ (live39 r = true ∧ true = false) := fun e => by cases e.2
          rw [if_pos rfl, if_neg hn2]
          exact inner x1 out x6 r hl K d (i + 1) next true (by omega) (by omega)
        | false =>
          have hn2 : live39 r = true ∧ false = false := ⟨(live_iff r).2 h, rfl⟩
          rw [if_neg (by decide), if_pos (by omega), if_pos hn2]
          exact inner x1 out x6 r hl K d (i + 1) (next ++ [r]) true (by omega) (by rw [List.length_append, List.length_singleton]; omega)
    · have hg : go S39.f0 live39 r (out[i] :: out.drop (i + 1)) next done = go S39.f0 live39 r (out.drop (i + 1)) (next ++ [out[i]]) done := by rw [go, if_pos hk]
      rw [if_neg (fun e => hk (tl_eq.1 e)), if_pos (by omega), hg]
      exact inner x1 out x6 r hl K d (i + 1) (next ++ [out[i]]) done (by omega) (by rw [List.length_append, List.length_singleton]; omega)
theorem outer (x1 : List S39) (h1 : x1.length ≤ 1000) (B C : Nat) (hB : B ≤ 900000) (hC : B + 2000 ≤ C) : ∀ (d i k : Nat) (out : List S39), i + d = x1.length → out.length ≤ B + i → d * C + 1 ≤ k → stevedoreref23_Merge.l0 k x1 out (i : Int) = some ((x1.drop i).foldl (merge1 S39.f0 live39) out)
  | 0, i, k + 1, out, hi, ho, hk => by rw [stevedoreref23_Merge.l0, if_neg (by omega), List.drop_of_length_le (by omega)]; rfl
  | d + 1, i, k + 1, out, hi, ho, hk => by
    have hlt : i < x1.length := by omega
    have hm : (d + 1) * C = d * C + C := by rw [Nat.add_mul, Nat.one_mul]
    rw [hm] at hk
    have hM := hk
    obtain ⟨K, rfl⟩ : ∃ K, k = out.length + 1 + K := ⟨k - out.length - 1, by omega⟩
    have hw : wrap64 ((i : Int) + 1) = ((i + 1 : Nat) : Int) := by rw [wrap64_id (by omega) (by omega)]; omega
    rw [stevedoreref23_Merge.l0, if_pos (by omega), if_pos (by omega), rd_get x1 i hlt]
    have hin := inner x1 out (i : Int) x1[i] (by omega) K out.length 0 [] false (by omega) (by simp)
    rw [show ((0 : Nat) : Int) = 0 from rfl] at hin
    rw [hin, List.drop_zero, hw]
    have he := ref_eq (key := S39.f0) (live := live39) out x1[i]
    unfold ref1 at he
    rw [he, List.drop_eq_getElem_cons hlt, List.foldl_cons]
    have hl := merge1_len out x1[i]
    exact outer x1 h1 B C hB hC d (i + 1) K _ (by omega) (by omega) (by omega)
  | 0, i, 0, out, hi, ho, hk => absurd hk (by omega)
  | d + 1, i, 0, out, hi, ho, hk => absurd hk (by omega)
theorem rmerge_eq (l0 l1 : List S39) (h0 : l0.length ≤ 1000) (h1 : l1.length ≤ 1000) (k : Nat) (hk : 4000000 ≤ k) : stevedoreref23_Merge.f k l0 l1 = some (l1.foldl (merge1 S39.f0 live39) l0) := by
  unfold stevedoreref23_Merge.f
  rw [Option.bind_some, if_pos (by simp; omega), List.nil_append]
  obtain ⟨C, hC⟩ : ∃ C, C = 3000 := ⟨_, rfl⟩
  have hm : l1.length * C ≤ 1000 * C := Nat.mul_le_mul_right C h1
  have := outer l1 h1 1000 C (by omega) (by omega) l1.length 0 k l0 (by omega) (by omega) (by omega)
  rw [List.drop_zero] at this
  exact this
end Go.Proofs.YtfnicahlnpngkaaDoor.PaxMergeROfPaxPuts

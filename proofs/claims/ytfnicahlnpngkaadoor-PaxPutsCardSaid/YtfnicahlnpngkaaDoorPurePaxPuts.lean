/- PaxPuts, the plain law. -/
import Derived.Test.YtfnicahlnpngkaaDoorPaxMergeROfPaxPuts
import Derived.Test.YtfnicahlnpngkaaDoorPaxPutRefOfPaxPuts
set_option linter.unusedVariables false
set_option linter.unusedSimpArgs false
namespace Go.Proofs.YtfnicahlnpngkaaDoor.PurePaxPuts
open Go.RowKit Go.Proofs Go.Proofs.YtfnicahlnpngkaaDoorW.PrintWords Go.Proofs.YtfnicahlnpngkaaDoorW.PrintLast Go.Proofs.YtfnicahlnpngkaaDoorW.PrintMore Go.Proofs.YtfnicahlnpngkaaDoor.Base Go.Proofs.YtfnicahlnpngkaaDoor.MergeP Go.Proofs.YtfnicahlnpngkaaDoor.DoorCut Go.Proofs.YtfnicahlnpngkaaDoor.DoorLen Go.Proofs.YtfnicahlnpngkaaDoor.DoorPutOfPaxPuts Go.Proofs.YtfnicahlnpngkaaDoor.PaxSem Go.Proofs.YtfnicahlnpngkaaDoor.PPaxPuts Go.Proofs.YtfnicahlnpngkaaDoor.PaxOneOfPaxPuts Go.Proofs.YtfnicahlnpngkaaDoor.PaxPutOfPaxPuts Go.Proofs.YtfnicahlnpngkaaDoor.PaxPutRefOfPaxPuts Go.Proofs.YtfnicahlnpngkaaDoor.PaxLawsOfPaxPuts Go.Proofs.YtfnicahlnpngkaaDoor.PaxMergeOfPaxPuts Go.Proofs.YtfnicahlnpngkaaDoor.PaxMergeLOfPaxPuts Go.Proofs.YtfnicahlnpngkaaDoor.PaxMergeROfPaxPuts
theorem few_facts {l : List S39} (h : fewB l = true) : l.length ≤ 12 ∧ ∀ x ∈ l, x.f0.size ≤ 200 ∧ x.f1.size ≤ 1200 := by
  unfold fewB at h
  rw [Bool.and_eq_true, List.all_eq_true] at h
  refine ⟨of_decide_eq_true h.2, fun x hx => ?_⟩
  have := h.1 x hx
  rw [Bool.and_eq_true] at this
  exact ⟨of_decide_eq_true this.1, of_decide_eq_true this.2⟩
theorem fold_len : ∀ (l1 out : List S39), (l1.foldl (merge1 S39.f0 live39) out).length ≤ out.length + l1.length
  | [], out => by simp
  | r :: t, out => by
    have h1 := merge1_len out r
    have h2 := fold_len t (merge1 S39.f0 live39 out r)
    rw [List.foldl_cons, List.length_cons]
    omega
theorem loop (l m : List S39) (key : ByteArray) (hl : l.length ≤ 12) (hs : ∀ x ∈ l, x.f0.size ≤ 200 ∧ x.f1.size ≤ 1200) (hm : m.length ≤ 12) : ∀ (d i k : Nat), i + d = l.length → d + 5000000 ≤ k → stevedorelaw24_PaxPuts.l0 k l m key l (i : Int) = some true
  | 0, i, k + 1, hi, hk => by
    have hf := fold_len m l
    rw [stevedorelaw24_PaxPuts.l0, if_neg (by omega), get_eq l key (by omega) k (by omega), Option.bind_some, rget_eq l key (by omega) k (by omega), Option.bind_some, told_at k (by omega), Option.bind_some, if_pos rfl]
    unfold pax_Merge.f
    rw [if_pos ⟨by omega, by omega⟩, Option.bind_some, rmerge_eq l m (by omega) (by omega) k (by omega), Option.bind_some, same_eq _ (by omega) k (by omega), Option.bind_some, if_pos rfl, if_pos rfl, if_pos (by simp), same_eq l (by omega) k (by omega)]
    rfl
  | d + 1, i, k + 1, hi, hk => by
    have hlt : i < l.length := by omega
    have hx := hs _ (List.getElem_mem hlt)
    rw [stevedorelaw24_PaxPuts.l0, if_pos (by omega), if_pos (by omega), rd_get l i hlt]
    obtain ⟨n, h1, h2, _⟩ := rlen_eq l[i].f0 l[i].f1 (by omega) (by omega) k (by omega)
    rw [h1, Option.bind_some, h2, Option.bind_some, if_pos rfl, show wrap64 ((i : Int) + 1) = ((i + 1 : Nat) : Int) by rw [wrap64_id (by omega) (by omega)]; omega]
    exact loop l m key hl hs hm d (i + 1) k (by omega) (by omega)
  | 0, i, 0, hi, hk => absurd hk (by omega)
  | d + 1, i, 0, hi, hk => absurd hk (by omega)
theorem big (l m : List S39) (key : ByteArray) (k : Nat) (hk : 1000 ≤ k) : stevedorelaw24_PaxPuts.j0 k l m key true = some true := by
  obtain ⟨k, rfl⟩ : ∃ q, k = q + 1 := ⟨k - 1, by omega⟩
  rw [stevedorelaw24_PaxPuts.j0, if_pos rfl, told_at k (by omega)]
  rfl
theorem at_k (l m : List S39) (key : ByteArray) (hl : l.length ≤ 9223372036854775807) (hm : m.length ≤ 9223372036854775807) (W k : Nat) (hW : 1048700 ≤ W) (hk : 1000 * W + 10000000 ≤ k) (hlk : l.length < k) (hmk : m.length < k) : stevedorelaw24_PaxPuts.f k l m key = some true := by
  unfold stevedorelaw24_PaxPuts.f
  rw [few_eq l hl k hlk, Option.bind_some]
  cases h1 : fewB l with
  | false => rw [if_neg (by decide)]; exact big l m key k (by omega)
  | true =>
    rw [if_pos rfl, few_eq m hm k hmk, Option.bind_some]
    cases h2 : fewB m with
    | false => rw [if_neg (by decide)]; exact big l m key k (by omega)
    | true =>
      rw [if_pos rfl]
      by_cases h3 : (key.size : Int) > 200
      · rw [decide_eq_true h3]; exact big l m key k (by omega)
      · rw [decide_eq_false h3]
        obtain ⟨hl12, hs⟩ := few_facts h1
        obtain ⟨hm12, _⟩ := few_facts h2
        obtain ⟨k, rfl⟩ : ∃ q, k = q + 1 + 1 := ⟨k - 2, by omega⟩
        rw [stevedorelaw24_PaxPuts.j0, if_neg (by decide), Option.bind_some, if_pos (by simp; omega), Option.bind_some, List.nil_append]
        have hp : ∃ t e, pax_Put.f l = some (t, e) := by
          unfold pax_Put.f
          rw [if_neg (by omega)]
          exact put_total l [] (fun x hx => by have := hs x hx; omega)
        obtain ⟨t, e, hp⟩ := hp
        rw [putRef_eq l (fun x hx => by have := hs x hx; omega) (k + 1) W hW (by omega), hp, Option.bind_some, Option.bind_some, if_pos rfl, stevedorelaw24_PaxPuts.j1, if_neg (by simp)]
        exact loop l m key hl12 hs hm12 l.length 0 k (by omega) (by omega)
theorem PaxPuts (l m : List S39) (key : ByteArray) (hl : l.length ≤ 9223372036854775807) (hm : m.length ≤ 9223372036854775807) : ∃ k, stevedorelaw24_PaxPuts.f k l m key = some true :=
  ⟨1000 * 1048700 + 10000000 + l.length + m.length + 1, at_k l m key hl hm 1048700 _ (Nat.le_refl _) (by omega) (by omega) (by omega)⟩
end Go.Proofs.YtfnicahlnpngkaaDoor.PurePaxPuts

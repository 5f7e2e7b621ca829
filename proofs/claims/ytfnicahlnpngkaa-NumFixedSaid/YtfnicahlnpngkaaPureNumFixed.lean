/- NumFixed: numbers of some bytes are read and put by the program as the document says, for every list of bytes, place, size and number. No condition. -/
import Derived.Test.YtfnicahlnpngkaaPNumFixedx6
import Derived.Test.YtfnicahlnpngkaaFixedRefOfNumFixed
set_option linter.unusedSimpArgs false
namespace Go.Proofs.Ytfnicahlnpngkaa.Pure
open Go.RowKit Go.Proofs.Ytfnicahlnpngkaa.PNumFixed Go.Proofs.YtfnicahlnpngkaaW.PrintWords Go.Proofs.YtfnicahlnpngkaaW.PrintLast
open Go.Proofs.Ytfnicahlnpngkaa.Base Go.Proofs.Ytfnicahlnpngkaa.NumRead Go.Proofs.Ytfnicahlnpngkaa.NumAcc Go.Proofs.Ytfnicahlnpngkaa.FixedOfNumFixed

theorem told_NumFixed : stevedorelaw3_told.f 100 = some true := by decide +kernel

theorem NumFixed : stevedorelaw3_NumFixed.Pure := by
  intro l f n v hl hl2 hlw hf hn hv
  have hf' := wf_i64 hf
  have hn' := wf_i64 hn
  refine ⟨301, ?_⟩
  have ht : ∀ k, 100 ≤ k → stevedorelaw3_told.f k = some true := fun k hk => at_rounds (g := fun k => stevedorelaw3_told.f k) (fun k => stevedorelaw3_told.mono k) hk told_NumFixed
  unfold stevedorelaw3_NumFixed.f
  by_cases h100 : (l.length : Int) > 100
  · simp only [h100, if_true, ht 301 (by omega), Option.bind_some]
  · simp only [h100, if_false]
    have q : l.length < 140737488355328 := by omega
    rw [little_eq l f n (by omega), big_eq l f n (by omega), number_eq l f n false (by omega) hf' 301 (by omega), number_eq l f n true (by omega) hf' 301 (by omega)]
    simp only [Option.bind_some, if_true, bne_self_eq_false, stevedorelaw3_NumFixed.j0, Bool.false_eq_true, if_false, ht 300 (by omega), List.length_nil, Nat.zero_add, q, List.nil_append]
    rw [putLittle_eq l v n (by omega) 300 (by omega), putBig_eq l v n (by omega) hn'.1 300 (by omega), bytes_eq v n false 300 (by omega), bytes_eq v n true 300 (by omega)]
    simp only [Option.bind_some, str_append, Bool.false_eq_true, if_false, if_true]
    have s1 : ∀ f : Int → Int, (strOfNums l).size + (strOfNums (if n < 1 ∨ 8 < n then [] else bs f 0 n.toNat)).size ≤ 9223372036854775807 := by
      intro f
      rw [strOfNums_size, strOfNums_size]
      by_cases e : n < 1 ∨ 8 < n
      · rw [if_pos e]; simp; omega
      · rw [if_neg e, bs_length]; omega
    simp only [s1, if_true, beq_self_eq_true]

end Go.Proofs.Ytfnicahlnpngkaa.Pure

/- The table of known functions, and that it is right. -/
import Derived.Test.YtgeklgnjnjpofaaGreatDoorTyA
import Derived.Test.YtgeklgnjnjpofaaGreatDoorTyB
import Derived.Test.YtgeklgnjnjpofaaGreatDoorTyT
import Derived.Test.YtgeklgnjnjpofaaGreatDoorTyK
import Derived.KernelRfl
set_option maxRecDepth 100000
set_option linter.unusedVariables false
namespace Go.Proofs.YtgeklgnjnjpofaaGreatDoor
open Go Go.Ev Go.RowKit
 noncomputable def ktold (args : List Value) (s : S) : Option Value := match args with
  | [] => match s.heap.get 1 with
    | some (.cells m c e es false fz) => match c.gets m 0 with
      | some l => bi (veqN.veqL 1 l pow) (some (.bool true)) none
      | none => none
    | _ => none
  | _ => none
 noncomputable def kn (f : FuncId) (args : List Value) (s : S) : Option Value :=
  bi (Nat.beq f 12) (ktold args s) (bi (Nat.beq f 68) (ksum args s) (bi (Nat.beq f 25) (ksum args s) (bi (Nat.beq f 38) (kblk blks f args s) (bi (Nat.beq f 40) (kblk blks f args s) (bi (Nat.beq f 8) (kval vals f args) (bi (Nat.beq f 76) (kval vals f args) none))))))
theorem blks_ok : ∀ x ∈ blks, callable Tryz.prog x.1 = true ∧ x.2.1.all plain = true ∧ plain x.2.2 = true ∧ ∀ e, retIs (fCall ⟨Tryz.prog, 0, extG Tryz.prog⟩ 100000 100 x.1 [.slice (some ⟨0, 0, none⟩) x.2.1.length x.2.1.length] (blkS x.2.1.length (T.puts x.2.1 0 .e) e)) x.2.2 = true := by
  intro x hx
  unfold blks at hx
  simp only [List.mem_cons, List.mem_nil_iff, or_false] at hx
  rcases hx with rfl | rfl | rfl
  · exact ⟨by decide +kernel, by decide +kernel, by decide +kernel, zero0⟩
  · exact ⟨by decide +kernel, by decide +kernel, by decide +kernel, zeroF⟩
  · exact ⟨by decide +kernel, by decide +kernel, by decide +kernel, readF⟩
theorem vals_ok : ∀ x ∈ vals, callable Tryz.prog x.1 = true ∧ x.2.1.all plain = true ∧ plain x.2.2 = true ∧ retIs (fCall ⟨Tryz.prog, 0, extG Tryz.prog⟩ 100000 100 x.1 x.2.1 (S0 0 [])) x.2.2 = true := by
  intro x hx
  unfold vals at hx
  simp only [List.mem_cons, List.mem_nil_iff, or_false] at hx
  rcases hx with rfl | rfl | rfl | rfl
  · exact ⟨by decide +kernel, by decide +kernel, by decide +kernel, putF⟩
  · exact ⟨by decide +kernel, by decide +kernel, by decide +kernel, clean0⟩
  · exact ⟨by decide +kernel, by decide +kernel, by decide +kernel, clean1⟩
  · exact ⟨by decide +kernel, by decide +kernel, by decide +kernel, clean2⟩
theorem kn_ok : KnownOK Tryz.prog 9 kn := by
  intro f args v μ s w args' h hw hg ha
  unfold kn at h
  simp only [bi_cond, beq_eq] at h
  by_cases h1 : f = 12
  · subst h1
    simp only [decide_true, cond_true] at h
    unfold ktold at h
    split at h
    · split at h
      · rename_i m c e es fz hb
        split at h
        · rename_i l hl
          rw [bi_cond] at h
          obtain ⟨hc, hx⟩ := bif_some h
          injection hx with hx; subst hx
          have hc := veqL_eq 1 hc
          subst hc
          have hl := laid_one hw hg (by decide) hb hl (by decide +kernel)
          have e1 : args' = #[] := by rw [← Array.toList_inj]; exact ha.nil_inv
          rw [e1]
          exact (told_calls e w hl).mono fun e w' ⟨a, b⟩ => ⟨_, a, .bool true, b⟩
        · cases h
      · cases h
    · cases h
  · simp only [h1, decide_false, cond_false] at h
    by_cases h2 : f = 68
    · subst h2
      simp only [decide_true, cond_true] at h
      exact ksum_ok mixed (by decide +kernel) sum68 h hw ha
    · simp only [h2, decide_false, cond_false] at h
      by_cases h3 : f = 25
      · subst h3
        simp only [decide_true, cond_true] at h
        exact ksum_ok mixed (by decide +kernel) sum25 h hw ha
      · simp only [h3, decide_false, cond_false] at h
        by_cases h4 : f = 38
        · subst h4
          simp only [decide_true, cond_true] at h
          exact kblk_ok mixed blks_ok h hw ha
        · simp only [h4, decide_false, cond_false] at h
          by_cases h5 : f = 40
          · subst h5
            simp only [decide_true, cond_true] at h
            exact kblk_ok mixed blks_ok h hw ha
          · simp only [h5, decide_false, cond_false] at h
            by_cases h6 : f = 8
            · subst h6
              simp only [decide_true, cond_true] at h
              exact kval_ok mixed vals_ok h ha
            · simp only [h6, decide_false, cond_false] at h
              by_cases h7 : f = 76
              · subst h7
                simp only [decide_true, cond_true] at h
                exact kval_ok mixed vals_ok h ha
              · simp only [h7, decide_false, cond_false] at h
                cases h
/-- a byte's own run. -/
 noncomputable def one (e : TypeId) (t : Nat) : Bool := isTrue (fCall ⟨Tryz.prog, 9, extK Tryz.prog kn⟩ 100000 1000 4 [.int .u8 (.ofNat t)] (S0 9 (tabs e)))
 noncomputable def many (e : TypeId) (l : List Nat) : Bool := l.all (one e)
end Go.Proofs.YtgeklgnjnjpofaaGreatDoor

/- strconv.Atoi at a decimal numeral of at most 18 bytes, in the print's own form (late: it names the print's errW). -/
import Derived.Test.YtfmfikodnpnblaaDoorClkLib
import Derived.Test.YtfmfikodnpnblaaDoorPRateBx0
set_option linter.unusedVariables false
namespace Go.Proofs.YtfmfikodnpnblaaDoor.ClkAtoiRateB
open Go.RowKit Go.Proofs Go.Proofs.YtfmfikodnpnblaaDoorW.PrintWords Go.Proofs.YtfmfikodnpnblaaDoor.Base Go.Proofs.YtfmfikodnpnblaaDoor.PRateB

def strconv_Atoi.f (a0 : ByteArray) : Option (Int × Option Int) := if a0.size ≤ 18 then (Lib.atoi a0.data.toList).map (fun n => (n, none)) else none
theorem strconv_Atoi.calls (a0 : ByteArray) (r1 : Int) (r2 : Option Int) (w : World) (h : strconv_Atoi.f a0 = some (r1, r2)) :
    Calls Tryd.prog 65 #[.string a0] w fun e w' => e = .returned (.tuple #[.int .i64 r1, errW r2]) ∧ Below w.heap.size w w' := by
  unfold strconv_Atoi.f at h
  by_cases hs : a0.size ≤ 18
  · rw [if_pos hs, Option.map_eq_some_iff] at h
    obtain ⟨n, hn, he⟩ := h
    cases he
    refine (Tryd.strconv_Atoi a0 _ hs hn w).mono ?_
    rintro e w' ⟨rfl, t, rfl⟩
    exact ⟨rfl, bytes_below (Below.refl _ _) (Nat.le_refl _) 5 t⟩
  · rw [if_neg hs] at h; cases h
end Go.Proofs.YtfmfikodnpnblaaDoor.ClkAtoiRateB

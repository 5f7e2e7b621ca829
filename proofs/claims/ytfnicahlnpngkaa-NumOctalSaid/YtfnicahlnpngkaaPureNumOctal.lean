/- NumOctal: tar's numbers are read and put by the program as the document says, for every text, number and size. No condition. -/
import Derived.Test.YtfnicahlnpngkaaPNumOctalx5
import Derived.Test.YtfnicahlnpngkaaOctalOfNumOctal
namespace Go.Proofs.Ytfnicahlnpngkaa.Pure
open Go.RowKit Go.Proofs.Ytfnicahlnpngkaa.PNumOctal Go.Proofs.YtfnicahlnpngkaaW.PrintWords Go.Proofs.YtfnicahlnpngkaaW.PrintLast
open Go.Proofs.Ytfnicahlnpngkaa.Base Go.Proofs.Ytfnicahlnpngkaa.OctalOfNumOctal

theorem told_NumOctal : stevedorelaw3_told.f 100 = some true := by decide +kernel

theorem NumOctal : stevedorelaw3_NumOctal.Pure := by
  intro s v n hs hv hn
  refine ⟨2 * s.size + 200, ?_⟩
  have ht : stevedorelaw3_told.f (2 * s.size + 200) = some true := at_rounds (g := fun k => stevedorelaw3_told.f k) (fun k => stevedorelaw3_told.mono k) (by omega) told_NumOctal
  obtain ⟨⟨a, e⟩, h1, h2⟩ := octal_same s hs (2 * s.size + 200) (2 * s.size + 200) (by omega) (by omega)
  obtain ⟨⟨b, f⟩, h3, h4⟩ := putOctal_same v n (wf_i64 hv) (2 * s.size + 200) (2 * s.size + 200) (by omega) (by omega)
  unfold stevedorelaw3_NumOctal.f
  simp only [ht, h1, h2, h3, h4, Option.bind_some, if_true, beq_self_eq_true, ite_self]

end Go.Proofs.Ytfnicahlnpngkaa.Pure

/- NumTexts: numbers of eight digits to the base 16, and decimal ones, are read and put by the program as the document says, for every text and number. No condition. -/
import Derived.Test.YtfnicahlnpngkaaPNumTextsx5
import Derived.Test.YtfnicahlnpngkaaTextsOfNumTexts
namespace Go.Proofs.Ytfnicahlnpngkaa.Pure
open Go.RowKit Go.Proofs.Ytfnicahlnpngkaa.PNumTexts Go.Proofs.YtfnicahlnpngkaaW.PrintWords Go.Proofs.YtfnicahlnpngkaaW.PrintLast
open Go.Proofs.Ytfnicahlnpngkaa.Base Go.Proofs.Ytfnicahlnpngkaa.TextsOfNumTexts

theorem told_NumTexts : stevedorelaw3_told.f 100 = some true := by decide +kernel

theorem NumTexts : stevedorelaw3_NumTexts.Pure := by
  intro s v hs hv
  refine ⟨2 * s.size + 200, ?_⟩
  have ht : stevedorelaw3_told.f (2 * s.size + 200) = some true := at_rounds (g := fun k => stevedorelaw3_told.f k) (fun k => stevedorelaw3_told.mono k) (by omega) told_NumTexts
  obtain ⟨⟨a, e⟩, h1, h2⟩ := hexes_same s (2 * s.size + 200) (2 * s.size + 200) (by omega) (by omega)
  obtain ⟨⟨b, f⟩, h3, h4⟩ := putHex_same v (wf_i64 hv) (2 * s.size + 200) (2 * s.size + 200) (by omega) (by omega)
  obtain ⟨⟨c, g⟩, h5, h6⟩ := decimal_same s hs (2 * s.size + 200) (2 * s.size + 200) (by omega) (by omega)
  unfold stevedorelaw3_NumTexts.f
  simp only [ht, h1, h2, h3, h4, h5, h6, Option.bind_some, if_true, beq_self_eq_true, ite_self]

end Go.Proofs.Ytfnicahlnpngkaa.Pure

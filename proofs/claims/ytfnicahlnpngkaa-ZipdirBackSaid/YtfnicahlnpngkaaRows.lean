/-
  No cell of these rows narrows 'for every input' (looked for: loops, veiled, ifaces, maps, wideKeys, modest, calm, conditions, laid).
  DERIVED. THE GIVEN ROWS OF THIS SEAT. 10 by the template 'for every input the law returns true; each argument reads behind the call as it read before'; 0 by the template 'total and deterministic' (their statements: YtfnicahlnpngkaaTotals.lean).
  GIVEN WITH THE SEED: the statements are not yours to turn. If you find one false, say at which input.
  Laid BY PROGRAM, IN A SANDBOX (cutbox-rows.mjs): the forced cells as the released guide's own fill.sh prints them over the translation c7766170680d818d… (all of the seat's roots in one cut). By AI agents, Wed Nov 11 2026. No macro, syntax, notation, axiom, sorry.
-/
import Derived.Test.YtfnicahlnpngkaaChecked
import GoSem.Claim
import GoSem.ClaimJoined
import GoSem.ClaimMapViews
import Derived.JoinedTies
import Derived.KernelRfl
namespace Go.Proofs.Ytfnicahlnpngkaa
/- THE CELL 'sum', in the pinned program and in every row, IS THE sha256 OF THE DUMP (.gsa) THAT YtfnicahlnpngkaaProg.lean LOADS. Nothing in Lean hashes anything: it is a label: what it is worth is what the hold of that sum in a sandbox is worth. -/
noncomputable def Try.pinned : Pinned := { name := "ytfnicahlnpngkaa", sum := "c7766170680d818d0342d2ce392db2315689124074a2bc96aa21604a7d6c0c7a", checked := Try.checked }
namespace Rows
def none {H : Type} : Left H := { results := [], args := [] }

/-- 'stevedorelaw3.NumOctal': WHATEVER THE INPUT: true; the input reads as it did. -/
def numOctalSpec : ChangeSpec := { name := "numOctal", fn := fun _ => fun
  | [d1, d2, d3] => { results := [.lit (.bool true)], args := [d1, d2, d3] }
  | _ => none }
def numOctalRow : OpenClaim := { program := "ytfnicahlnpngkaa", sum := "c7766170680d818d0342d2ce392db2315689124074a2bc96aa21604a7d6c0c7a", func := "stevedore/stevedorelaw3.NumOctal", spec := "numOctal", apart := false }
def NumOctalSaid : Prop := numOctalRow.holds Try.pinned (OpenSpec.ofChange numOctalSpec)

/-- ITS FALSE NEIGHBOUR: 'it returns false'. Refute it at one input. -/
def numOctalWrong : ChangeSpec := { name := "numOctal", fn := fun _ => fun
  | [d1, d2, d3] => { results := [.lit (.bool false)], args := [d1, d2, d3] }
  | _ => none }
def NumOctalWrongFalsely : Prop := numOctalRow.holds Try.pinned (OpenSpec.ofChange numOctalWrong)

/-- 'stevedorelaw27.ExtraBig': WHATEVER THE INPUT: true; the input reads as it did. -/
def extraBigSpec : ChangeSpec := { name := "extraBig", fn := fun _ => fun
  | [d1, d2, d3] => { results := [.lit (.bool true)], args := [d1, d2, d3] }
  | _ => none }
def extraBigRow : OpenClaim := { program := "ytfnicahlnpngkaa", sum := "c7766170680d818d0342d2ce392db2315689124074a2bc96aa21604a7d6c0c7a", func := "stevedore/stevedorelaw27.ExtraBig", spec := "extraBig", unfollowed := true, recurses := true, apart := false }
def ExtraBigSaid : Prop := extraBigRow.holds Try.pinned (OpenSpec.ofChange extraBigSpec)

/-- ITS FALSE NEIGHBOUR: 'it returns false'. Refute it at one input. -/
def extraBigWrong : ChangeSpec := { name := "extraBig", fn := fun _ => fun
  | [d1, d2, d3] => { results := [.lit (.bool false)], args := [d1, d2, d3] }
  | _ => none }
def ExtraBigWrongFalsely : Prop := extraBigRow.holds Try.pinned (OpenSpec.ofChange extraBigWrong)

/-- 'stevedorelaw27.ExtraReads': WHATEVER THE INPUT: true; the input reads as it did. -/
def extraReadsSpec : ChangeSpec := { name := "extraReads", fn := fun _ => fun
  | [d1, d2] => { results := [.lit (.bool true)], args := [d1, d2] }
  | _ => none }
def extraReadsRow : OpenClaim := { program := "ytfnicahlnpngkaa", sum := "c7766170680d818d0342d2ce392db2315689124074a2bc96aa21604a7d6c0c7a", func := "stevedore/stevedorelaw27.ExtraReads", spec := "extraReads", unfollowed := true, recurses := true, apart := false }
def ExtraReadsSaid : Prop := extraReadsRow.holds Try.pinned (OpenSpec.ofChange extraReadsSpec)

/-- ITS FALSE NEIGHBOUR: 'it returns false'. Refute it at one input. -/
def extraReadsWrong : ChangeSpec := { name := "extraReads", fn := fun _ => fun
  | [d1, d2] => { results := [.lit (.bool false)], args := [d1, d2] }
  | _ => none }
def ExtraReadsWrongFalsely : Prop := extraReadsRow.holds Try.pinned (OpenSpec.ofChange extraReadsWrong)

/-- 'stevedorelaw27.ExtraBack': WHATEVER THE INPUT: true; the input reads as it did. -/
def extraBackSpec : ChangeSpec := { name := "extraBack", fn := fun _ => fun
  | [d1, d2, d3] => { results := [.lit (.bool true)], args := [d1, d2, d3] }
  | _ => none }
def extraBackRow : OpenClaim := { program := "ytfnicahlnpngkaa", sum := "c7766170680d818d0342d2ce392db2315689124074a2bc96aa21604a7d6c0c7a", func := "stevedore/stevedorelaw27.ExtraBack", spec := "extraBack", unfollowed := true, recurses := true, apart := false }
def ExtraBackSaid : Prop := extraBackRow.holds Try.pinned (OpenSpec.ofChange extraBackSpec)

/-- ITS FALSE NEIGHBOUR: 'it returns false'. Refute it at one input. -/
def extraBackWrong : ChangeSpec := { name := "extraBack", fn := fun _ => fun
  | [d1, d2, d3] => { results := [.lit (.bool false)], args := [d1, d2, d3] }
  | _ => none }
def ExtraBackWrongFalsely : Prop := extraBackRow.holds Try.pinned (OpenSpec.ofChange extraBackWrong)

/-- 'stevedorelaw3.NumTexts': WHATEVER THE INPUT: true; the input reads as it did. -/
def numTextsSpec : ChangeSpec := { name := "numTexts", fn := fun _ => fun
  | [d1, d2] => { results := [.lit (.bool true)], args := [d1, d2] }
  | _ => none }
def numTextsRow : OpenClaim := { program := "ytfnicahlnpngkaa", sum := "c7766170680d818d0342d2ce392db2315689124074a2bc96aa21604a7d6c0c7a", func := "stevedore/stevedorelaw3.NumTexts", spec := "numTexts", apart := false }
def NumTextsSaid : Prop := numTextsRow.holds Try.pinned (OpenSpec.ofChange numTextsSpec)

/-- ITS FALSE NEIGHBOUR: 'it returns false'. Refute it at one input. -/
def numTextsWrong : ChangeSpec := { name := "numTexts", fn := fun _ => fun
  | [d1, d2] => { results := [.lit (.bool false)], args := [d1, d2] }
  | _ => none }
def NumTextsWrongFalsely : Prop := numTextsRow.holds Try.pinned (OpenSpec.ofChange numTextsWrong)

/-- 'stevedorelaw3.NumFixed': WHATEVER THE INPUT: true; the input reads as it did. -/
def numFixedSpec : ChangeSpec := { name := "numFixed", fn := fun _ => fun
  | [d1, d2, d3, d4] => { results := [.lit (.bool true)], args := [d1, d2, d3, d4] }
  | _ => none }
def numFixedRow : OpenClaim := { program := "ytfnicahlnpngkaa", sum := "c7766170680d818d0342d2ce392db2315689124074a2bc96aa21604a7d6c0c7a", func := "stevedore/stevedorelaw3.NumFixed", spec := "numFixed", unfollowed := true, recurses := true, apart := false }
def NumFixedSaid : Prop := numFixedRow.holds Try.pinned (OpenSpec.ofChange numFixedSpec)

/-- ITS FALSE NEIGHBOUR: 'it returns false'. Refute it at one input. -/
def numFixedWrong : ChangeSpec := { name := "numFixed", fn := fun _ => fun
  | [d1, d2, d3, d4] => { results := [.lit (.bool false)], args := [d1, d2, d3, d4] }
  | _ => none }
def NumFixedWrongFalsely : Prop := numFixedRow.holds Try.pinned (OpenSpec.ofChange numFixedWrong)

/-- 'stevedorelaw3.NumBack': WHATEVER THE INPUT: true; the input reads as it did. -/
def numBackSpec : ChangeSpec := { name := "numBack", fn := fun _ => fun
  | [d1, d2, d3] => { results := [.lit (.bool true)], args := [d1, d2, d3] }
  | _ => none }
def numBackRow : OpenClaim := { program := "ytfnicahlnpngkaa", sum := "c7766170680d818d0342d2ce392db2315689124074a2bc96aa21604a7d6c0c7a", func := "stevedore/stevedorelaw3.NumBack", spec := "numBack", unfollowed := true, recurses := true, apart := false }
def NumBackSaid : Prop := numBackRow.holds Try.pinned (OpenSpec.ofChange numBackSpec)

/-- ITS FALSE NEIGHBOUR: 'it returns false'. Refute it at one input. -/
def numBackWrong : ChangeSpec := { name := "numBack", fn := fun _ => fun
  | [d1, d2, d3] => { results := [.lit (.bool false)], args := [d1, d2, d3] }
  | _ => none }
def NumBackWrongFalsely : Prop := numBackRow.holds Try.pinned (OpenSpec.ofChange numBackWrong)

/-- 'stevedorelaw28.ZipdirFinds': WHATEVER THE INPUT: true; the input reads as it did. -/
def zipdirFindsSpec : ChangeSpec := { name := "zipdirFinds", fn := fun _ => fun
  | [d1, d2, d3, d4] => { results := [.lit (.bool true)], args := [d1, d2, d3, d4] }
  | _ => none }
def zipdirFindsRow : OpenClaim := { program := "ytfnicahlnpngkaa", sum := "c7766170680d818d0342d2ce392db2315689124074a2bc96aa21604a7d6c0c7a", func := "stevedore/stevedorelaw28.ZipdirFinds", spec := "zipdirFinds", unfollowed := true, recurses := true, apart := false }
def ZipdirFindsSaid : Prop := zipdirFindsRow.holds Try.pinned (OpenSpec.ofChange zipdirFindsSpec)

/-- ITS FALSE NEIGHBOUR: 'it returns false'. Refute it at one input. -/
def zipdirFindsWrong : ChangeSpec := { name := "zipdirFinds", fn := fun _ => fun
  | [d1, d2, d3, d4] => { results := [.lit (.bool false)], args := [d1, d2, d3, d4] }
  | _ => none }
def ZipdirFindsWrongFalsely : Prop := zipdirFindsRow.holds Try.pinned (OpenSpec.ofChange zipdirFindsWrong)

/-- 'stevedorelaw28.ZipdirHeaders': WHATEVER THE INPUT: true; the input reads as it did. -/
def zipdirHeadersSpec : ChangeSpec := { name := "zipdirHeaders", fn := fun _ => fun
  | [d1, d2, d3, d4, d5] => { results := [.lit (.bool true)], args := [d1, d2, d3, d4, d5] }
  | _ => none }
def zipdirHeadersRow : OpenClaim := { program := "ytfnicahlnpngkaa", sum := "c7766170680d818d0342d2ce392db2315689124074a2bc96aa21604a7d6c0c7a", func := "stevedore/stevedorelaw28.ZipdirHeaders", spec := "zipdirHeaders", unfollowed := true, recurses := true, apart := false }
def ZipdirHeadersSaid : Prop := zipdirHeadersRow.holds Try.pinned (OpenSpec.ofChange zipdirHeadersSpec)

/-- ITS FALSE NEIGHBOUR: 'it returns false'. Refute it at one input. -/
def zipdirHeadersWrong : ChangeSpec := { name := "zipdirHeaders", fn := fun _ => fun
  | [d1, d2, d3, d4, d5] => { results := [.lit (.bool false)], args := [d1, d2, d3, d4, d5] }
  | _ => none }
def ZipdirHeadersWrongFalsely : Prop := zipdirHeadersRow.holds Try.pinned (OpenSpec.ofChange zipdirHeadersWrong)

/-- 'stevedorelaw28.ZipdirBack': WHATEVER THE INPUT: true; the input reads as it did. -/
def zipdirBackSpec : ChangeSpec := { name := "zipdirBack", fn := fun _ => fun
  | [d1, d2] => { results := [.lit (.bool true)], args := [d1, d2] }
  | _ => none }
def zipdirBackRow : OpenClaim := { program := "ytfnicahlnpngkaa", sum := "c7766170680d818d0342d2ce392db2315689124074a2bc96aa21604a7d6c0c7a", func := "stevedore/stevedorelaw28.ZipdirBack", spec := "zipdirBack", unfollowed := true, recurses := true, apart := false }
def ZipdirBackSaid : Prop := zipdirBackRow.holds Try.pinned (OpenSpec.ofChange zipdirBackSpec)

/-- ITS FALSE NEIGHBOUR: 'it returns false'. Refute it at one input. -/
def zipdirBackWrong : ChangeSpec := { name := "zipdirBack", fn := fun _ => fun
  | [d1, d2] => { results := [.lit (.bool false)], args := [d1, d2] }
  | _ => none }
def ZipdirBackWrongFalsely : Prop := zipdirBackRow.holds Try.pinned (OpenSpec.ofChange zipdirBackWrong)

/- THE SECOND FORM. 'bulk': how many values and letters a reading holds, each counted each time it is reached (what is shared counts as often as it is met; a slice's spare places count too). A statement '..UptoSaid' is the law's where the arguments, and the package variables that the reading takes, are together of bulk at most 1048576: NARROWER than '..Said'. Prove '..Said' where nothing that the law and all that it calls make is longer than what came in: it says more and counts as full. Else prove '..UptoSaid'. A law counts once. -/
mutual
def uptoBulk {H : Type} : DataW H → Nat
  | .lit (.string bytes) => bytes.length + 1
  | .lit _ => 1
  | .nil => 1
  | .ptr d => uptoBulk d + 1
  | .slice elems spare => uptoBulkAll elems + uptoBulkAll spare + 1
  | .agg parts => uptoBulkAll parts + 1
  | .iface _ d => uptoBulk d + 1
  | .map entries => uptoBulkEntries entries + 1
  | .held _ => 1
def uptoBulkAll {H : Type} : List (DataW H) → Nat
  | [] => 0
  | d :: r => uptoBulk d + uptoBulkAll r
def uptoBulkEntries {H : Type} : List (Lit × DataW H) → Nat
  | [] => 0
  | x :: r => uptoBulkEntry x + uptoBulkEntries r
def uptoBulkEntry {H : Type} : Lit × DataW H → Nat
  | (.string bytes, d) => bytes.length + uptoBulk d + 1
  | (_, d) => uptoBulk d + 1
 end
def uptoSmall : (H : Type) → List (DataW H) → Bool := fun _ ds => decide (uptoBulkAll ds ≤ 1048576)
def OpenSpec.upto (s : _root_.Go.ChangeSpec) : _root_.Go.OpenSpec := { _root_.Go.OpenSpec.ofChange s with cond := some uptoSmall }

/-- 'stevedorelaw3.NumOctal', WHERE WHAT IT READS IS OF BULK AT MOST 1048576: true; the input reads as it did. -/
def numOctalUptoRow : OpenClaim := { program := "ytfnicahlnpngkaa", sum := "c7766170680d818d0342d2ce392db2315689124074a2bc96aa21604a7d6c0c7a", func := "stevedore/stevedorelaw3.NumOctal", spec := "numOctal", apart := false, narrowed := true }
def NumOctalUptoSaid : Prop := numOctalUptoRow.holds Try.pinned (OpenSpec.upto numOctalSpec)

/-- 'stevedorelaw27.ExtraBig', WHERE WHAT IT READS IS OF BULK AT MOST 1048576: true; the input reads as it did. -/
def extraBigUptoRow : OpenClaim := { program := "ytfnicahlnpngkaa", sum := "c7766170680d818d0342d2ce392db2315689124074a2bc96aa21604a7d6c0c7a", func := "stevedore/stevedorelaw27.ExtraBig", spec := "extraBig", unfollowed := true, recurses := true, apart := false, narrowed := true }
def ExtraBigUptoSaid : Prop := extraBigUptoRow.holds Try.pinned (OpenSpec.upto extraBigSpec)

/-- 'stevedorelaw27.ExtraReads', WHERE WHAT IT READS IS OF BULK AT MOST 1048576: true; the input reads as it did. -/
def extraReadsUptoRow : OpenClaim := { program := "ytfnicahlnpngkaa", sum := "c7766170680d818d0342d2ce392db2315689124074a2bc96aa21604a7d6c0c7a", func := "stevedore/stevedorelaw27.ExtraReads", spec := "extraReads", unfollowed := true, recurses := true, apart := false, narrowed := true }
def ExtraReadsUptoSaid : Prop := extraReadsUptoRow.holds Try.pinned (OpenSpec.upto extraReadsSpec)

/-- 'stevedorelaw27.ExtraBack', WHERE WHAT IT READS IS OF BULK AT MOST 1048576: true; the input reads as it did. -/
def extraBackUptoRow : OpenClaim := { program := "ytfnicahlnpngkaa", sum := "c7766170680d818d0342d2ce392db2315689124074a2bc96aa21604a7d6c0c7a", func := "stevedore/stevedorelaw27.ExtraBack", spec := "extraBack", unfollowed := true, recurses := true, apart := false, narrowed := true }
def ExtraBackUptoSaid : Prop := extraBackUptoRow.holds Try.pinned (OpenSpec.upto extraBackSpec)

/-- 'stevedorelaw3.NumTexts', WHERE WHAT IT READS IS OF BULK AT MOST 1048576: true; the input reads as it did. -/
def numTextsUptoRow : OpenClaim := { program := "ytfnicahlnpngkaa", sum := "c7766170680d818d0342d2ce392db2315689124074a2bc96aa21604a7d6c0c7a", func := "stevedore/stevedorelaw3.NumTexts", spec := "numTexts", apart := false, narrowed := true }
def NumTextsUptoSaid : Prop := numTextsUptoRow.holds Try.pinned (OpenSpec.upto numTextsSpec)

/-- 'stevedorelaw3.NumFixed', WHERE WHAT IT READS IS OF BULK AT MOST 1048576: true; the input reads as it did. -/
def numFixedUptoRow : OpenClaim := { program := "ytfnicahlnpngkaa", sum := "c7766170680d818d0342d2ce392db2315689124074a2bc96aa21604a7d6c0c7a", func := "stevedore/stevedorelaw3.NumFixed", spec := "numFixed", unfollowed := true, recurses := true, apart := false, narrowed := true }
def NumFixedUptoSaid : Prop := numFixedUptoRow.holds Try.pinned (OpenSpec.upto numFixedSpec)

/-- 'stevedorelaw3.NumBack', WHERE WHAT IT READS IS OF BULK AT MOST 1048576: true; the input reads as it did. -/
def numBackUptoRow : OpenClaim := { program := "ytfnicahlnpngkaa", sum := "c7766170680d818d0342d2ce392db2315689124074a2bc96aa21604a7d6c0c7a", func := "stevedore/stevedorelaw3.NumBack", spec := "numBack", unfollowed := true, recurses := true, apart := false, narrowed := true }
def NumBackUptoSaid : Prop := numBackUptoRow.holds Try.pinned (OpenSpec.upto numBackSpec)

/-- 'stevedorelaw28.ZipdirFinds', WHERE WHAT IT READS IS OF BULK AT MOST 1048576: true; the input reads as it did. -/
def zipdirFindsUptoRow : OpenClaim := { program := "ytfnicahlnpngkaa", sum := "c7766170680d818d0342d2ce392db2315689124074a2bc96aa21604a7d6c0c7a", func := "stevedore/stevedorelaw28.ZipdirFinds", spec := "zipdirFinds", unfollowed := true, recurses := true, apart := false, narrowed := true }
def ZipdirFindsUptoSaid : Prop := zipdirFindsUptoRow.holds Try.pinned (OpenSpec.upto zipdirFindsSpec)

/-- 'stevedorelaw28.ZipdirHeaders', WHERE WHAT IT READS IS OF BULK AT MOST 1048576: true; the input reads as it did. -/
def zipdirHeadersUptoRow : OpenClaim := { program := "ytfnicahlnpngkaa", sum := "c7766170680d818d0342d2ce392db2315689124074a2bc96aa21604a7d6c0c7a", func := "stevedore/stevedorelaw28.ZipdirHeaders", spec := "zipdirHeaders", unfollowed := true, recurses := true, apart := false, narrowed := true }
def ZipdirHeadersUptoSaid : Prop := zipdirHeadersUptoRow.holds Try.pinned (OpenSpec.upto zipdirHeadersSpec)

/-- 'stevedorelaw28.ZipdirBack', WHERE WHAT IT READS IS OF BULK AT MOST 1048576: true; the input reads as it did. -/
def zipdirBackUptoRow : OpenClaim := { program := "ytfnicahlnpngkaa", sum := "c7766170680d818d0342d2ce392db2315689124074a2bc96aa21604a7d6c0c7a", func := "stevedore/stevedorelaw28.ZipdirBack", spec := "zipdirBack", unfollowed := true, recurses := true, apart := false, narrowed := true }
def ZipdirBackUptoSaid : Prop := zipdirBackUptoRow.holds Try.pinned (OpenSpec.upto zipdirBackSpec)

end Rows
end Go.Proofs.Ytfnicahlnpngkaa

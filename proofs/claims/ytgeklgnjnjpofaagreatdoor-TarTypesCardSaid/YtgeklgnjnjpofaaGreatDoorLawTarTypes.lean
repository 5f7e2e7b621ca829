/- TarTypes: a header's type decides what it is: a byte 0 and 0 a file, 1 another name, 2 a link, 5 a directory; others are refused: any type, behind a file that is there. Each byte's run by the evaluator that EvT to EvKnow prove sound; the row and its tied card. -/
import Derived.Test.YtgeklgnjnjpofaaGreatDoorRows
import Derived.Test.YtgeklgnjnjpofaaGreatDoorCards
import Derived.Test.YtgeklgnjnjpofaaGreatDoorTie
import Derived.Test.YtgeklgnjnjpofaaGreatDoorTyLaid
import Derived.Lay
import Derived.WalkKit
import Derived.ProofKit
import Derived.OpenShut
import Derived.Laws.Cover2
import Derived.ShutString
import Derived.ChangeOld
import Derived.Below
import Derived.SizedLaws
import Derived.SevenTiedAt
namespace Go.Proofs.YtgeklgnjnjpofaaGreatDoor.tarTypes
open Go Go.ChangeShapes Go.WideShapes Go.ChangeAt Go.RowKit Go.Proofs.YtgeklgnjnjpofaaGreatDoor.DoorLaid
open Go.ChangeMaps (open_string shut_string)
set_option linter.unusedVariables false
/-- any byte: its own run. -/
theorem anyByte (a : Int) (y : (Lit.int .u8 a).wf = true) (w : World) (h : ∃ e, Go.Ev.LaidT (tabs e) w) : Calls Tryz.prog 4 #[.int .u8 a] w fun e w' => e = .returned (.bool true) ∧ Below w.heap.size w w' := by
  obtain ⟨e, hl⟩ := h
  obtain ⟨t, ht, rfl⟩ : ∃ t : Nat, t < 256 ∧ a = .ofNat t := by
    have h1 : 0 ≤ a ∧ a < 256 := by
      have := y
      simp [Lit.wf, IntKind.min, IntKind.max, IntKind.signed, IntKind.bits] at this
      omega
    exact ⟨a.toNat, by omega, by show a = (a.toNat : Int); omega⟩
  exact types_calls e t ht w hl
theorem own : ownKnob Tryz.prog.godebug = none := by kernel_rfl
theorem laidOut : laidOutB Tryz.prog = true := by kernel_rfl
set_option maxRecDepth 100000 in
theorem lifted (os : Os) (started : os.Started) (H : Type) (enc : TypeId × Value → H) :
    ReturnsInHanded {} Tryz.checked os 4 .any (fun w args => (Rows.tarTypesSpec.pre enc Tryz.prog Tryz.f4 [] false w args ∧ laidMetH Tryz.prog laid3 w) ∧ sizedMet enc Tryz.prog Tryz.f4 (OpenSpec.ofChange Rows.tarTypesSpec) false w args)
      (Rows.tarTypesSpec.post enc Tryz.prog Tryz.f4 false true false false) := by
  refine returnsInHanded_of_change_and (C := Tryz.checked) (X := fun w _ => laidMetH Tryz.prog laid3 w) (fun _ _ _ hh h => h.of_heap hh) own started (by kernel_rfl) Tryz.func4
    (ChangeSpec.witness_shaped (enc := enc) (C := Tryz.checked) (os := os) (X := fun w _ => laidMetH Tryz.prog laid3 w) false (World.laidAll Tryz.prog os laid3) #[.int .u8 0] 8 (World.laidAll_os _ _ _) (World.shaped_of_ZipB (by kernel_rfl) (by kernel_rfl)) (by kernel_rfl) (by kernel_rfl) (by kernel_rfl) (door_met os _)) ?_
  intro W base args ds gs before hval0 hW _ _ hL _
  have hval : ∀ (j : Nat) t v, Tryz.f4.params[j]? = some t → args[j]? = some v → Value.okWide Tryz.prog W .any base t v := hval0
  have hW' := hW
  obtain ⟨p, q, hA0, hV, rfl, hfz, hnd⟩ := hW
  have hA : DataW.TrodAll enc Tryz.prog W 0 (fun _ => true) true Tryz.f4.params.toList args.toList ds p := hA0
  rw [Tryz.params4] at hA hval
  obtain ⟨v0, vs0, d0, ds0, p0, q0, hargs, rfl, rfl, h0, r0⟩ := trodAll_cons hA
  obtain ⟨rfl, rfl, rfl⟩ := trodAll_nil r0
  obtain rfl : args = #[v0] := by cases args; simp_all
  obtain ⟨rfl, rfl⟩ := trodVars_none hV
  obtain ⟨a0, rfl, rfl, rfl, y0⟩ := open_int Tryz.underlying5 (hval 0 5 v0 rfl rfl) h0
  have hmax : maxLen ≤ 9223372036854775807 := by decide
  have hv := vars_of_laid hL
  clear hA0 hval0
  refine (anyByte a0 y0 W hv).mono fun e W' ⟨he, bel⟩ => ?_
  subst he
  exact ⟨_, rfl, _, _, _, [], _, [], hW', trodAll_mk1 (shut_bool Tryz.underlying4 _), (trodAll_cons_mk (shut_int Tryz.underlying5 y0) trodAll_mk0), rfl, bel.frame _, fun h => by cases h⟩
theorem over : Rows.TarTypesSaid :=
  OpenClaim.holds_of_wide 4 Tryz.f4 rfl rfl rfl rfl rfl rfl rfl ⟨rfl, rfl, rfl, rfl, rfl⟩ rfl rfl rfl rfl rfl (by kernel_rfl) Tryz.func4 (by kernel_rfl)
    (of_decide_eq_true (by kernel_rfl)) (by unfold Func.isWrapper; first | (rw [if_pos (by decide +kernel)]; kernel_rfl) | (rw [if_neg (by decide +kernel)]; exact ⟨rfl, rfl⟩))
    (fun os started H enc _ => lifted os started H enc)
theorem card_holds : Claim7.holds Tryz.pinned (.plain (OpenSpec.ofChange Rows.tarTypesSpec)) Rows.tarTypesCard :=
  Claim7.holds_tied_plain_at .later [] [.data, .data, .data, .data, .sentinel, .sentinel, .pinned] true (true, "5f6aa4cc2ff014f5e623b179e7eaa7b9b651b9928418e338794749f84c74f43f") true
    over (fun _ h => by cases h) (by kernel_rfl) (fun _ h => by cases h) tarTypes_row_tie rfl ⟨rfl, rfl⟩ (by kernel_rfl) rfl
    (fun f fn hf hfn => by
      obtain rfl : f = 4 := Option.some.inj ((show Tryz.prog.funcNamed "stevedore/stevedorelaw25.TarTypes" = some 4 by kernel_rfl).symm.trans hf) |>.symm
      obtain rfl : fn = Tryz.f4 := (Option.some.inj (Tryz.func4.symm.trans hfn)).symm
      exact ⟨by kernel_rfl, fun j t ht => by
        rw [Tryz.params4] at ht
        have h3 : t = 5 := by
          rcases j with _ | j
          · exact (by simpa using ht.symm)
          · simp at ht
        rcases h3 with rfl
        · exact (show Tryz.prog.wantsStandIn 5 = false by kernel_rfl)⟩)
    (by kernel_rfl)
end Go.Proofs.YtgeklgnjnjpofaaGreatDoor.tarTypes
namespace Go.Proofs.YtgeklgnjnjpofaaGreatDoor
/-- The tied card, under a short name, for the claim. -/
theorem tarTypes_holds : Rows.TarTypesCardSaid := tarTypes.card_holds
#print axioms tarTypes_holds
end Go.Proofs.YtgeklgnjnjpofaaGreatDoor

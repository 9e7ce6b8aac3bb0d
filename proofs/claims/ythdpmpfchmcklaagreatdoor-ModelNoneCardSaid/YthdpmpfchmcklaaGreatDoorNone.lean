/- instarlaw37.ModelNone returns true for every input, and each argument reads behind the call as it read before; the two tables of package sha read at the start as the program's text lays them (the card ties this). The whole run (the nil model's answers, and the law's own run) is reckoned by the kernel through an evaluator that is proved sound; the two arguments are handed on and not looked at. -/
import Derived.Test.YthdpmpfchmcklaaGreatDoorLift
import Derived.Test.YthdpmpfchmcklaaGreatDoorFacts
import Derived.Test.YthdpmpfchmcklaaGreatDoorCards
import Derived.Test.YthdpmpfchmcklaaGreatDoorTie
import Derived.ProofKit
import Derived.LaidMore
import Derived.OpenShut
import Derived.Stop.Joined
import Derived.SevenTiedAt
namespace Go.Proofs.YthdpmpfchmcklaaGreatDoor
open Go.ChangeShapes Go.WideShapes Go.ChangeAt Go.WideMaps Go.WideElems Go.RowKit Go.Ev

theorem modelNone_holds : Rows.ModelNoneSaid :=
  OpenClaim.holds_of_wide 3 Tryz.f3 rfl rfl rfl rfl rfl rfl rfl ⟨rfl, rfl, rfl, rfl, rfl⟩ rfl rfl rfl rfl rfl (by kernel_rfl) Tryz.func3 row_facts
    (of_decide_eq_true (by kernel_rfl)) (by unfold Func.isWrapper; first | (rw [if_pos (by decide +kernel)]; kernel_rfl) | (rw [if_neg (by decide +kernel)]; exact ⟨rfl, rfl⟩))
    (fun os started H enc _ => lifted os started H enc)

/-- THE TIED CARD. -/
theorem modelNone_card : Rows.ModelNoneCardSaid :=
  Claim7.holds_tied_plain_at .later [] [.data, .data] true (true, "f0ddc8430d899eae9ff34105fda07837b4e09caf34452bd9567e09589b407997") false
    modelNone_holds (fun _ h => by cases h) (by kernel_rfl) (fun _ h => by cases h) modelNone_row_tie rfl ⟨rfl, rfl⟩ (by kernel_rfl) rfl
    (fun f fn hf hfn => by
      obtain rfl : f = 3 := Option.some.inj ((show Tryz.prog.funcNamed "instar/instarlaw37.ModelNone" = some 3 by kernel_rfl).symm.trans hf) |>.symm
      obtain rfl : fn = Tryz.f3 := (Option.some.inj (Tryz.func3.symm.trans hfn)).symm
      exact ⟨by kernel_rfl, fun j t ht => by
        rw [Tryz.params3] at ht
        have hm : t ∈ [26, 3] := by simpa using Array.mem_of_getElem? ht
        have hall : ([26, 3].all fun u => !Tryz.prog.wantsStandIn u) = true := by kernel_rfl
        exact (show Tryz.prog.wantsStandIn t = false by simpa using List.all_eq_true.1 hall t hm)⟩)
    (by kernel_rfl)
#print axioms modelNone_card
end Go.Proofs.YthdpmpfchmcklaaGreatDoor

/- motleylaw08.CheckFinds answers true at every input and leaves its arguments as they were: the tied card of the given row, where the six listed variables hold what the program's text lays. -/
import Derived.Test.YtignppgiamochaaGreatDoorLift
import Derived.Test.YtignppgiamochaaGreatDoorJf
import Derived.Test.YtignppgiamochaaGreatDoorTie
import Derived.Test.YtignppgiamochaaGreatDoorCards
import Derived.ProofKit
import Derived.OpenShut
import Derived.LaidMore
import Derived.Lay
import Derived.Carry
import Derived.SevenTiedAt
import Derived.Stop.Joined
set_option linter.unusedVariables false
set_option linter.unusedSimpArgs false
namespace Go.AM
open Go Go.Proofs Go.Proofs.YtignppgiamochaaGreatDoor Go.ChangeShapes Go.WideShapes Go.ChangeAt Go.RowKit
set_option maxRecDepth 100000
theorem finds_holds : Rows.CheckFindsSaid :=
 OpenClaim.holds_of_wide 4 Tryz.f4 rfl rfl rfl rfl rfl rfl rfl ⟨rfl, rfl, rfl, rfl, rfl⟩ rfl rfl rfl rfl rfl (by kernel_rfl) Tryz.func4 joined0
  (of_decide_eq_true (by kernel_rfl)) (by unfold Func.isWrapper; first | (rw [if_pos (by decide +kernel)]; kernel_rfl) | (rw [if_neg (by decide +kernel)]; exact ⟨rfl, rfl⟩))
  (fun os started H enc _ => finds_lifted os started H enc)
end Go.AM
namespace Go.Proofs.YtignppgiamochaaGreatDoor
open Go.AM Go.Proofs
set_option maxRecDepth 100000
theorem finds_card_holds : Rows.CheckFindsCardSaid :=
 Claim7.holds_tied_plain_at .later [] [.data, .data, .data, .sentinel, .sentinel, .data] true (true, "b87d86b6a7a9f16ba884c0457430f85ffa398cf9e509dcf579637a28fc26f2c2") true finds_holds (fun _ h => by cases h) (by kernel_rfl) (fun _ h => by cases h) checkFinds_row_tie rfl ⟨rfl, rfl⟩ (by kernel_rfl) rfl
  (fun f fn hf hfn => by
   obtain rfl : f = 4 := Option.some.inj ((show Tryz.prog.funcNamed "motley/motleylaw08.CheckFinds" = some 4 by kernel_rfl).symm.trans hf) |>.symm
   obtain rfl : fn = Tryz.f4 := (Option.some.inj (Tryz.func4.symm.trans hfn)).symm
   exact ⟨by kernel_rfl, fun j t ht => by
    rw [Tryz.params4] at ht
    have hm : t ∈ [36, 5, 3, 3] := by simpa using Array.mem_of_getElem? ht
    have hall : ([36, 5, 3, 3].all fun u => !Tryz.prog.wantsStandIn u) = true := by kernel_rfl
    exact (show Tryz.prog.wantsStandIn t = false by simpa using List.all_eq_true.1 hall t hm)⟩)
  (by kernel_rfl)
#print axioms finds_card_holds
end Go.Proofs.YtignppgiamochaaGreatDoor

/-
  Layer 14: the chapter's example ('alive') returns true from every world: reckoned.
-/
import Derived.Test.YtocecgdblhjojaaGreatDoorLaid
namespace Go.Proofs.YtocecgdblhjojaaGreatDoor
open Go.Sim Go.RowKit

theorem alive_run : isTrueE (callE Tryz.prog (fun _ _ => none) (fun f => ![].contains f) (fun _ => none) 1000 50 9 [] []) = true := by kernel_rfl
theorem alive_calls (w : World) : Calls Tryz.prog 9 #[] w fun e w' => e = .returned (.bool true) ∧ Below w.heap.size w w' :=
  calls_true (la := []) (LRel.nil _) (acalls_true follows (noOut w) okAll (noPrims _ w) 1000 50 alive_run) fun _ _ h => h
end Go.Proofs.YtocecgdblhjojaaGreatDoor

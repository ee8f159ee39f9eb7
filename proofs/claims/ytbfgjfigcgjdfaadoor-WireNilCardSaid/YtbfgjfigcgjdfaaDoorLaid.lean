/-
  Layer 13, shared: closed facts of the program, a world in which the listed variables hold what the row says.
-/
import Derived.Test.YtbfgjfigcgjdfaaDoorSim18
import Derived.Test.YtbfgjfigcgjdfaaDoorRows
import Derived.ProofKit
import Derived.OpenShut
namespace Go.Proofs.YtbfgjfigcgjdfaaDoor
open Go.Sim

theorem ownNone : ownKnob Tryd.prog.godebug = none := by kernel_rfl
theorem follows : Tryd.prog.follows .mixedOrders = true := by kernel_rfl
theorem okAll : allOk Tryd.prog [] = true := by kernel_rfl
theorem laidOut : laidOutB Tryd.prog = true := by kernel_rfl
theorem bool4 : Tryd.prog.underlying 4 = some .bool := by kernel_rfl

noncomputable def laidWorld (os : Os) : World := laidW Tryd.prog os
  [(0, Rows.laid_internal_strconv_uint64pow10), (2, Rows.laid_math_bits_deBruijn32tab), (3, Rows.laid_math_bits_deBruijn64tab), (6, Rows.laid_unicode_utf8_first), (7, Rows.laid_unicode_utf8_acceptRanges)]
  [(4, 127, 129, cellsD 2 (.lit (.string [105, 110, 118, 97, 108, 105, 100, 32, 115, 121, 110, 116, 97, 120]))), (5, 127, 129, cellsD 2 (.lit (.string [118, 97, 108, 117, 101, 32, 111, 117, 116, 32, 111, 102, 32, 114, 97, 110, 103, 101])))]
theorem laid_met (os : Os) (args : Array Value) : laidMet Tryd.prog Rows.wireNilRow.laid ((laidWorld os).forCall (fun _ _ => 0) ⟨#[], args, []⟩).memory :=
  laidMet_of_run3 8 (by kernel_rfl) (by kernel_rfl) (by kernel_rfl)
end Go.Proofs.YtbfgjfigcgjdfaaDoor

/-
  Layer 14, shared: closed facts of the program, a world in which the listed variables hold what the rows say.
-/
import Derived.Test.YtocecgdblhjojaaGreatDoorSim18
import Derived.Test.YtocecgdblhjojaaGreatDoorRows
import Derived.ProofKit
import Derived.OpenShut
namespace Go.Proofs.YtocecgdblhjojaaGreatDoor
open Go.Sim

theorem ownNone : ownKnob Tryz.prog.godebug = none := by kernel_rfl
theorem follows : Tryz.prog.follows .mixedOrders = true := by kernel_rfl
theorem okAll : allOk Tryz.prog [] = true := by kernel_rfl
theorem laidOut : laidOutB Tryz.prog = true := by kernel_rfl
theorem bool4 : Tryz.prog.underlying 4 = some .bool := by kernel_rfl

noncomputable def laidWorld (os : Os) : World := laidW Tryz.prog os
  [(0, Rows.laid_unicode_utf8_first), (1, Rows.laid_unicode_utf8_acceptRanges), (3, Rows.laid_internal_strconv_uint64pow10), (4, Rows.laid_math_bits_deBruijn32tab), (5, Rows.laid_math_bits_deBruijn64tab)] []
end Go.Proofs.YtocecgdblhjojaaGreatDoor

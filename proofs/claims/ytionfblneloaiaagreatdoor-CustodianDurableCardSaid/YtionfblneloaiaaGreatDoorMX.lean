/- The seat's own facts that many texts need. -/
import Derived.Test.YtionfblneloaiaaGreatDoorTy2
namespace Go.Sx
open Go Go.Proofs
instance mixedI : Mixed Tryz.prog := ⟨by kernel_rfl⟩
end Go.Sx


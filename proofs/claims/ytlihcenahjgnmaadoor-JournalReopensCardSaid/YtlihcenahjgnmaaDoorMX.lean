/- The seat's own facts that many texts need. -/
import Derived.Test.YtlihcenahjgnmaaDoorTy2
namespace Go.Sx
open Go Go.Proofs
instance mixedI : Mixed Tryd.prog := ⟨by kernel_rfl⟩
end Go.Sx


/- Chapter 17: the laws' helpers xor, changed. -/
import Derived.Test.YtfjkdciblblalaaDoorM1
import Derived.Test.YtfjkdciblblalaaDoorGE
import Derived.Test.YtfjkdciblblalaaDoorHB
import Derived.Test.YtfjkdciblblalaaDoorTy2
namespace Go.Sx
open Go Go.Proofs
attribute [local irreducible] WC WL WX POp Then Again Fn NX W1 WA WO QL RP RA Yld LoopAt HC HL HX HN H1 HA HO HQ A.blk A.grow A.rd A.obj AgainH CutH

end Go.Sx


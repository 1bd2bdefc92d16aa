/- Plain: the fixed examples. -/
import Derived.Test.YtacamanakmeebaaDoorGF6
import Derived.KernelRfl
namespace Go.Sx
open Go
instance (frs : List ByteArray) (th : List Bool) (k : Int) : Decidable (CompOK frs th k) := by unfold CompOK; infer_instance
instance (frs : List ByteArray) (th : List Bool) (k w : Int) : Decidable (FragOK frs th k w) := by unfold FragOK; infer_instance
def exAb : ByteArray := ByteArray.mk #[97, 98]
def exL : List ByteArray := [ByteArray.mk #[97], ByteArray.mk #[98], ByteArray.mk #[103]]
theorem exL_eq : codeL exAb 2 3 = exL := by kernel_rfl
theorem exComp : CompOK exL [false, true, true] 2 := by decide +kernel
theorem exComp2 : CompOK exL [true, true, false] 2 := by decide +kernel
theorem exOut : cOut exL [true, true, false] 2 2 = ByteArray.mk #[103] := by kernel_rfl
theorem exCat : catO exL [false, true, true] 2 = exAb := by kernel_rfl
theorem exCM : cM exL [false, true, true] 2 = 1 := by kernel_rfl
theorem exNo : ¬ CompOK [ByteArray.mk #[120], ByteArray.mk #[98], ByteArray.mk #[103]] [true, true, true] 2 := by decide +kernel
theorem exMul1 : mulN 2 128 = 29 := by decide +kernel
theorem exMul2 : mulN 3 7 = 9 := by decide +kernel
theorem exInv1 : invN 2 = 142 := by decide +kernel
theorem exInv2 : invN 0 = 0 := by decide +kernel
theorem exJoin : JoinOK exL [false, true, true] 2 2 := by
  refine ⟨exComp, by decide, by decide, ?_, ?_⟩
  · show ((cM exL [false, true, true] 2 : Nat) : Int) = _
    rw [exCM]; rfl
  · intro j h1 h2
    rw [show (2 : Int).toNat = 2 from rfl, exCat] at h2
    have : exAb.size = 2 := rfl
    have : (2 : Int).toNat = 2 := rfl
    omega
theorem exJoinNo : ¬ JoinOK exL [false, true, true] 2 1 := by
  intro h
  have h5 := h.2.2.2.2 1 (by decide)
  rw [show (2 : Int).toNat = 2 from rfl, exCat] at h5
  have := h5 (by decide)
  revert this
  decide
end Go.Sx


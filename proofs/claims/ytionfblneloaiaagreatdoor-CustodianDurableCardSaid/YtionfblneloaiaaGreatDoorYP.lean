/- Chapter 27: the laid variables. -/
import Derived.Test.YtionfblneloaiaaGreatDoorJU
import Derived.Test.YtionfblneloaiaaGreatDoorYE
namespace Go.Sx
open Go Go.Proofs Go.ChangeShapes Go.WideShapes Go.ChangeAt Go.RowKit
def laid5 : List (String × DataW Unit) := [("unicode/utf8.acceptRanges", YtionfblneloaiaaGreatDoor.Rows.laid_unicode_utf8_acceptRanges), ("evergreen/digest.round", YtionfblneloaiaaGreatDoor.Rows.laid_evergreen_digest_round), ("evergreen/journal.errDamaged", YtionfblneloaiaaGreatDoor.Rows.laid_evergreen_journal_errDamaged), ("evergreen/custodian.errRecord", YtionfblneloaiaaGreatDoor.Rows.laid_evergreen_custodian_errRecord), ("unicode/utf8.first", YtionfblneloaiaaGreatDoor.Rows.laid_unicode_utf8_first)]
theorem laid5_plain {W : World} (h : laidMetH Tryz.prog laid5 W) : laidMet Tryz.prog laid5 W := by
  rwa [MakeChecks.laidMetH_plain _ _ _ (by kernel_rfl)] at h
theorem round_of_laid5 {W : World} (h : laidMetH Tryz.prog laid5 W) : RoundG W := by
  have h1 := (laid5_plain h).tail
  have h2 : laidMet Tryz.prog (("evergreen/digest.round", Lib.tabData .u32 kZ) :: [("evergreen/journal.errDamaged", YtionfblneloaiaaGreatDoor.Rows.laid_evergreen_journal_errDamaged), ("evergreen/custodian.errRecord", YtionfblneloaiaaGreatDoor.Rows.laid_evergreen_custodian_errRecord), ("unicode/utf8.first", YtionfblneloaiaaGreatDoor.Rows.laid_unicode_utf8_first)]) W := by
    rw [← kZ_data]; exact h1
  have hT := Lib.tabIs_of_head (g := 1) (by kernel_rfl) (by kernel_rfl) Tryz.underlying226 Tryz.underlying85 (by kernel_rfl) (by kernel_rfl) h2
  intro i v hv
  have hlen : kZ.length = 64 := by kernel_rfl
  have hi : i < 64 := by
    have := (List.getElem?_eq_some_iff.1 hv).1
    unfold ws at this
    rw [List.length_map] at this
    exact this
  have hc := hT.cell (g := 1) (by kernel_rfl) i (by rw [hlen]; exact hi)
  rw [hc]
  unfold ws at hv
  rw [List.getElem?_map, List.getElem?_eq_getElem (by exact hi)] at hv
  rw [← hv]
  have hk : i < kL.length := hi
  have : kZ.getD i 0 = ((kL[i].toNat : Nat) : Int) := by unfold kZ; simp [hk]
  rw [this]; rfl
theorem err_of_laid5 {W : World} (h : laidMetH Tryz.prog laid5 W) : ∃ a : Addr, ErrG a W := by
  have h1 := (laid5_plain h).tail.tail
  obtain ⟨a, s, hv, hc, -, -⟩ := laid_sentinel (g := 2) h1 (by kernel_rfl) (by kernel_rfl) Tryz.underlying111 err_row Tryz.underlying303 Tryz.underlying325 rfl rfl Tryz.underlying9 (by kernel_rfl) (by kernel_rfl)
  refine ⟨a, ?_⟩
  have := World.var?_cell (g := 2) (by kernel_rfl) hv 0
  simpa [ErrG, errV] using this
theorem cerr_of_laid5 {W : World} (h : laidMetH Tryz.prog laid5 W) : ∃ a : Addr, CErrG a W := by
  have h1 := (laid5_plain h).tail.tail.tail
  obtain ⟨a, s, hv, hc, -, -⟩ := laid_sentinel (g := 0) h1 (by kernel_rfl) (by kernel_rfl) Tryz.underlying111 err_row Tryz.underlying303 Tryz.underlying325 rfl rfl Tryz.underlying9 (by kernel_rfl) (by kernel_rfl)
  refine ⟨a, ?_⟩
  have := World.var?_cell (g := 0) (by kernel_rfl) hv 0
  simpa [CErrG, errV] using this
end Go.Sx


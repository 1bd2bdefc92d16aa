/- Chapter 17: contracts as the laws use them. -/
import Derived.Test.YtfjkdciblblalaaDoorM2
import Derived.Test.YtfjkdciblblalaaDoorCC
import Derived.Test.YtfjkdciblblalaaDoorHx5
import Derived.Test.YtfjkdciblblalaaDoorGE
namespace Go.Sx
open Go Go.Proofs
attribute [local irreducible] WC WL WX POp Then Again Fn NX W1 WA WO QL RP RA Yld LoopAt HC HL HX HN H1 HA HO HQ A.blk A.grow A.rd A.obj AgainH CutH
theorem sane_x (w : World) (hr : Red w) : Fn Tryd.prog 4 #[] w fun v w' => v = .bool true ∧ Ext w w' := sane_fn w hr
/-- What 'made' returns, as a base. -/
structure Made (s : ByteArray) (K N T : Int) (least : Nat) (w : World) (v : Value) (w' : World) (S : ByteArray) (k n : Nat) (th : List Bool) (b off c : Nat) : Prop where
  hv : v = .tuple #[.string S, iv k, iv n, .slice (some ⟨b, off, none⟩) n c]
  hx : Ext w w'
  hS : S = s.extract 0 (min s.size 200)
  hS2 : S.size ≤ 200
  hk1 : 1 ≤ k
  hkn : k ≤ n
  hn9 : n ≤ 9
  hth : th.length = n
  hrd : Rd w' (.slice (some ⟨b, off, none⟩) n c) (bools th)
  hcap : n ≤ c
  hcnt : min n (k + least) ≤ cnt n (tf th)
  hnE : n = 1 + (pickI N 9).toNat
  hkE : k = 1 + (pickI K n).toNat
theorem made_z (s : ByteArray) (K N T : Int) (hK : -9223372036854775808 ≤ K ∧ K ≤ 9223372036854775807) (hN : -9223372036854775808 ≤ N ∧ N ≤ 9223372036854775807) (hT : -9223372036854775808 ≤ T ∧ T ≤ 9223372036854775807) (least : Nat) (hle : least ≤ 9) (w : World) :
    Fn Tryd.prog 5 #[.agg #[.string s, .int .i64 K, .int .i64 N, .int .i64 T], .int .i64 (least : Int)] w fun v w' => ∃ S k n th b off c, Made s K N T least w v w' S k n th b off c := by
  refine (made_fn s K N T hK hN hT least hle w).mono ?_
  rintro v w' ⟨c, k, n, th, rfl, x, h1, h2, h3, h4, h5, h6, h7, h8⟩
  have hlb : (bools th).length = n := by simp [bools, h4]
  obtain ⟨b, off, c', rfl, hc, -, -⟩ := h5.at (by intro e; rw [e] at hlb; simp at hlb; omega)
  rw [hlb] at h5 hc ⊢
  refine ⟨_, k, n, th, b, off, c', ⟨rfl, x, rfl, ?_, h1, h2, h3, h4, h5, hc, h6, h7, ?_⟩⟩
  · rw [ByteArray.size_extract]; omega
  · rw [h8]
    have : ((1 : Int) + (((pickI N 9).toNat : Nat) : Int)) = (n : Int) := by omega
    rw [this]
end Go.Sx


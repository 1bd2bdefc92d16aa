/- Chapter 17: contracts as the laws use them. -/
import Derived.Test.YtacamanakmeebaaDoorM2
import Derived.Test.YtacamanakmeebaaDoorHx5
import Derived.Test.YtacamanakmeebaaDoorGE
namespace Go.Sx
open Go Go.Proofs
attribute [local irreducible] WC WL WX POp Then Again Fn NX W1 WA WO QL RP RA Yld LoopAt HC HL HX HN H1 HA HO HQ A.blk A.grow A.rd A.obj AgainH CutH
theorem split_z (s : ByteArray) (k n : Nat) (hk : 1 ≤ k) (hkn : k ≤ n) (hn : n ≤ 9) (hs : s.size ≤ 4096 * k) (w : World) (hr : Red w) :
    Fn Tryd.prog 13 #[.string s, .int .i64 (k : Int), .int .i64 (n : Int)] w fun v w' => ∃ b : Nat, True ∧ v = .tuple #[.slice (some ⟨b, 0, none⟩) n n, .int .i64 0] ∧ Mm w [A.rd (.slice (some ⟨b, 0, none⟩) n n) (strs (codeL s k n))] w' :=
  (split_new s k n hk hkn hn hs w hr).mono fun _ _ ⟨b, h0, h1, h2, h3⟩ => ⟨b, trivial, h1, Mm.rdFresh h3 h0 h2⟩
theorem join_no {vf vt : Value} {frs : List ByteArray} {th : List Bool} {k len : Int} (h : ¬ JoinOK frs th k len) (hl : frs.length ≤ 100) (hlt : th.length ≤ 100) (w : World) (hr : Red w) (hRf : Rd w vf (strs frs)) (hRt : Rd w vt (bools th)) :
    Fn Tryd.prog 17 #[vf, vt, .int .i64 k, .int .i64 len] w fun v w' => v = .tuple #[.string noStr, .int .i64 170] ∧ Ext w w' :=
  (codeJoin_fn vf vt frs th k len hl hlt w hr hRf hRt).mono fun _ _ ⟨h1, h2⟩ => ⟨(h2.resolve_left fun h3 => h h3.1).2, h1⟩
theorem join_yes {vf vt : Value} {frs : List ByteArray} {th : List Bool} {k len : Int} (h : JoinOK frs th k len) (hl : frs.length ≤ 100) (hlt : th.length ≤ 100) (w : World) (hr : Red w) (hRf : Rd w vf (strs frs)) (hRt : Rd w vt (bools th)) :
    Fn Tryd.prog 17 #[vf, vt, .int .i64 k, .int .i64 len] w fun v w' => v = .tuple #[.string ((catO frs th k.toNat).extract 0 len.toNat), .int .i64 0] ∧ Ext w w' :=
  (codeJoin_fn vf vt frs th k len hl hlt w hr hRf hRt).mono fun _ _ ⟨h1, h2⟩ => ⟨(h2.resolve_right fun h3 => h3.1 h).2, h1⟩
/-- Whatever it returns. -/
noncomputable def joinV (frs : List ByteArray) (th : List Bool) (k len : Int) : ByteArray × Nat := open Classical in if JoinOK frs th k len then ((catO frs th k.toNat).extract 0 len.toNat, 0) else (noStr, 170)
theorem join_any {vf vt : Value} {frs : List ByteArray} {th : List Bool} {k len : Int} (hl : frs.length ≤ 100) (hlt : th.length ≤ 100) (w : World) (hr : Red w) (hRf : Rd w vf (strs frs)) (hRt : Rd w vt (bools th)) :
    Fn Tryd.prog 17 #[vf, vt, .int .i64 k, .int .i64 len] w fun v w' => v = .tuple #[.string (joinV frs th k len).1, .int .i64 ((joinV frs th k len).2 : Int)] ∧ Ext w w' := by
  unfold joinV
  by_cases h : JoinOK frs th k len
  · rw [if_pos h]; exact join_yes h hl hlt w hr hRf hRt
  · rw [if_neg h]; exact join_no h hl hlt w hr hRf hRt
theorem frag_no {vf vt : Value} {frs : List ByteArray} {th : List Bool} {k len : Int} (h : ¬ FragOK frs th k len) (hl : frs.length ≤ 100) (hlt : th.length ≤ 100) (w : World) (hr : Red w) (hRf : Rd w vf (strs frs)) (hRt : Rd w vt (bools th)) :
    Fn Tryd.prog 19 #[vf, vt, .int .i64 k, .int .i64 len] w fun v w' => v = .tuple #[.string noStr, .int .i64 170] ∧ Ext w w' :=
  (fragment_fn vf vt frs th k len hl hlt w hr hRf hRt).mono fun _ _ ⟨h1, h2⟩ => ⟨(h2.resolve_left fun h3 => h h3.1).2, h1⟩
theorem frag_yes {vf vt : Value} {frs : List ByteArray} {th : List Bool} {k len : Int} (h : FragOK frs th k len) (hl : frs.length ≤ 100) (hlt : th.length ≤ 100) (w : World) (hr : Red w) (hRf : Rd w vf (strs frs)) (hRt : Rd w vt (bools th)) :
    Fn Tryd.prog 19 #[vf, vt, .int .i64 k, .int .i64 len] w fun v w' => v = .tuple #[.string (cOut frs th k.toNat len.toNat), .int .i64 0] ∧ Ext w w' :=
  (fragment_fn vf vt frs th k len hl hlt w hr hRf hRt).mono fun _ _ ⟨h1, h2⟩ => ⟨(h2.resolve_right fun h3 => h3.1 h).2, h1⟩
theorem sane_x (w : World) (hr : Red w) : Fn Tryd.prog 11 #[] w fun v w' => v = .bool true ∧ Ext w w' := sane_fn w hr
/-- What 'made' returns, as a base. -/
structure Made (s : ByteArray) (K N T : Int) (least : Nat) (w : World) (v : Value) (w' : World) (S : ByteArray) (k n : Nat) (th : List Bool) (b off c : Nat) : Prop where
  hv : v = .tuple #[.string S, iv k, iv n, .slice (some ⟨b, off, none⟩) n c]
  hx : Ext w w'
  hS : S = s.extract 0 (min s.size 200)
  hS2 : S.size ≤ 200
  hk1 : 1 ≤ k
  hkn : k ≤ n
  hn9 : n ≤ 9
  hth : th.length = n
  hrd : Rd w' (.slice (some ⟨b, off, none⟩) n c) (bools th)
  hcap : n ≤ c
  hcnt : min n (k + least) ≤ cnt n (tf th)
  hnE : n = 1 + (pickI N 9).toNat
  hkE : k = 1 + (pickI K n).toNat
theorem made_z (s : ByteArray) (K N T : Int) (hK : -9223372036854775808 ≤ K ∧ K ≤ 9223372036854775807) (hN : -9223372036854775808 ≤ N ∧ N ≤ 9223372036854775807) (hT : -9223372036854775808 ≤ T ∧ T ≤ 9223372036854775807) (least : Nat) (hle : least ≤ 9) (w : World) :
    Fn Tryd.prog 12 #[.agg #[.string s, .int .i64 K, .int .i64 N, .int .i64 T], .int .i64 (least : Int)] w fun v w' => ∃ S k n th b off c, Made s K N T least w v w' S k n th b off c := by
  refine (made_fn s K N T hK hN hT least hle w).mono ?_
  rintro v w' ⟨c, k, n, th, rfl, x, h1, h2, h3, h4, h5, h6, h7, h8⟩
  have hlb : (bools th).length = n := by simp [bools, h4]
  obtain ⟨b, off, c', rfl, hc, -, -⟩ := h5.at (by intro e; rw [e] at hlb; simp at hlb; omega)
  rw [hlb] at h5 hc ⊢
  refine ⟨_, k, n, th, b, off, c', ⟨rfl, x, rfl, ?_, h1, h2, h3, h4, h5, hc, h6, h7, ?_⟩⟩
  · rw [ByteArray.size_extract]; omega
  · rw [h8]
    have : ((1 : Int) + (((pickI N 9).toNat : Nat) : Int)) = (n : Int) := by omega
    rw [this]
end Go.Sx


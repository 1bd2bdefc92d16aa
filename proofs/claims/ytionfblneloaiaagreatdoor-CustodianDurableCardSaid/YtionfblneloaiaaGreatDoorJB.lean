/- Chapter 26: few, same, content: the walks. -/
import Derived.Test.YtionfblneloaiaaGreatDoorJL
import Derived.Test.YtionfblneloaiaaGreatDoorHl
namespace Go.Sx
open Go Go.Proofs Go.RowKit
theorem hwJB {G G2 : Prop} (x : G2) (hwq : Hold G2 → G := by
    intro hQq
    repeat' (first | refine HL.pa ?_ (POp.pnil1 rfl rfl) | refine HL.pa ?_ (POp.pnil0 rfl rfl) | refine HL.pa ?_ (POp.nilCheck rfl) | apply HL.fold | apply HA.fold | apply HL.nil | apply HX.n_then | apply HC.seq | apply HC.region | refine HL.pa ?_ | refine HL.ga rfl ?_ | refine HL.na rfl ?_ | refine HL.nu rfl rfl ?_ | apply HC.block | apply HC.skip | apply HC.exit | apply HC.ret | apply HX.e_block | refine HX.e_other rfl ?_ | apply HX.e_then | apply HX.e_again | apply HX.n_block | apply HX.r_then | apply HX.r_block | apply HX.r_again | refine HC.cond_yes rfl ?_ | refine HC.cond_no rfl ?_ | refine HL.one (H1.ldb rfl memA rfl rfl ?_) | refine HC.cond rfl (fun hc => ?_) (fun hc => ?_) | refine HC.cond_b rfl (fun hc => ?_) (fun hc => ?_))
    exact hQq.get) : G := hwq ⟨x⟩
theorem few_snoc {l : List ByteArray} {i : Nat} (h : i < l.length) : (l.take (i + 1)).map (cutS 100) = (l.take i).map (cutS 100) ++ [cutS 100 (fr l i)] := by
  rw [take_fr h, List.map_append]; rfl
theorem few_len {l : List ByteArray} {i : Nat} (h : i ≤ l.length) : ((l.take i).map (cutS 100)).length = i := by rw [List.length_map, List.length_take]; omega
attribute [local irreducible] WC WL WX POp Then Again Fn NX W1 WA WO QL RP RA Yld LoopAt HC HL HX HN H1 HA HO HQ HB HP A.blk A.grow A.rd A.obj A.mp AgainH CutH
end Go.Sx
/- Plain, chapter 26: a journal on a disk that has power. -/
namespace Go.Sx
open Go
theorem splice_mid (A : List UInt8) (m : Nat) (o : List UInt8) (h : o.length ≤ m) (ho : o ≠ []) :
    splice (splice (A ++ List.replicate m 0) (A.length + 1) (o.drop 1)) A.length (o.take 1) = A ++ o ++ List.replicate (m - o.length) 0 := by
  obtain ⟨b, o', rfl⟩ := List.exists_cons_of_ne_nil ho
  rw [List.length_cons] at h
  obtain ⟨m', rfl⟩ : ∃ m', m = m' + 1 := ⟨m - 1, by omega⟩
  have e1 : splice (A ++ List.replicate (m' + 1) 0) (A.length + 1) ((b :: o').drop 1) = A ++ (0 :: (o' ++ List.replicate (m' - o'.length) 0)) := by
    unfold splice
    rw [List.drop_one, List.tail_cons, List.replicate_succ, List.take_append, List.take_of_length_le (by omega), show A.length + 1 - A.length = 1 from by omega,
      List.drop_append, List.drop_of_length_le (by omega), show A.length + 1 + o'.length - A.length = 1 + o'.length from by omega]
    simp [Nat.add_comm 1]
  rw [e1]
  unfold splice
  rw [List.take_left, List.drop_append, List.drop_of_length_le (by omega)]
  simp
/-- A journal whose disk has power, and all of which is durable. -/
structure Clean (j : Jn) (n : Nat) (l : List ByteArray) : Prop where
  t : j.t = adds t00 l
  br : j.br = false
  off : j.k.off = false
  left : j.k.left = 0
  pend : j.k.pend = []
  dur : j.k.dur = j.k.vis
  vis : j.k.vis = outsL zero32 l ++ List.replicate (n - j.t.size) 0
  fit : j.t.size ≤ n
  lo : 1 ≤ n
  hi : n ≤ 4194304
theorem adds0_size (l : List ByteArray) : (adds t00 l).size = (outsL zero32 l).length := by
  rw [adds_size]
  show 0 + _ = _
  rw [Nat.zero_add]; rfl
theorem adds0_recs (l : List ByteArray) : (adds t00 l).recs = l := by rw [adds_recs]; rfl
theorem Clean.len {j : Jn} {n : Nat} {l : List ByteArray} (h : Clean j n l) : j.k.vis.length = n := by
  have h1 := h.fit
  rw [h.vis, List.length_append, List.length_replicate]
  rw [h.t, adds0_size] at *
  omega
theorem Clean.ok {j : Jn} {n : Nat} {l : List ByteArray} (h : Clean j n l) : j.k.Ok := by
  have h1 := h.len
  have h2 := h.lo
  have h3 := h.hi
  exact ⟨by rw [h.dur], by rw [h.dur]; omega, by rw [h.dur]; omega, by rw [h.left]; omega, by rw [h.pend]; show 0 ≤ _; omega⟩
theorem clean0 {n : Nat} (h : 1 ≤ n) (h1 : n ≤ 4194304) : Clean ⟨t00, newK n, false⟩ n [] := ⟨rfl, rfl, rfl, rfl, rfl, rfl, rfl, Nat.zero_le _, h, h1⟩
theorem Clean.recs {j : Jn} {n : Nat} {l : List ByteArray} (h : Clean j n l) : j.t.recs = l := by rw [h.t, adds0_recs]
/-- What is on the disk is read back. -/
theorem load_vis {k : Dk} {n : Nat} {l : List ByteArray} (hv : k.vis = outsL zero32 l ++ List.replicate n 0) (hl : ∀ r ∈ l, r.size ≤ 65536) : loadF k.vis t00 = some (adds t00 l) :=
  loadF_all (m := n) hl hv
theorem zero_vis {k : Dk} {n : Nat} {l : List ByteArray} (hv : k.vis = outsL zero32 l ++ List.replicate n 0) : isZero (k.vis.drop (adds t00 l).size) = true := by
  rw [adds0_size, hv, List.drop_left]; exact rep_isZero _
theorem open_vis {k : Dk} {n : Nat} {l : List ByteArray} (ho : k.off = false) (hv : k.vis = outsL zero32 l ++ List.replicate n 0) (hl : ∀ r ∈ l, r.size ≤ 65536) : openF k = (0, k, some (adds t00 l)) :=
  openF_zero ho (load_vis hv hl) (zero_vis hv)
theorem Clean.opens {j : Jn} {n : Nat} {l : List ByteArray} (h : Clean j n l) (hl : ∀ r ∈ l, r.size ≤ 65536) : openF j.k = (0, j.k, some (adds t00 l)) := open_vis h.off h.vis hl
theorem used_zero {k : Dk} (h : k.left = 0) : k.used = k := by unfold Dk.used; rw [if_pos h]
/-- Writes and syncs on a disk whose power stays. -/
theorem run_grp {k : Dk} {t : Tp} {o : List UInt8} (ho : k.off = false) (hl : k.left = 0) (hv : k.vis.length = k.dur.length) (hne : o ≠ []) (hf : t.size + o.length ≤ k.dur.length) :
    runOps (grp t o) k = (0, ⟨false, 0, splice (splice k.vis (t.size + 1) (o.drop 1)) t.size (o.take 1), splice (splice k.vis (t.size + 1) (o.drop 1)) t.size (o.take 1), []⟩) := by
  have hpos : 0 < o.length := List.length_pos_iff.2 hne
  have hz1 : (mkBA (o.drop 1)).size = o.length - 1 := by show (o.drop 1).toArray.size = _; rw [List.size_toArray, List.length_drop]
  have hz2 : (mkBA (o.take 1)).size = 1 := by show (o.take 1).toArray.size = _; rw [List.size_toArray, List.length_take]; omega
  have hsl : (splice k.vis (t.size + 1) (o.drop 1)).length = k.vis.length := splice_len (by rw [List.length_drop]; omega)
  have w1 : k.write (t.size + 1) (mkBA (o.drop 1)) = (0, ⟨false, 0, k.dur, splice k.vis (t.size + 1) (o.drop 1), k.pend ++ [(t.size + 1, mkBA (o.drop 1))]⟩) := by
    rw [Dk.write_on ho (by omega)]
    show (0, Dk.used _) = _
    rw [used_zero (k := ⟨k.off, k.left, k.dur, splice k.vis (t.size + 1) (mkBA (o.drop 1)).data.toList, k.pend ++ [(t.size + 1, mkBA (o.drop 1))]⟩) hl, ho, hl]
    rfl
  have s1 : runOps (grp t o) k = runOps [.wr t.size (mkBA (o.take 1)), .sy] ⟨false, 0, splice k.vis (t.size + 1) (o.drop 1), splice k.vis (t.size + 1) (o.drop 1), []⟩ := by
    unfold grp
    rw [runOps_ok (show ((DOp.wr (t.size + 1) (mkBA (o.drop 1))).run k).1 = 0 by show (k.write _ _).1 = 0; rw [w1])]
    show runOps _ (k.write _ _).2 = _
    rw [w1]
    rw [runOps_ok (show (DOp.sy.run _).1 = 0 from by show (Dk.sync _).1 = 0; rw [Dk.sync_on rfl])]
    show runOps _ (Dk.sync _).2 = _
    rw [Dk.sync_on rfl]
  rw [s1]
  have w2 : (⟨false, 0, splice k.vis (t.size + 1) (o.drop 1), splice k.vis (t.size + 1) (o.drop 1), []⟩ : Dk).write t.size (mkBA (o.take 1)) =
      (0, ⟨false, 0, splice k.vis (t.size + 1) (o.drop 1), splice (splice k.vis (t.size + 1) (o.drop 1)) t.size (o.take 1), [(t.size, mkBA (o.take 1))]⟩) := by
    rw [Dk.write_on rfl (by show t.size + (mkBA (o.take 1)).size ≤ (splice k.vis (t.size + 1) (o.drop 1)).length; rw [hsl]; omega)]
    show (0, Dk.used _) = _
    rw [used_zero rfl]; rfl
  rw [runOps_ok (show ((DOp.wr t.size (mkBA (o.take 1))).run _).1 = 0 by show (Dk.write _ _ _).1 = 0; rw [w2])]
  show runOps _ (Dk.write _ _ _).2 = _
  rw [w2]
  rw [runOps_ok (show (DOp.sy.run _).1 = 0 from by show (Dk.sync _).1 = 0; rw [Dk.sync_on rfl])]
  show (0, (Dk.sync _).2) = _
  rw [Dk.sync_on rfl]
theorem outsL_ne {h : ByteArray} {l : List ByteArray} (hl : l ≠ []) : outsL h l ≠ [] := by
  obtain ⟨r, l', rfl⟩ := List.exists_cons_of_ne_nil hl
  intro e
  have h2 : (outL h r ++ outsL (chainS h r) l').length = 0 := congrArg List.length e
  have h1 := outL_pos h r
  rw [List.length_append] at h2
  omega
theorem Clean.app {j : Jn} {n : Nat} {l g : List ByteArray} (h : Clean j n l) (hg : g.any isLong = false) (hf : j.t.size + (outsL j.t.head g).length ≤ n) : ∃ j', j.append g = (0, j') ∧ Clean j' n (l ++ g) := by
  have hlen := h.len
  have hdl : j.k.dur.length = n := by rw [h.dur, hlen]
  have hnb : ¬ (j.br = true ∨ g.any isLong = true) := by rw [hg, h.br]; rintro (h | h) <;> cases h
  have h1 : ¬ (j.k.dur.length : Int) - (j.t.size : Int) < ((outsL j.t.head g).length : Int) := by omega
  by_cases hgn : g = []
  · subst hgn
    exact ⟨j, append_nil hnb h1 rfl, by rw [List.append_nil]; exact h⟩
  · have hne := outsL_ne (h := j.t.head) hgn
    have hrun := run_grp (t := j.t) h.off h.left (by rw [h.dur]) hne (by omega)
    refine ⟨_, append_ok hnb h1 hne (by rw [hrun]), ?_⟩
    rw [hrun]
    have hA : (outsL zero32 l).length = j.t.size := by rw [h.t, adds0_size]
    have hvis : splice (splice j.k.vis (j.t.size + 1) ((outsL j.t.head g).drop 1)) j.t.size ((outsL j.t.head g).take 1) = outsL zero32 (l ++ g) ++ List.replicate (n - (adds j.t g).size) 0 := by
      have := splice_mid (outsL zero32 l) (n - j.t.size) (outsL j.t.head g) (by omega) hne
      rw [hA, ← h.vis] at this
      rw [this, adds_size, Nat.sub_sub]
      congr 1
      have h3 := outsL_app l g t00
      rw [show (adds t00 l).head = j.t.head from by rw [h.t]] at h3
      exact h3.symm
    refine ⟨by show adds j.t g = _; rw [h.t, adds_app], h.br, rfl, rfl, rfl, rfl, hvis, by show (adds j.t g).size ≤ n; rw [adds_size]; exact hf, h.lo, h.hi⟩
theorem Clean.full {j : Jn} {n : Nat} {l g : List ByteArray} (h : Clean j n l) (hg : g.any isLong = false) (hf : ¬ j.t.size + (outsL j.t.head g).length ≤ n) : j.append g = (261, j) := by
  have hlen := h.len
  have hdl : j.k.dur.length = n := by rw [h.dur, hlen]
  have hnb : ¬ (j.br = true ∨ g.any isLong = true) := by rw [hg, h.br]; rintro (h | h) <;> cases h
  exact append_full hnb (by have := h.fit; omega)
theorem putN_1 {n : Nat} (h : n < 64) : (putN n).length = 1 := by unfold putN; rw [vint_lt (by omega)]; rfl
theorem putN_2 {n : Nat} (h : 64 ≤ n) (h1 : n < 8192) : (putN n).length = 2 := by unfold putN; rw [vint_ge (by omega), vint_lt (by omega)]; rfl
theorem strN_len (n : Nat) : (strN n).size = (putN n).length := by show (putN n).toArray.size = _; rw [List.size_toArray]
/-- How much records take. -/
def needL (l : List ByteArray) : Nat := (l.map fun r => 33 + (strN r.size).size + r.size).sum
theorem outsL_need : ∀ (l : List ByteArray) (h : ByteArray), (outsL h l).length = needL l
  | [], h => rfl
  | r :: l, h => by
    show (outL h r ++ outsL (chainS h r) l).length = (33 + (strN r.size).size + r.size) + needL l
    rw [List.length_append, outL_len, outsL_need l]
theorem not_long {l : List ByteArray} (h : ∀ r ∈ l, r.size ≤ 65536) : l.any isLong = false := by
  refine List.any_eq_false.2 fun r hr => ?_
  have := h r hr
  unfold isLong
  simpa using this
end Go.Sx
/- Chapter 26: the calls as the laws make them. -/
namespace Go.Sx
open Go Go.Proofs Go.RowKit
/-- What the walks ask of a journal. -/
structure JOk (j : Jn) : Prop where
  k : j.k.Ok
  pend : j.k.pend.length ≤ 9000
  fit : j.t.size ≤ j.k.dur.length
  recs : j.t.recs.length ≤ 90000
  head : j.t.head.size ≤ 32
theorem Clean.jok {j : Jn} {n : Nat} {l : List ByteArray} (h : Clean j n l) (hl : l.length ≤ 90000) : JOk j :=
  ⟨h.ok, by rw [h.pend]; exact Nat.zero_le _, by rw [h.dur, h.len]; exact h.fit, by rw [h.recs]; exact hl, by rw [h.t]; exact adds_head _ _ (Nat.le_refl _)⟩
attribute [local irreducible] WC WL WX POp Then Again Fn NX W1 WA WO QL RP RA Yld LoopAt HC HL HX HN H1 HA HO HQ HB HP A.blk A.grow A.rd A.obj A.mp AgainH CutH
theorem room2_fn {w : World} {bj bd b1 b2 c pc : Nat} {a pa : Option Addr} {t : Tp} {k : Dk} {br : Bool} (hb : Blk w bj (tpC a c t (jnR bd br)) 179) (hd : Blk w bd (dkC b1 b2 pa pc k) 102) (hk : k.Ok) (ht : t.size ≤ k.dur.length) :
    Fn Tryz.prog 150 #[.pointer (some ⟨bj, 0, none⟩)] w fun v w' => v = zv ((k.dur.length : Int) - (t.size : Int)) ∧ Ext w w' := by
  have hhi := hk.hi
  refine enterH (l := [_]) rfl Tryz.ntmps150 rfl ?_
  refine hwJB ?_
  refine HC.anyC ([(⟨bj, 3, none⟩, .pointer (some ⟨bd, 0, none⟩)), (⟨bj, 2, none⟩, zv (t.size : Int))]) rfl ?_
  refine HB.pa 0 rfl ?_
  refine HB.pa 1 rfl ?_ (POp.nilCheck rfl)
  refine HB.pa 2 rfl ?_
  refine HB.ld 3 rfl rfl memD ?_
  refine HB.pa 5 rfl ?_
  refine HB.pa 6 rfl ?_ (POp.nilCheck rfl)
  refine HB.pa 7 rfl ?_
  refine HB.pa 8 rfl ?_
  refine HB.ld 9 rfl rfl memD ?_
  refine HB.all (by (exact Keep.base (hb.cell rfl) (Keep.base (hb.cell rfl) Keep.nil))) [4] (by kernel_rfl) rfl ⟨⟨_, rfl, ?_⟩, trivial⟩
  refine HP.one ?_
  refine H1.call0 (vs := [_]) rfl rfl (fun w' hM => dsize_fn (blk_ext hd hM.ext)) ?_
  apply HB.fold
  refine HB.pa 10 rfl ?_
  refine HB.pa 11 rfl ?_
  refine HB.done (by (exact Keep.base (hb.cell rfl) (Keep.base (hb.cell rfl) Keep.nil))) (by kernel_rfl) ?_
  refine hwJB ?_
  exact HX.ret1 rfl rfl fun w' hM => ⟨rfl, hM.ext⟩
theorem records2_fn {w : World} {bj bd c : Nat} {a : Option Addr} {t : Tp} {br : Bool} (hb : Blk w bj (tpC a c t (jnR bd br)) 179) (hR : Rd w (.slice a t.recs.length c) (strs t.recs)) (hl : t.recs.length ≤ 1000000) :
    Fn Tryz.prog 62 #[.pointer (some ⟨bj, 0, none⟩)] w fun v w' => ∃ z : Option Addr × Nat, True ∧ v = .slice z.1 t.recs.length z.2 ∧ Mm w [A.grow 9 1 z.1 z.2 t.recs.length (strs t.recs)] w' := by
  refine enterH (l := [_]) rfl Tryz.ntmps62 rfl ?_
  refine hwJB ?_
  refine HL.one (H1.ld0 rfl (hb.cell rfl) rfl ?_)
  refine hwJB ?_
  refine HL.one (H1.callz (vs := [_]) rfl rfl (fun w' hM' => cloneS_fn _ t.recs hl w' (hR.ext hM'.ext)) ?_)
  rintro ⟨a', c'⟩ -
  refine hwJB ?_
  exact HX.ret1 rfl rfl fun w' hM => ⟨(a', c'), trivial, rfl, hM⟩
theorem jopen_ok {w0 w : World} {H : List Atom} {bd b1 b2 pc : Nat} {pa : Option Addr} {k k' : Dk} {t : Tp} {ea : Addr} (h : openF k = (0, k', some t)) (hG : RoundG w0) (hE : ErrG ea w0) (hM : Mm w0 (dkH bd b1 b2 pa pc k H) w) (hk : k.Ok) (hp : k.pend.length ≤ 9000) :
    Fn Tryz.prog 59 #[.pointer (some ⟨bd, 0, none⟩)] w fun v w' => ∃ z : Nat × (Option Addr × Nat) × (Option Addr × Nat), True ∧ v = .tuple #[.pointer (some ⟨z.1, 0, none⟩), zv 0] ∧ Mm w0 (jnlH z.1 bd b1 b2 z.2.1.1 z.2.1.2 z.2.2.1 z.2.2.2 ⟨t, k', false⟩ H) w' :=
  (jopen_fn hG hE hM hk (by omega)).mono fun v w2 h1 => by
    rw [h] at h1
    obtain ⟨z, h2, h3⟩ := h1
    exact ⟨z, trivial, h2, h3⟩
theorem jopen_no {w0 w : World} {H : List Atom} {bd b1 b2 pc : Nat} {pa : Option Addr} {k k' : Dk} {e : Int} {ea : Addr} (h : openF k = (e, k', none)) (hG : RoundG w0) (hE : ErrG ea w0) (hM : Mm w0 (dkH bd b1 b2 pa pc k H) w) (hk : k.Ok) (hp : k.pend.length ≤ 9000) :
    Fn Tryz.prog 59 #[.pointer (some ⟨bd, 0, none⟩)] w fun v w' => ∃ q : Option Addr × Nat, True ∧ v = .tuple #[.pointer none, zv e] ∧ Mm w0 (dkH bd b1 b2 q.1 q.2 k' H) w' :=
  (jopen_fn hG hE hM hk (by omega)).mono fun v w2 h1 => by
    rw [h] at h1
    obtain ⟨z, h2, h3⟩ := h1
    exact ⟨z, trivial, h2, h3⟩
/-- Append of strings that stand in a block. -/
theorem appendB_fn {w0 w : World} {H : List Atom} {bj bd b1 b2 b9 c pc : Nat} {a pa : Option Addr} {j : Jn} {g : List ByteArray} {r : Int × Jn} (hr : j.append g = r) (hG : RoundG w0) (hM : Mm w0 (A.blk b9 (strs g) 9 :: jnlH bj bd b1 b2 a c pa pc j H) w) (hj : JOk j) (hg : g.length ≤ 1000) (hb : g.any isLong = false → (outsL j.t.head g).length ≤ 900000) :
    Fn Tryz.prog 89 #[.pointer (some ⟨bj, 0, none⟩), .slice (some ⟨b9, 0, none⟩) g.length g.length] w fun v w' => ∃ q : (Option Addr × Nat) × (Option Addr × Nat), True ∧ v = zv r.1 ∧ Mm w0 (jnlH bj bd b1 b2 q.1.1 q.1.2 q.2.1 q.2.2 r.2 H) w' := by
  subst hr
  have h := append_fn (H := A.blk b9 (strs g) 9 :: H) (v := .slice (some ⟨b9, 0, none⟩) g.length g.length) (l := g) hG
    (hM.sub (Hs.cons (Pick.there Pick.here) (Hs.cons (Pick.there Pick.here) (Hs.cons (Pick.there Pick.here) (Hs.cons (Pick.there Pick.here) (Hs.cons (Pick.there Pick.here) (Hs.cons (Pick.there Pick.here) (Hs.refl _))))))))
    (fun H1 w' hs hM' => blk_rd (hM'.blk (e := 9) (hs _ (.head _))) (by simp [strs])) hj.k (by have := hj.pend; omega) hj.fit (by have := hj.recs; omega) hj.head (by omega) hb
  exact h.mono fun v w2 h1 => by
    obtain ⟨q, h2, h3, h4⟩ := h1
    exact ⟨q, trivial, h3, h4.sub (Hs.cons Pick.here (Hs.cons Pick.here (Hs.cons Pick.here (Hs.cons Pick.here (Hs.cons Pick.here (Hs.cons Pick.here (Hs.refl _).skip))))))⟩
/-- Append of strings that stand in a slice of the caller's own, which stays. -/
theorem appendG_fn {w0 w : World} {H : List Atom} {bj bd b1 b2 c c9 pc : Nat} {a a9 pa : Option Addr} {j : Jn} {g : List ByteArray} {r : Int × Jn} (hr : j.append g = r) (hG : RoundG w0) (hM : Mm w0 (jnlH bj bd b1 b2 a c pa pc j H) w) (hm : A.grow 9 1 a9 c9 g.length (strs g) ∈ H) (hj : JOk j) (hg : g.length ≤ 1000) (hb : g.any isLong = false → (outsL j.t.head g).length ≤ 900000) :
    Fn Tryz.prog 89 #[.pointer (some ⟨bj, 0, none⟩), .slice a9 g.length c9] w fun v w' => ∃ q : (Option Addr × Nat) × (Option Addr × Nat), True ∧ v = zv r.1 ∧ Mm w0 (jnlH bj bd b1 b2 q.1.1 q.1.2 q.2.1 q.2.2 r.2 H) w' := by
  subst hr
  exact append_fn (v := .slice a9 g.length c9) (l := g) hG hM (fun H1 w' hs hM' => Mm.gr (e := 9) hM' (hs _ hm)) hj.k (by have := hj.pend; omega) hj.fit (by have := hj.recs; omega) hj.head (by omega) hb
/-- Append of nothing. -/
theorem append0_fn {w0 w : World} {H : List Atom} {bj bd b1 b2 c pc : Nat} {a pa : Option Addr} {j : Jn} {r : Int × Jn} (hr : j.append [] = r) (hG : RoundG w0) (hM : Mm w0 (jnlH bj bd b1 b2 a c pa pc j H) w) (hj : JOk j) :
    Fn Tryz.prog 89 #[.pointer (some ⟨bj, 0, none⟩), .slice none 0 0] w fun v w' => ∃ q : (Option Addr × Nat) × (Option Addr × Nat), True ∧ v = zv r.1 ∧ Mm w0 (jnlH bj bd b1 b2 q.1.1 q.1.2 q.2.1 q.2.2 r.2 H) w' := by
  subst hr
  exact append_fn (v := .slice none 0 0) (l := []) hG hM (fun H1 w' hs hM' => ⟨none, 0, rfl, Nat.le_refl _, .inl rfl⟩) hj.k (by have := hj.pend; omega) hj.fit (by have := hj.recs; omega) hj.head (by simp) (fun _ => Nat.zero_le _)
end Go.Sx
/- Chapter 26: the fixed examples: the walk. -/
namespace Go.Sx
open Go Go.Proofs Go.RowKit
def sg1 : List ByteArray := [ByteArray.mk #[97, 98], ByteArray.mk #[]]
def sz (n : Nat) : ByteArray := mkBA (List.replicate n 0)
theorem sz_size (n : Nat) : (sz n).size = n := by show (List.replicate n (0 : UInt8)).toArray.size = n; rw [List.size_toArray, List.length_replicate]
theorem need1 : needL sg1 = 70 := by
  unfold needL sg1
  simp only [List.map_cons, List.map_nil, List.sum_cons, List.sum_nil, strN_len]
  rw [show (ByteArray.mk #[97, 98]).size = 2 from rfl, show (ByteArray.mk #[]).size = 0 from rfl, putN_1 (by decide), putN_1 (by decide)]
  rfl
theorem need96 : needL [sz 96] = 131 := by
  unfold needL
  simp only [List.map_cons, List.map_nil, List.sum_cons, List.sum_nil, strN_len, sz_size]
  rw [putN_2 (by decide) (by decide)]
  rfl
theorem need95 : needL [sz 95] = 130 := by
  unfold needL
  simp only [List.map_cons, List.map_nil, List.sum_cons, List.sum_nil, strN_len, sz_size]
  rw [putN_2 (by decide) (by decide)]
  rfl
theorem long1 : ∀ r ∈ sg1, r.size ≤ 65536 := by
  intro r hr
  rcases List.mem_cons.1 hr with rfl | hr
  · decide
  rcases List.mem_cons.1 hr with rfl | hr
  · decide
  · cases hr
theorem long_sz {n : Nat} (h : n ≤ 65536) : ∀ r ∈ [sz n], r.size ≤ 65536 := by
  intro r hr
  rcases List.mem_cons.1 hr with rfl | hr
  · rw [sz_size]; exact h
  · cases hr
theorem Clean.size {j : Jn} {n : Nat} {l : List ByteArray} (h : Clean j n l) : j.t.size = needL l := by rw [h.t, adds0_size, outsL_need]
theorem needL_app (l m : List ByteArray) : needL (l ++ m) = needL l + needL m := by unfold needL; rw [List.map_append, List.sum_append]
theorem sane_plain : ∃ j1 j2 : Jn, Clean j1 200 sg1 ∧ Clean j2 200 (sg1 ++ [sz 95]) ∧ (⟨t00, newK 200, false⟩ : Jn).append sg1 = (0, j1) ∧ j1.append [sz 96] = (261, j1) ∧ j1.append [sz 95] = (0, j2) ∧ j1.t.size = 70 ∧ j2.t.size = 200 := by
  have h0 := clean0 (n := 200) (by decide) (by decide)
  obtain ⟨j1, e1, h1⟩ := h0.app (not_long long1) (by rw [outsL_need, need1]; decide)
  rw [List.nil_append] at h1
  have s1 : j1.t.size = 70 := by rw [h1.size, need1]
  obtain ⟨j2, e2, h2⟩ := h1.app (not_long (long_sz (n := 95) (by decide))) (by rw [outsL_need, need95, s1]; decide)
  have s2 : j2.t.size = 200 := by rw [h2.size, needL_app, need1, need95]
  exact ⟨j1, j2, h1, h2, e1, h1.full (not_long (long_sz (by decide))) (by rw [outsL_need, need96, s1]; decide), e2, s1, s2⟩
theorem put_vis {k : Dk} {off : Nat} {s : ByteArray} (ho : k.off = false) (hl : k.left = 0) (hf : off + s.size ≤ k.dur.length) : k.write off s = (0, ⟨false, 0, k.dur, splice k.vis off s.data.toList, k.pend ++ [(off, s)]⟩) := by
  rw [Dk.write_on ho hf]
  show (0, Dk.used _) = _
  rw [used_zero (k := ⟨k.off, k.left, k.dur, splice k.vis off s.data.toList, k.pend ++ [(off, s)]⟩) hl, ho, hl]
/-- A first byte that is neither 0 nor 1. -/
theorem bad_first {k : Dk} (ho : k.off = false) (h : ∃ r, k.vis = 2 :: r) : openF k = (262, k, none) := by
  obtain ⟨r, hr⟩ := h
  refine openF_bad ho (loadF_bad ⟨?_, ?_⟩ ?_)
  · rw [hr]; exact Nat.zero_lt_succ _
  · rw [hr]; show (2 : UInt8) ≠ 0; decide
  · rw [hr]; show (2 : UInt8) ≠ 1; decide
theorem fr_sg1 : fr (sg1 ++ [sz 95]) 0 = ByteArray.mk #[97, 98] := rfl
theorem rec3 : (sg1 ++ [sz 95]).length = 3 := rfl
theorem HN.openg2 {N : Nat} {ds : List Deferred} {K : Act → World → Prop} {E : Env} {w0 : World} {H : List Atom} {e : TypeId} {sz c n : Nat} {a : Option Addr} {xs : List Value} (hm : A.grow e sz a c n xs ∈ H) (hn : n ≠ 0) (h : ∀ b, a = some ⟨b, 0, none⟩ → HN N ds K E w0 H) : HN N ds K E w0 H := fun w hM => by
  rcases (hM.own hm).2 with ⟨-, h0⟩ | ⟨g, cap, cur, hv, -⟩
  · exact absurd h0 hn
  · cases hv; exact h g rfl w hM
attribute [local irreducible] WC WL WX POp Then Again Fn NX W1 WA WO QL RP RA Yld LoopAt HC HL HX HN H1 HA HO HQ HB HP A.blk A.grow A.rd A.obj A.mp AgainH CutH
attribute [local irreducible] newK
end Go.Sx
/- Chapter 26: slices of slices of strings; groups one after the other. -/
namespace Go.Sx
open Go Go.Proofs Go.RowKit
theorem POp.pneN {P : Program} {N : Nat} {ds : List Deferred} {E : Env} {t t' ty e : TypeId} {x y : Operand} {a : Addr} [h : UTy P t (.pointer e)] (hx : Env.ev E x = some (.pointer (some a))) (hy : Env.ev E y = some (.pointer none)) : POp P N ds E (.binOp .neq t x y t') ty (.bool true) :=
  POp.bin hx hy (fun w => by rw [eqGuard_at_pointer]; rfl) fun w => by
    have e1 := run_equalIn_pnil (P := P) (t := t) w 9999 (some a)
    show ((Op.equalIn (9999 + 1) t (.pointer (some a)) (.pointer none)) >>= fun r => pure (Value.bool !r)).run P w = _
    rw [Sem.run_bind, e1]; rfl
theorem few_need2 (l : List ByteArray) : needL (few26 l) ≤ 900 := by
  have h1 : ∀ (l : List ByteArray), (∀ r ∈ l, r.size ≤ 100) → needL l ≤ 150 * l.length := by
    intro l
    induction l with
    | nil => exact fun _ => Nat.zero_le _
    | cons r l ih =>
      intro h
      have h1 := ih fun x hx => h x (List.mem_cons_of_mem _ hx)
      have h2 := h r (List.mem_cons_self ..)
      have h3 := strN_size (n := r.size) (by omega)
      show (33 + (strN r.size).size + r.size) + needL l ≤ 150 * (l.length + 1)
      omega
  have h2 := h1 _ (few26_size l)
  have h3 := few26_len l
  omega
theorem few_long2 (l : List ByteArray) : (few26 l).any isLong = false := not_long fun r hr => Nat.le_trans (few26_size l r hr) (by decide)
/-- A slice of slices of strings. -/
def RdGS (w : World) (v : Value) (G : List (List ByteArray)) (hV : Nat → Value) : Prop := Rd w v ((List.range G.length).map hV) ∧ ∀ i (hi : i < G.length), Rd w (hV i) (strs G[i])
theorem RdGS.ext {w w' : World} {v : Value} {G : List (List ByteArray)} {hV : Nat → Value} (h : RdGS w v G hV) (k : Ext w w') : RdGS w' v G hV := ⟨h.1.ext k, fun i hi => (h.2 i hi).ext k⟩
theorem Clean.step {j : Jn} {n : Nat} {l g : List ByteArray} (h : Clean j n l) (hg : g.any isLong = false) : ∃ (e : Int) (j' : Jn) (l' : List ByteArray), j.append g = (e, j') ∧ Clean j' n l' ∧ (l' = l ++ g ∨ l' = l) := by
  by_cases hf : j.t.size + (outsL j.t.head g).length ≤ n
  · obtain ⟨j', h1, h2⟩ := h.app hg hf
    exact ⟨0, j', l ++ g, h1, h2, .inl rfl⟩
  · exact ⟨261, j, l, h.full hg hf, h, .inr rfl⟩
theorem cut_ok2 {k : Dk} (hk : k.Ok) (ho : k.off = false) (n : Nat) (hn : n ≤ 1000000) : (k.cut n).2.Ok ∧ (k.cut n).2.dur = k.dur ∧ (k.cut n).2.pend = k.pend ∧ (k.cut n).2.vis = k.vis ∧ (k.cut n).1 = 0 ∧ (k.cut n).2.off = decide (n = 0) := by
  rw [Dk.cut_on ho]
  exact ⟨⟨hk.len, hk.lo, hk.hi, hn, hk.pend⟩, rfl, rfl, rfl, rfl, rfl⟩
theorem strs_len2 (l : List ByteArray) : (strs l).length = l.length := by simp [strs]
theorem strs_one2 (l : List ByteArray) : ∀ u ∈ strs l, u.oneCell' = true := by
  intro u hu
  obtain ⟨s, -, rfl⟩ := List.mem_map.1 hu
  rfl
theorem strs_app2 (l m : List ByteArray) : strs l ++ strs m = strs (l ++ m) := by simp [strs]
/-- append of a slice of the call's own that is read, onto a literal. -/
theorem H1.appR3 {P : Program} {r : Option Nat} {N : Nat} {ds : List Deferred} {Q : Post} {E : Env} {w0 : World} {H : List Atom} {next : Act → World → Prop} {g : Option (Nat × Bool)} {d : Nat} {t ty : TypeId} {pos : String} {af : Array Edge} {x y : Operand}
    {e : TypeId} {z : Value} {bb n m c c2 : Nat} {a ao : Option Addr} {xs vs : List Value} {H' : Option Addr → Nat → List Atom} [h : UTy P t (.slice e)] [hi : ITy P e z 1 bb] (hzs : z.cells.size = 1) (hvn : vs.length = m)
    (hx : Env.ev E x = some (.slice a n c)) (hy : Env.ev E y = some (.slice ao m c2)) (hr : ∀ a' c', Rpl (A.grow e 1 a c n xs) (A.grow e 1 a' c' (n + m) (xs ++ vs)) H (H' a' c'))
    (hR : ∀ w, Mm w0 H w → Rd w (.slice ao m c2) vs) (h1 : ∀ u ∈ vs, u.oneCell' = true) (hnm : n + m ≤ 1000000) (hb : bb ≤ 1000) (hd : Nat.blt d N = true)
    (ha0 : n = 0 ∨ ∃ b, a = some ⟨b, 0, none⟩) (hn : ∀ a' c', (n + m = 0 ∨ ∃ b, a' = some ⟨b, 0, none⟩) → HN N ds next ((d, .slice a' (n + m) c') :: E) w0 (H' a' c')) :
    H1 P r N ds next ⟨some d, .call ⟨.builtin .append, #[x, y], #[t, t]⟩, ty, pos, af, g⟩ Q E w0 H := by
  subst hvn
  exact H1.appR hzs hx hy hr hR h1 hnm hb hd ha0 hn
/-- A slice of strings of the call's own. -/
def gS (p : Option Addr × Nat × List ByteArray) : Atom := A.grow 9 1 p.1 p.2.1 p.2.2.length (strs p.2.2)
theorem HL.growCap {P : Program} {r : Option Nat} {N : Nat} {ds : List Deferred} {ol l : List Oper} {Q : Post} {E : Env} {w0 : World} {H : List Atom} {e : TypeId} {sz c n : Nat} {a : Option Addr} {xs : List Value} (hm : A.grow e sz a c n xs ∈ H) (h : n ≤ c → HL P r N ds ol l Q E w0 H) : HL P r N ds ol l Q E w0 H := fun w hM => by
  rcases (hM.own hm).2 with ⟨hv, -⟩ | ⟨g, cap, cur, hv, -, -, hnc, -⟩
  · cases hv; exact h (Nat.le_refl _) w hM
  · cases hv; exact h hnc w hM
structure OpV where
  kind : Int
  l : List ByteArray
  n : Int
  keep : List Int
  vl : Value
  vk : Value
instance : Inhabited OpV := ⟨⟨0, [], 0, [], undef, undef⟩⟩
def opC (o : OpV) : List Value := [zv o.kind, o.vl, zv o.n, o.vk]
def opAt (l : List OpV) (i : Nat) : OpV := l.getD i default
/-- A slice of calls. -/
structure RdOps (w : World) (a : Option Addr) (c : Nat) (l : List OpV) : Prop where
  cap : l.length ≤ c
  cells : l = [] ∨ ∃ b off, a = some ⟨b, off, none⟩ ∧ b < w.heap.size ∧ ∀ i, i < l.length → ∀ (j : Nat) (u : Value), (opC (opAt l i))[j]? = some u → w.cell? ⟨b, off + i * 4 + j, none⟩ = some u
  kind : ∀ i, i < l.length → -9223372036854775808 ≤ (opAt l i).kind ∧ (opAt l i).kind ≤ 9223372036854775807
  n : ∀ i, i < l.length → -9223372036854775808 ≤ (opAt l i).n ∧ (opAt l i).n ≤ 9223372036854775807
  strs : ∀ i, i < l.length → Rd w (opAt l i).vl (strs (opAt l i).l) ∧ (∀ s ∈ (opAt l i).l, s.size ≤ 9223372036854775807) ∧ (opAt l i).l.length ≤ 9223372036854775807
  keep : ∀ i, i < l.length → Rd w (opAt l i).vk (ints (opAt l i).keep) ∧ (opAt l i).keep.length ≤ 9223372036854775807
/-- What holds of what is kept, and stays with every record, holds of all that is read. -/
theorem loadF_inv {P : Tp → Prop} (step : ∀ t r, P t → r.size ≤ 65536 → P (t.add r)) : ∀ (n : Nat) {s : List UInt8} {t t' : Tp}, s.length - t.size ≤ n → P t → loadF s t = some t' → P t'
  | n, s, t, t', hn, hP, h => by
    by_cases h1 : t.size < s.length ∧ s.getD t.size 0 ≠ 0
    · by_cases h2 : s.getD t.size 0 = 1
      · cases hd : decS s (t.size + 1) with
        | none => rw [loadF_none h1 hd] at h; cases h
        | some x =>
          obtain ⟨r, q⟩ := x
          by_cases h3 : q + 32 ≤ s.length ∧ outL t.head (mkBA r) = (s.drop t.size).take (q + 32 - t.size)
          · rw [loadF_step h1 h2 hd h3] at h
            have hol := outL_pos t.head (mkBA r)
            have hrs : (mkBA r).size = r.length := by show r.toArray.size = _; rw [List.size_toArray]
            have hP2 := step t (mkBA r) hP (by rw [hrs]; exact (decS_le hd).2.2)
            match n, hn with
            | 0, hn => omega
            | n + 1, hn => exact loadF_inv step n (by show s.length - (t.size + (outL t.head (mkBA r)).length) ≤ n; omega) hP2 h
          · rw [loadF_no h1 hd h3] at h; cases h
      · rw [loadF_bad h1 h2] at h; cases h
    · rw [loadF_end h1] at h
      injection h with h; subst h; exact hP
theorem adds_inv {P : Tp → Prop} (step : ∀ t r, P t → r.size ≤ 65536 → P (t.add r)) : ∀ (l : List ByteArray) {t : Tp}, (∀ r ∈ l, r.size ≤ 65536) → P t → P (adds t l)
  | [], _, _, h => h
  | r :: l, _, hs, h => adds_inv step l (fun x hx => hs x (List.mem_cons_of_mem _ hx)) (step _ r h (hs r (List.mem_cons_self ..)))
/-- What is kept is what its records say. -/
structure TpOk (t : Tp) : Prop where
  adds : t = Go.Sx.adds t00 t.recs
  len : 33 * t.recs.length ≤ t.size
  sz : ∀ r ∈ t.recs, r.size ≤ 65536
theorem tpOk0 : TpOk t00 := ⟨rfl, Nat.le_refl _, fun _ h => by cases h⟩
theorem TpOk.step (t : Tp) (r : ByteArray) (h : TpOk t) (hr : r.size ≤ 65536) : TpOk (t.add r) := by
  have hrs : (t.add r).recs = t.recs ++ [r] := rfl
  refine ⟨?_, ?_, ?_⟩
  · rw [hrs, adds_snoc, ← h.adds]
  · have h1 := h.len
    have h2 := outL_len t.head r
    rw [hrs, List.length_append]
    show 33 * (t.recs.length + 1) ≤ t.size + (outL t.head r).length
    omega
  · intro x hx
    rw [hrs] at hx
    rcases List.mem_append.1 hx with hx | hx
    · exact h.sz x hx
    · rcases List.mem_cons.1 hx with rfl | hx
      · exact hr
      · cases hx
theorem TpOk.head {t : Tp} (h : TpOk t) : t.head.size ≤ 32 := by rw [h.adds]; exact adds_head _ _ (Nat.le_refl _)
end Go.Sx


/- Chapter 18: the law PlaceSurvives. -/
import Derived.Test.YtnpnoobknolahaaTE
namespace Go.Sx
open Go Go.Proofs Go.RowKit
theorem nodup_len : ∀ {l L : List Nat}, l.Nodup → (∀ x ∈ l, x ∈ L) → l.length ≤ L.length
  | [], _, _, _ => Nat.zero_le _
  | x :: l, L, h, hs => by
    rw [List.nodup_cons] at h
    have h1 := nodup_len (L := L.erase x) h.2 fun y hy => (List.mem_erase_of_ne fun e => h.1 (by rw [← e]; exact hy)).2 (hs y (List.Mem.tail _ hy))
    have hx := hs x (List.Mem.head _)
    rw [List.length_erase_of_mem hx] at h1
    have := List.length_pos_of_mem hx
    rw [List.length_cons]; omega
theorem filter_split (p : Nat → Bool) : ∀ l : List Nat, (l.filter p).length + (l.filter fun i => !p i).length = l.length
  | [] => rfl
  | x :: l => by
    have := filter_split p l
    cases hp : p x <;> simp [hp] <;> omega
theorem asc_nodup {l : List Nat} (h : l.Pairwise (· < ·)) : l.Nodup := h.imp fun h => Nat.ne_of_lt h
theorem mem_natI {l : List Nat} {i : Nat} : (i : Int) ∈ natI l ↔ i ∈ l := by
  unfold natI
  rw [List.mem_map]
  exact ⟨fun ⟨j, hj, e⟩ => Int.ofNat.inj e ▸ hj, fun h => ⟨i, h, rfl⟩⟩
/-- The first m of some numbers. -/
def firstL (x : Int) (n m : Nat) : List Nat := (somL x n).take (min (somL x n).length m)
theorem firstL_len (x : Int) (n m : Nat) : (firstL x n m).length ≤ m := by unfold firstL; rw [List.length_take]; omega
theorem natI_take (l : List Nat) (k : Nat) : natI (l.take k) = (natI l).take k := by simp [natI, List.map_take]
def strG (S : List St) (G : Nat → List Nat) : List Nat := struckL S (fun q => natI (G q)) S.length
theorem struckB_free {S : List St} {G : Nat → List Int} {i : Nat} : struckB S G i = !freeB (gS S) G i := by
  rw [Bool.eq_iff_iff, Bool.not_eq_true', ← Bool.not_eq_true, freeB_iff]
  unfold struckB
  rw [List.any_eq_true]
  constructor
  · rintro ⟨q, hq, h⟩ hn
    exact hn q (List.mem_range.1 hq) (by simpa using h)
  · intro h
    refine Classical.byContradiction fun hn => h fun q hq hm => hn ⟨q, List.mem_range.2 hq, by simpa using hm⟩
/-- Is the fragment of custodian i left? -/
def leftB (S : List St) (G : Nat → List Nat) (L : List Nat) (i : Nat) : Bool := decide (i ∉ strG S G) && decide (i ∉ L)
theorem survive {S : List St} {d : Di} {l : List Nat} {k : Int} {G : Nat → List Nat} {L : List Nat} (ha : l.Pairwise (· < ·)) (hl : ∀ i ∈ l, i < S.length) (hv : pvalid S d = true) (hs : (chk S d (natI l) k).2 = true)
    (hG : ∀ q, q < 4 → (G q).length ≤ d.left q) (hL : L.length ≤ d.m) : k ≤ ((l.filter (leftB S G L)).length : Int) := by
  rw [chk_c hv ha hl] at hs
  unfold chkC at hs
  rw [Bool.and_eq_true, decide_eq_true_eq, List.all_eq_true] at hs
  obtain ⟨⟨hk1, hk2⟩, hall⟩ := hs
  refine Classical.byContradiction fun hn => ?_
  have hm : (l.filter fun i => decide (i ∈ L)).length ≤ d.m := Nat.le_trans (nodup_len ((asc_nodup ha).filter _) fun x hx => of_decide_eq_true (List.mem_filter.1 hx).2) hL
  have hcount : (l.filter (leftB S G L)).length + (l.filter fun i => !leftB S G L i).length = l.length := filter_split _ l
  have hsame : (l.filter fun i => !leftB S G L i) = l.filter fun i => !freeB (gS S) (fun q => natI (G q)) i || decide (i ∈ L) := List.filter_congr fun i hi => by
    unfold leftB
    rw [← struckB_free]
    have e1 : decide (i ∉ strG S G) = !struckB S (fun q => natI (G q)) i := by
      rw [Bool.eq_iff_iff, decide_eq_true_eq, Bool.not_eq_true']
      unfold strG struckL
      rw [List.mem_filter, List.mem_range]
      constructor
      · intro h
        cases hb : struckB S (fun q => natI (G q)) i with
        | false => rfl
        | true => exact absurd ⟨hl i hi, hb⟩ h
      · rintro h ⟨-, h2⟩
        rw [h] at h2; cases h2
    rw [e1, decide_not]
    cases struckB S (fun q => natI (G q)) i <;> cases decide (i ∈ L) <;> rfl
  rw [hsame] at hcount
  obtain ⟨T', h1, h2, h3⟩ := hit_some (g := gS S) (T := l) (left := d.left) (m := d.m) (G := fun q => natI (G q)) (lie := fun i => decide (i ∈ L)) (fun q hq => by rw [natI_len]; exact hG q hq) hm (n := l.length - k.toNat + 1) (by omega)
  have h4 := hall T' (mem_combs.2 ⟨h1, h2⟩)
  rw [hitB_iff.2 h3] at h4
  cases h4
theorem filter_take_step {l : List Nat} {i : Nat} (p : Nat → Bool) (h : i < l.length) : ((l.take (i + 1)).filter p).length = ((l.take i).filter p).length + (if p l[i] = true then 1 else 0) := by
  rw [List.take_succ_eq_append_getElem h, List.filter_append, List.length_append]
  congr 1
  cases hp : p l[i] <;> simp [hp]
attribute [local irreducible] WC WL WX POp Then Again Fn NX W1 WA WO QL RP RA Yld LoopAt HC HL HX HN H1 HA HO HQ HB HP A.blk A.grow A.rd A.obj A.mp AgainH CutH
attribute [local irreducible] A.mq A.mit A.dfrs A.loop mapsA A.land A.pure chk best
theorem Mm.firstRd {w0 w : World} {H : List Atom} {a : Option Addr} {c n m : Nat} {x : Int} (hM : Mm w0 H w) (hm : A.grow 3 1 a c (somL x n).length (ints (natI (somL x n))) ∈ H) : Rd w (.slice a (min (somL x n).length m) c) (ints (natI (firstL x n m))) := by
  have h1 := hM.gr hm
  unfold firstL
  rw [natI_take]
  have h2 := Rd.ipre (l := natI (somL x n)) (a := a) (c := c) (k := min (somL x n).length m) (by rw [natI_len]; exact h1) (by rw [natI_len]; omega)
  exact h2
theorem Mm.firstFn {w0 w : World} {H : List Atom} {a : Option Addr} {c n : Nat} {x m : Int} (h0 : 0 ≤ m) (hn : n ≤ 9) (hM : Mm w0 H w) (hm : A.grow 3 1 a c (somL x n).length (ints (natI (somL x n))) ∈ H) :
    Fn Try.prog 20 #[.slice a (somL x n).length c, zv m] w fun u w' => u = .slice a (min (somL x n).length m.toNat) c ∧ w = w' := by
  have h1 := hM.gr hm
  have h2 := first_fn a c (natI (somL x n)) m h0 (by rw [natI_len]; have := somL_len x n; omega) w (by rw [natI_len]; exact h1)
  rw [natI_len] at h2
  exact h2
set_option maxHeartbeats 2000000 in
theorem placeSurvives_fn (v : Value) (X : List St) (y : Di) (set k : Int) (g : St) (li : Int) (hX : X.length ≤ 9223372036854775807) (hxb : ∀ s ∈ X, s.i64) (hyb : y.b.i64 ∧ i64R y.liars) (hset : i64R set) (hk : i64R k) (hg : g.i64) (hli : i64R li) (w : World) (hT : RdS w v X) :
    Fn Try.prog 4 #[.agg (caseC v y set k).toArray, .agg (sc g).toArray, zv li] w fun u w' => u = .bool true ∧ Ext w w' := by
  obtain ⟨hg0, hg1, hg2, hg3⟩ := hg
  have h7 := madeN_7 X
  have hoL := ownL_len X set
  have hoK := caseK_in X set k
  have hdi := madeD_in y
  have hv := madeV X y
  refine enterH (l := [_, _, _]) rfl Try.ntmps4 rfl ?_
  repeat' (first | apply HL.fold | apply HA.fold | apply HL.nil | apply HX.n_then | apply HC.seq | apply HC.region | refine HL.pa ?_ | refine HL.ga rfl ?_ | refine HL.na rfl ?_ | refine HL.nu rfl rfl ?_ | apply HC.block | apply HC.skip | apply HC.exit | apply HC.ret | apply HX.e_block | refine HX.e_other rfl ?_ | apply HX.e_then | apply HX.e_again | apply HX.n_block | apply HX.r_then | apply HX.r_block | apply HX.r_again | refine HC.cond_yes rfl ?_ | refine HC.cond_no rfl ?_ | refine HL.one (H1.ldb rfl memA rfl rfl ?_) | refine HC.cond rfl (fun hc => ?_) (fun hc => ?_) | refine HC.cond_b rfl (fun hc => ?_) (fun hc => ?_))
  refine HL.one (H1.boxAgg (cs := caseC v y set k) rfl rfl (fun b3 => ?_))
  repeat' (first | apply HL.fold | apply HA.fold | apply HL.nil | apply HX.n_then | apply HC.seq | apply HC.region | refine HL.pa ?_ | refine HL.ga rfl ?_ | refine HL.na rfl ?_ | refine HL.nu rfl rfl ?_ | apply HC.block | apply HC.skip | apply HC.exit | apply HC.ret | apply HX.e_block | refine HX.e_other rfl ?_ | apply HX.e_then | apply HX.e_again | apply HX.n_block | apply HX.r_then | apply HX.r_block | apply HX.r_again | refine HC.cond_yes rfl ?_ | refine HC.cond_no rfl ?_ | refine HL.one (H1.ldb rfl memA rfl rfl ?_) | refine HC.cond rfl (fun hc => ?_) (fun hc => ?_) | refine HC.cond_b rfl (fun hc => ?_) (fun hc => ?_))
  refine HL.one (H1.boxAgg (cs := sc g) rfl rfl (fun b4 => ?_))
  repeat' (first | apply HL.fold | apply HA.fold | apply HL.nil | apply HX.n_then | apply HC.seq | apply HC.region | refine HL.pa ?_ | refine HL.ga rfl ?_ | refine HL.na rfl ?_ | refine HL.nu rfl rfl ?_ | apply HC.block | apply HC.skip | apply HC.exit | apply HC.ret | apply HX.e_block | refine HX.e_other rfl ?_ | apply HX.e_then | apply HX.e_again | apply HX.n_block | apply HX.r_then | apply HX.r_block | apply HX.r_again | refine HC.cond_yes rfl ?_ | refine HC.cond_no rfl ?_ | refine HL.one (H1.ldb rfl memA rfl rfl ?_) | refine HC.cond rfl (fun hc => ?_) (fun hc => ?_) | refine HC.cond_b rfl (fun hc => ?_) (fun hc => ?_))
  refine HL.one (H1.callx (vs := []) rfl rfl (fun w' _ => ksane_fn w') ?_)
  repeat' (first | apply HL.fold | apply HA.fold | apply HL.nil | apply HX.n_then | apply HC.seq | apply HC.region | refine HL.pa ?_ | refine HL.ga rfl ?_ | refine HL.na rfl ?_ | refine HL.nu rfl rfl ?_ | apply HC.block | apply HC.skip | apply HC.exit | apply HC.ret | apply HX.e_block | refine HX.e_other rfl ?_ | apply HX.e_then | apply HX.e_again | apply HX.n_block | apply HX.r_then | apply HX.r_block | apply HX.r_again | refine HC.cond_yes rfl ?_ | refine HC.cond_no rfl ?_ | refine HL.one (H1.ldb rfl memA rfl rfl ?_) | refine HC.cond rfl (fun hc => ?_) (fun hc => ?_) | refine HC.cond_b rfl (fun hc => ?_) (fun hc => ?_))
  refine HL.one (H1.ldAgg (vs := caseC v y set k) rfl memA rfl (fun i v hv => by rw [Nat.zero_add]; exact hv) rfl ?_)
  repeat' (first | apply HL.fold | apply HA.fold | apply HL.nil | apply HX.n_then | apply HC.seq | apply HC.region | refine HL.pa ?_ | refine HL.ga rfl ?_ | refine HL.na rfl ?_ | refine HL.nu rfl rfl ?_ | apply HC.block | apply HC.skip | apply HC.exit | apply HC.ret | apply HX.e_block | refine HX.e_other rfl ?_ | apply HX.e_then | apply HX.e_again | apply HX.n_block | apply HX.r_then | apply HX.r_block | apply HX.r_again | refine HC.cond_yes rfl ?_ | refine HC.cond_no rfl ?_ | refine HL.one (H1.ldb rfl memA rfl rfl ?_) | refine HC.cond rfl (fun hc => ?_) (fun hc => ?_) | refine HC.cond_b rfl (fun hc => ?_) (fun hc => ?_))
  refine HL.one (H1.callz (vs := [.agg (caseC v y set k).toArray]) rfl rfl (fun w' hM => kmade_fn v X y set k hX hxb hyb hset hk w' (hT.ext hM.ext)) ?_)
  rintro ⟨⟨aS, cS⟩, ⟨aL, cL⟩⟩ -
  dsimp only [List.cons_append, List.nil_append]
  repeat' (first | apply HL.fold | apply HA.fold | apply HL.nil | apply HX.n_then | apply HC.seq | apply HC.region | refine HL.pa ?_ | refine HL.ga rfl ?_ | refine HL.na rfl ?_ | refine HL.nu rfl rfl ?_ | apply HC.block | apply HC.skip | apply HC.exit | apply HC.ret | apply HX.e_block | refine HX.e_other rfl ?_ | apply HX.e_then | apply HX.e_again | apply HX.n_block | apply HX.r_then | apply HX.r_block | apply HX.r_again | refine HC.cond_yes rfl ?_ | refine HC.cond_no rfl ?_ | refine HL.one (H1.ldb rfl memA rfl rfl ?_) | refine HC.cond rfl (fun hc => ?_) (fun hc => ?_) | refine HC.cond_b rfl (fun hc => ?_) (fun hc => ?_))
  refine HL.one (H1.alloc (cs := [zv 0, zv 0, zv 0, zv 0, zv 0]) rfl rfl (fun b9 => ?_))
  repeat' (first | apply HL.fold | apply HA.fold | apply HL.nil | apply HX.n_then | apply HC.seq | apply HC.region | refine HL.pa ?_ | refine HL.ga rfl ?_ | refine HL.na rfl ?_ | refine HL.nu rfl rfl ?_ | apply HC.block | apply HC.skip | apply HC.exit | apply HC.ret | apply HX.e_block | refine HX.e_other rfl ?_ | apply HX.e_then | apply HX.e_again | apply HX.n_block | apply HX.r_then | apply HX.r_block | apply HX.r_again | refine HC.cond_yes rfl ?_ | refine HC.cond_no rfl ?_ | refine HL.one (H1.ldb rfl memA rfl rfl ?_) | refine HC.cond rfl (fun hc => ?_) (fun hc => ?_) | refine HC.cond_b rfl (fun hc => ?_) (fun hc => ?_))
  refine HL.one (H1.stAgg (cs := [zv 0, zv 0, zv 0, zv 0, zv 0]) (vs := (madeD y).cells) rfl rfl rfl (by unfold Di.cells; intro v hv; simp only [List.mem_cons, List.not_mem_nil, or_false] at hv; rcases hv with rfl | rfl | rfl | rfl | rfl <;> rfl) rplA rfl ?_)
  repeat' (first | apply HL.fold | apply HA.fold | apply HL.nil | apply HX.n_then | apply HC.seq | apply HC.region | refine HL.pa ?_ | refine HL.ga rfl ?_ | refine HL.na rfl ?_ | refine HL.nu rfl rfl ?_ | apply HC.block | apply HC.skip | apply HC.exit | apply HC.ret | apply HX.e_block | refine HX.e_other rfl ?_ | apply HX.e_then | apply HX.e_again | apply HX.n_block | apply HX.r_then | apply HX.r_block | apply HX.r_again | refine HC.cond_yes rfl ?_ | refine HC.cond_no rfl ?_ | refine HL.one (H1.ldb rfl memA rfl rfl ?_) | refine HC.cond rfl (fun hc => ?_) (fun hc => ?_) | refine HC.cond_b rfl (fun hc => ?_) (fun hc => ?_))
  refine HL.one (H1.ldAgg (vs := (madeD y).cells) rfl memA rfl (fun i v hv => by rw [Nat.zero_add]; exact hv) rfl ?_)
  repeat' (first | apply HL.fold | apply HA.fold | apply HL.nil | apply HX.n_then | apply HC.seq | apply HC.region | refine HL.pa ?_ | refine HL.ga rfl ?_ | refine HL.na rfl ?_ | refine HL.nu rfl rfl ?_ | apply HC.block | apply HC.skip | apply HC.exit | apply HC.ret | apply HX.e_block | refine HX.e_other rfl ?_ | apply HX.e_then | apply HX.e_again | apply HX.n_block | apply HX.r_then | apply HX.r_block | apply HX.r_again | refine HC.cond_yes rfl ?_ | refine HC.cond_no rfl ?_ | refine HL.one (H1.ldb rfl memA rfl rfl ?_) | refine HC.cond rfl (fun hc => ?_) (fun hc => ?_) | refine HC.cond_b rfl (fun hc => ?_) (fun hc => ?_))
  refine HL.one (H1.callz1 (An := fun z : Option Addr × Nat => A.grow 3 1 z.1 z.2 (chk (madeS X) (madeD y) (natI (ownL X set)) (caseK X set k)).1.length (ints (natI (chk (madeS X) (madeD y) (natI (ownL X set)) (caseK X set k)).1))) (vs := [.slice aS (madeS X).length cS, .agg (madeD y).cells.toArray, .slice aL (ownL X set).length cL, zv (caseK X set k)]) rfl rfl (fun w' hM => by
    have h1 := hM.gr (a := aL) (c := cL) memA
    exact check_fn _ (madeS X) (madeD y) _ (natI (ownL X set)) (caseK X set k) (by rw [madeS_len]; omega) (by rw [natI_len]; omega) w' (RdS.own (a := aS) (c := cS) hM memA) h1) ?_)
  rintro ⟨aC, cC⟩ -
  dsimp only
  repeat' (first | apply HL.fold | apply HA.fold | apply HL.nil | apply HX.n_then | apply HC.seq | apply HC.region | refine HL.pa ?_ | refine HL.ga rfl ?_ | refine HL.na rfl ?_ | refine HL.nu rfl rfl ?_ | apply HC.block | apply HC.skip | apply HC.exit | apply HC.ret | apply HX.e_block | refine HX.e_other rfl ?_ | apply HX.e_then | apply HX.e_again | apply HX.n_block | apply HX.r_then | apply HX.r_block | apply HX.r_again | refine HC.cond_yes rfl ?_ | refine HC.cond_no rfl ?_ | refine HL.one (H1.ldb rfl memA rfl rfl ?_) | refine HC.cond rfl (fun hc => ?_) (fun hc => ?_) | refine HC.cond_b rfl (fun hc => ?_) (fun hc => ?_))
  obtain ⟨D, hD⟩ : ∃ D, D = madeD y := ⟨_, rfl⟩
  have hd0 := hdi.1 0
  have hd1 := hdi.1 1
  have hd2 := hdi.1 2
  have hd3 := hdi.1 3
  obtain ⟨G, hGd⟩ : ∃ G : Nat → List Nat, G = fun q => firstL (g.at q) 6 ((madeD y).b.at q).toNat := ⟨_, rfl⟩
  refine HC.anyC (cellsA b4 (sc g) ++ (cellsA b9 (madeD y).cells ++ [])) rfl ?_
  refine HB.pa 0 rfl ?_
  refine HB.pa 1 rfl ?_
  refine HB.ld 2 rfl rfl (cellsL (cellsA_mem (v := zv g.p) rfl)) ?_
  refine HB.pa 4 rfl ?_
  refine HB.ld 5 rfl rfl (cellsR (cellsL (cellsA_mem (v := zv (madeD y).b.p) rfl))) ?_
  refine HB.pa 7 rfl ?_
  refine HB.ld 8 rfl rfl (cellsL (cellsA_mem (v := zv g.r) rfl)) ?_
  refine HB.pa 10 rfl ?_
  refine HB.ld 11 rfl rfl (cellsR (cellsL (cellsA_mem (v := zv (madeD y).b.r) rfl))) ?_
  refine HB.pa 13 rfl ?_
  refine HB.ld 14 rfl rfl (cellsL (cellsA_mem (v := zv g.v) rfl)) ?_
  refine HB.pa 16 rfl ?_
  refine HB.ld 17 rfl rfl (cellsR (cellsL (cellsA_mem (v := zv (madeD y).b.v) rfl))) ?_
  refine HB.pa 19 rfl ?_
  refine HB.ld 20 rfl rfl (cellsL (cellsA_mem (v := zv g.l) rfl)) ?_
  refine HB.pa 22 rfl ?_
  refine HB.ld 23 rfl rfl (cellsR (cellsL (cellsA_mem (v := zv (madeD y).b.l) rfl))) ?_
  refine HB.all (by exact Keep.blkA memA (Keep.blkA memA Keep.nil)) [3] (by kernel_rfl) rfl ⟨⟨_, rfl, ?_⟩, trivial⟩
  refine HP.one ?_
  refine H1.callz1 (vs := [zv g.p, zv (6 : Nat)]) rfl rfl (fun w' _ => some_fn g.p 6 hg0 (by decide) w') ?_
  rintro ⟨a0, c0⟩ -
  dsimp only
  apply HB.fold
  refine HB.all (by exact Keep.blkA memA (Keep.blkA memA Keep.nil)) [6] (by kernel_rfl) rfl ⟨⟨_, rfl, ?_⟩, trivial⟩
  refine HP.one ?_
  refine H1.call0 (vs := [.slice a0 (somL g.p 6).length c0, zv (madeD y).b.p]) rfl rfl (fun w' hM => hM.firstFn hd0.1 (by decide) memA) ?_
  apply HB.fold
  refine HB.all (by exact Keep.blkA memA (Keep.blkA memA Keep.nil)) [9] (by kernel_rfl) rfl ⟨⟨_, rfl, ?_⟩, trivial⟩
  refine HP.one ?_
  refine H1.callz1 (vs := [zv g.r, zv (6 : Nat)]) rfl rfl (fun w' _ => some_fn g.r 6 hg1 (by decide) w') ?_
  rintro ⟨a1, c1⟩ -
  dsimp only
  apply HB.fold
  refine HB.all (by exact Keep.blkA memA (Keep.blkA memA Keep.nil)) [12] (by kernel_rfl) rfl ⟨⟨_, rfl, ?_⟩, trivial⟩
  refine HP.one ?_
  refine H1.call0 (vs := [.slice a1 (somL g.r 6).length c1, zv (madeD y).b.r]) rfl rfl (fun w' hM => hM.firstFn hd1.1 (by decide) memA) ?_
  apply HB.fold
  refine HB.all (by exact Keep.blkA memA (Keep.blkA memA Keep.nil)) [15] (by kernel_rfl) rfl ⟨⟨_, rfl, ?_⟩, trivial⟩
  refine HP.one ?_
  refine H1.callz1 (vs := [zv g.v, zv (6 : Nat)]) rfl rfl (fun w' _ => some_fn g.v 6 hg2 (by decide) w') ?_
  rintro ⟨a2, c2⟩ -
  dsimp only
  apply HB.fold
  refine HB.all (by exact Keep.blkA memA (Keep.blkA memA Keep.nil)) [18] (by kernel_rfl) rfl ⟨⟨_, rfl, ?_⟩, trivial⟩
  refine HP.one ?_
  refine H1.call0 (vs := [.slice a2 (somL g.v 6).length c2, zv (madeD y).b.v]) rfl rfl (fun w' hM => hM.firstFn hd2.1 (by decide) memA) ?_
  apply HB.fold
  refine HB.all (by exact Keep.blkA memA (Keep.blkA memA Keep.nil)) [21] (by kernel_rfl) rfl ⟨⟨_, rfl, ?_⟩, trivial⟩
  refine HP.one ?_
  refine H1.callz1 (vs := [zv g.l, zv (6 : Nat)]) rfl rfl (fun w' _ => some_fn g.l 6 hg3 (by decide) w') ?_
  rintro ⟨a3, c3⟩ -
  dsimp only
  apply HB.fold
  refine HB.all (by exact Keep.blkA memA (Keep.blkA memA Keep.nil)) [24] (by kernel_rfl) rfl ⟨⟨_, rfl, ?_⟩, trivial⟩
  refine HP.one ?_
  refine H1.call0 (vs := [.slice a3 (somL g.l 6).length c3, zv (madeD y).b.l]) rfl rfl (fun w' hM => hM.firstFn hd3.1 (by decide) memA) ?_
  apply HB.fold
  refine HB.all (by exact Keep.blkA memA (Keep.blkA memA Keep.nil)) [25] (by kernel_rfl) rfl ⟨⟨_, rfl, ?_⟩, trivial⟩
  refine HP.one ?_
  refine H1.callz1 (An := fun z : Option Addr × Nat => A.grow 3 1 z.1 z.2 (strG (madeS X) G).length (ints (natI (strG (madeS X) G)))) (V := fun z => .slice z.1 (strG (madeS X) G).length z.2) (I := fun _ => True) (vs := [.slice aS (madeS X).length cS, .slice a0 (min (somL g.p 6).length (madeD y).b.p.toNat) c0, .slice a1 (min (somL g.r 6).length (madeD y).b.r.toNat) c1, .slice a2 (min (somL g.v 6).length (madeD y).b.v.toNat) c2, .slice a3 (min (somL g.l 6).length (madeD y).b.l.toNat) c3]) rfl rfl (fun w' hM => by
      have := struck_fn (.slice aS (madeS X).length cS) (madeS X) (fun q => if q = 0 then .slice a0 (min (somL g.p 6).length (madeD y).b.p.toNat) c0 else if q = 1 then .slice a1 (min (somL g.r 6).length (madeD y).b.r.toNat) c1 else if q = 2 then .slice a2 (min (somL g.v 6).length (madeD y).b.v.toNat) c2 else .slice a3 (min (somL g.l 6).length (madeD y).b.l.toNat) c3) (fun q => natI (G q)) (by rw [madeS_len]; omega) (fun q hq => by rw [natI_len, hGd]; have := firstL_len (g.at q) 6 ((madeD y).b.at q).toNat; have := hdi.1 q; dsimp only; omega) w' (RdS.own (a := aS) (c := cS) hM memA) (fun q hq => by
        rw [hGd]
        rcases (show q = 0 ∨ q = 1 ∨ q = 2 ∨ q = 3 by omega) with rfl | rfl | rfl | rfl
        · exact hM.firstRd (x := g.p) (n := 6) memA
        · exact hM.firstRd (x := g.r) (n := 6) memA
        · exact hM.firstRd (x := g.v) (n := 6) memA
        · exact hM.firstRd (x := g.l) (n := 6) memA)
      exact this) ?_
  rintro ⟨aT, cT⟩ -
  dsimp only
  apply HB.fold
  refine HB.pa 26 rfl ?_
  refine HB.done (by exact Keep.blkA memA (Keep.blkA memA Keep.nil)) (by kernel_rfl) ?_
  skip
  repeat' (first | apply HL.fold | apply HA.fold | apply HL.nil | apply HX.n_then | apply HC.seq | apply HC.region | refine HL.pa ?_ | refine HL.ga rfl ?_ | refine HL.na rfl ?_ | refine HL.nu rfl rfl ?_ | apply HC.block | apply HC.skip | apply HC.exit | apply HC.ret | apply HX.e_block | refine HX.e_other rfl ?_ | apply HX.e_then | apply HX.e_again | apply HX.n_block | apply HX.r_then | apply HX.r_block | apply HX.r_again | refine HC.cond_yes rfl ?_ | refine HC.cond_no rfl ?_ | refine HL.one (H1.ldb rfl memA rfl rfl ?_) | refine HC.cond rfl (fun hc => ?_) (fun hc => ?_) | refine HC.cond_b rfl (fun hc => ?_) (fun hc => ?_))
  rw [madeS_len]
  obtain ⟨L, hLd⟩ : ∃ L : List Nat, L = firstL li (madeN X) (madeD y).liars.toNat := ⟨_, rfl⟩
  refine HC.cut (α := Option Addr × Nat) (fun z => [(7, .bool true), (10, .slice aL (ownL X set).length cL), (11, zv (caseK X set k)), (13, .bool (chk (madeS X) (madeD y) (natI (ownL X set)) (caseK X set k)).2), (14, .slice aT (strG (madeS X) G).length cT), (15, .slice z.1 (min (somL li (madeN X)).length (madeD y).liars.toNat) z.2)])
    (fun z => [A.grow 3 1 z.1 z.2 (somL li (madeN X)).length (ints (natI (somL li (madeN X)))), A.grow 3 1 aT cT (strG (madeS X) G).length (ints (natI (strG (madeS X) G))), A.grow 3 1 aL cL (ownL X set).length (ints (natI (ownL X set)))]) (fun _ => True) ?_ ?_
  · refine HC.anyC (cellsA b9 (madeD y).cells ++ []) rfl ?_
    refine HB.pa 0 rfl ?_
    refine HB.pa 1 rfl ?_
    refine HB.pa 2 rfl ?_
    refine HB.pa 4 rfl ?_
    refine HB.ld 5 rfl rfl (cellsL (cellsA_mem (v := zv (madeD y).liars) rfl)) ?_
    refine HB.all (by exact Keep.blkA memA Keep.nil) [3] (by kernel_rfl) rfl ⟨⟨_, rfl, ?_⟩, trivial⟩
    refine HP.one ?_
    refine H1.callz1 (vs := [zv li, zv (madeN X : Int)]) rfl rfl (fun w' _ => some_fn li (madeN X) hli (by omega) w') ?_
    rintro ⟨a5, c5⟩ -
    dsimp only
    apply HB.fold
    refine HB.all (by exact Keep.blkA memA Keep.nil) [6] (by kernel_rfl) rfl ⟨⟨_, rfl, ?_⟩, trivial⟩
    refine HP.one ?_
    refine H1.call0 (vs := [.slice a5 (somL li (madeN X)).length c5, zv (madeD y).liars]) rfl rfl (fun w' hM => hM.firstFn hdi.2.1 (by omega) memA) ?_
    apply HB.fold
    refine HB.pa 7 rfl ?_
    refine HB.done (by exact Keep.blkA memA Keep.nil) (by kernel_rfl) ?_
    repeat' (first | apply HL.fold | apply HA.fold | apply HL.nil | apply HX.n_then | apply HC.seq | apply HC.region | refine HL.pa ?_ | refine HL.ga rfl ?_ | refine HL.na rfl ?_ | refine HL.nu rfl rfl ?_ | apply HC.block | apply HC.skip | apply HC.exit | apply HC.ret | apply HX.e_block | refine HX.e_other rfl ?_ | apply HX.e_then | apply HX.e_again | apply HX.n_block | apply HX.r_then | apply HX.r_block | apply HX.r_again | refine HC.cond_yes rfl ?_ | refine HC.cond_no rfl ?_ | refine HL.one (H1.ldb rfl memA rfl rfl ?_) | refine HC.cond rfl (fun hc => ?_) (fun hc => ?_) | refine HC.cond_b rfl (fun hc => ?_) (fun hc => ?_))
    exact HX.cut (a5, c5) trivial esA (by repeat (first | exact Hs.nil _ | (refine Hs.cons pickA ?_)))
  rintro ⟨a5, c5⟩ -
  dsimp only
  repeat' (first | apply HL.fold | apply HA.fold | apply HL.nil | apply HX.n_then | apply HC.seq | apply HC.region | refine HL.pa ?_ | refine HL.ga rfl ?_ | refine HL.na rfl ?_ | refine HL.nu rfl rfl ?_ | apply HC.block | apply HC.skip | apply HC.exit | apply HC.ret | apply HX.e_block | refine HX.e_other rfl ?_ | apply HX.e_then | apply HX.e_again | apply HX.n_block | apply HX.r_then | apply HX.r_block | apply HX.r_again | refine HC.cond_yes rfl ?_ | refine HC.cond_no rfl ?_ | refine HL.one (H1.ldb rfl memA rfl rfl ?_) | refine HC.cond rfl (fun hc => ?_) (fun hc => ?_) | refine HC.cond_b rfl (fun hc => ?_) (fun hc => ?_))
  have hsur := survive (S := madeS X) (d := madeD y) (l := ownL X set) (k := caseK X set k) (G := G) (L := L) (ownL_asc X set) (fun i hi => by rw [madeS_len]; exact ownL_lt hi) hv
  have hla := ownL_len X set
  refine HC.loop (α := Nat) (fun i => [(7, .bool true), (10, .slice aL (ownL X set).length cL), (11, zv (caseK X set k)), (13, .bool (chk (madeS X) (madeD y) (natI (ownL X set)) (caseK X set k)).2), (14, .slice aT (strG (madeS X) G).length cT), (15, .slice a5 (min (somL li (madeN X)).length (madeD y).liars.toNat) c5), (16, zv (((ownL X set).take i).filter (leftB (madeS X) G L)).length), (17, zv (i : Int))])
    (fun _ => [A.grow 3 1 a5 c5 (somL li (madeN X)).length (ints (natI (somL li (madeN X)))), A.grow 3 1 aT cT (strG (madeS X) G).length (ints (natI (strG (madeS X) G))), A.grow 3 1 aL cL (ownL X set).length (ints (natI (ownL X set)))]) (fun i => i ≤ (ownL X set).length) (fun i => (ownL X set).length - i) 0 (Nat.zero_le _) esA (by repeat (first | exact Hs.nil _ | (refine Hs.cons pickA ?_))) ?_
  intro i hi
  by_cases hlt : i < (ownL X set).length
  rotate_left
  · obtain rfl : i = (ownL X set).length := by omega
    rw [List.take_length]
    cases hs : (chk (madeS X) (madeD y) (natI (ownL X set)) (caseK X set k)).2 with
    | false =>
      repeat' (first | apply HL.fold | apply HA.fold | apply HL.nil | apply HX.n_then | apply HC.seq | apply HC.region | refine HL.pa ?_ | refine HL.ga rfl ?_ | refine HL.na rfl ?_ | refine HL.nu rfl rfl ?_ | apply HC.block | apply HC.skip | apply HC.exit | apply HC.ret | apply HX.e_block | refine HX.e_other rfl ?_ | apply HX.e_then | apply HX.e_again | apply HX.n_block | apply HX.r_then | apply HX.r_block | apply HX.r_again | refine HC.cond_yes rfl ?_ | refine HC.cond_no rfl ?_ | refine HL.one (H1.ldb rfl memA rfl rfl ?_) | refine HC.cond rfl (fun hc => ?_) (fun hc => ?_) | refine HC.cond_b rfl (fun hc => ?_) (fun hc => ?_))
      exact HX.ret1 rfl rfl fun w' hM => ⟨rfl, hM.ext⟩
    | true =>
      have h1 := hsur hs (fun q hq => by rw [hGd]; exact firstL_len _ _ _) (by rw [hLd]; exact firstL_len _ _ _)
      repeat' (first | apply HL.fold | apply HA.fold | apply HL.nil | apply HX.n_then | apply HC.seq | apply HC.region | refine HL.pa ?_ | refine HL.ga rfl ?_ | refine HL.na rfl ?_ | refine HL.nu rfl rfl ?_ | apply HC.block | apply HC.skip | apply HC.exit | apply HC.ret | apply HX.e_block | refine HX.e_other rfl ?_ | apply HX.e_then | apply HX.e_again | apply HX.n_block | apply HX.r_then | apply HX.r_block | apply HX.r_again | refine HC.cond_yes rfl ?_ | refine HC.cond_no rfl ?_ | refine HL.one (H1.ldb rfl memA rfl rfl ?_) | refine HC.cond rfl (fun hc => ?_) (fun hc => ?_) | refine HC.cond_b rfl (fun hc => ?_) (fun hc => ?_))
      exact HX.ret1 rfl rfl fun w' hM => ⟨by rw [decide_eq_true h1], hM.ext⟩
  have hstep := filter_take_step (leftB (madeS X) G L) hlt
  have hcell : ∀ (H : List Atom) (w' : World), Mm w H w' → A.grow 3 1 aL cL (ownL X set).length (ints (natI (ownL X set))) ∈ H → ∀ b, aL = some ⟨b, 0, none⟩ → w'.cell? ⟨b, i, none⟩ = some (zv ((ownL X set)[i] : Int)) := fun H w' hM hm b hb => by
    have h1 := hM.gr hm
    subst hb
    have h2 := Rd.cell0 h1 (natI_get hlt)
    exact h2
  have hcnt : (((ownL X set).take i).filter (leftB (madeS X) G L)).length ≤ 7 := by
    have := List.length_filter_le (leftB (madeS X) G L) ((ownL X set).take i)
    rw [List.length_take] at this
    omega
  refine HC.openg (a := aL) (.tail _ (.tail _ (.head _))) (by omega) fun bL hbL => ?_
  subst hbL
  generalize hcn : (((ownL X set).take i).filter (leftB (madeS X) G L)).length = n at *
  repeat' (first | apply HL.fold | apply HA.fold | apply HL.nil | apply HX.n_then | apply HC.seq | apply HC.region | refine HL.pa ?_ | refine HL.ga rfl ?_ | refine HL.na rfl ?_ | refine HL.nu rfl rfl ?_ | apply HC.block | apply HC.skip | apply HC.exit | apply HC.ret | apply HX.e_block | refine HX.e_other rfl ?_ | apply HX.e_then | apply HX.e_again | apply HX.n_block | apply HX.r_then | apply HX.r_block | apply HX.r_again | refine HC.cond_yes rfl ?_ | refine HC.cond_no rfl ?_ | refine HL.one (H1.ldb rfl memA rfl rfl ?_) | refine HC.cond rfl (fun hc => ?_) (fun hc => ?_) | refine HC.cond_b rfl (fun hc => ?_) (fun hc => ?_))
  refine HL.one (H1.ldw rfl (fun w' hM => by
    have := hcell _ w' hM (.tail _ (.tail _ (.head _))) bL rfl
    exact this) rfl ?_)
  repeat' (first | apply HL.fold | apply HA.fold | apply HL.nil | apply HX.n_then | apply HC.seq | apply HC.region | refine HL.pa ?_ | refine HL.ga rfl ?_ | refine HL.na rfl ?_ | refine HL.nu rfl rfl ?_ | apply HC.block | apply HC.skip | apply HC.exit | apply HC.ret | apply HX.e_block | refine HX.e_other rfl ?_ | apply HX.e_then | apply HX.e_again | apply HX.n_block | apply HX.r_then | apply HX.r_block | apply HX.r_again | refine HC.cond_yes rfl ?_ | refine HC.cond_no rfl ?_ | refine HL.one (H1.ldb rfl memA rfl rfl ?_) | refine HC.cond rfl (fun hc => ?_) (fun hc => ?_) | refine HC.cond_b rfl (fun hc => ?_) (fun hc => ?_))
  refine HL.one (H1.call0 (vs := [.slice aT (strG (madeS X) G).length cT, zv ((ownL X set)[i] : Int)]) rfl rfl (fun w' hM => khas_fn _ (natI (strG (madeS X) G)) _ (by rw [natI_len]; have := struckL_len (madeS X) (fun q => natI (G q)) (madeS X).length; rw [madeS_len] at this; unfold strG; rw [madeS_len]; omega) w' (hM.gr (a := aT) (c := cT) memA)) ?_)
  by_cases hs : (ownL X set)[i] ∈ strG (madeS X) G
  · have hb : leftB (madeS X) G L (ownL X set)[i] = false := by unfold leftB; rw [decide_eq_false (fun h => h hs)]; rfl
    rw [hb, if_neg (by decide), Nat.add_zero] at hstep
    rw [decide_eq_true (mem_natI.2 hs)]
    repeat' (first | apply HL.fold | apply HA.fold | apply HL.nil | apply HX.n_then | apply HC.seq | apply HC.region | refine HL.pa ?_ | refine HL.ga rfl ?_ | refine HL.na rfl ?_ | refine HL.nu rfl rfl ?_ | apply HC.block | apply HC.skip | apply HC.exit | apply HC.ret | apply HX.e_block | refine HX.e_other rfl ?_ | apply HX.e_then | apply HX.e_again | apply HX.n_block | apply HX.r_then | apply HX.r_block | apply HX.r_again | refine HC.cond_yes rfl ?_ | refine HC.cond_no rfl ?_ | refine HL.one (H1.ldb rfl memA rfl rfl ?_) | refine HC.cond rfl (fun hc => ?_) (fun hc => ?_) | refine HC.cond_b rfl (fun hc => ?_) (fun hc => ?_))
    exact HX.again (i + 1) (by omega) (by omega) (by rw [hstep]; repeat (first | exact trivial | refine ⟨rfl, ?_⟩)) (by repeat (first | exact Hs.nil _ | (refine Hs.cons pickA ?_)))
  rw [decide_eq_false (fun h => hs (mem_natI.1 h))]
  repeat' (first | apply HL.fold | apply HA.fold | apply HL.nil | apply HX.n_then | apply HC.seq | apply HC.region | refine HL.pa ?_ | refine HL.ga rfl ?_ | refine HL.na rfl ?_ | refine HL.nu rfl rfl ?_ | apply HC.block | apply HC.skip | apply HC.exit | apply HC.ret | apply HX.e_block | refine HX.e_other rfl ?_ | apply HX.e_then | apply HX.e_again | apply HX.n_block | apply HX.r_then | apply HX.r_block | apply HX.r_again | refine HC.cond_yes rfl ?_ | refine HC.cond_no rfl ?_ | refine HL.one (H1.ldb rfl memA rfl rfl ?_) | refine HC.cond rfl (fun hc => ?_) (fun hc => ?_) | refine HC.cond_b rfl (fun hc => ?_) (fun hc => ?_))
  refine HL.one (H1.ldw rfl (fun w' hM => by
    have := hcell _ w' hM (.tail _ (.tail _ (.head _))) bL rfl
    exact this) rfl ?_)
  repeat' (first | apply HL.fold | apply HA.fold | apply HL.nil | apply HX.n_then | apply HC.seq | apply HC.region | refine HL.pa ?_ | refine HL.ga rfl ?_ | refine HL.na rfl ?_ | refine HL.nu rfl rfl ?_ | apply HC.block | apply HC.skip | apply HC.exit | apply HC.ret | apply HX.e_block | refine HX.e_other rfl ?_ | apply HX.e_then | apply HX.e_again | apply HX.n_block | apply HX.r_then | apply HX.r_block | apply HX.r_again | refine HC.cond_yes rfl ?_ | refine HC.cond_no rfl ?_ | refine HL.one (H1.ldb rfl memA rfl rfl ?_) | refine HC.cond rfl (fun hc => ?_) (fun hc => ?_) | refine HC.cond_b rfl (fun hc => ?_) (fun hc => ?_))
  refine HL.one (H1.call0 (vs := [.slice a5 (min (somL li (madeN X)).length (madeD y).liars.toNat) c5, zv ((ownL X set)[i] : Int)]) rfl rfl (fun w' hM => by
    have h1 := hM.firstRd (x := li) (n := madeN X) (m := (madeD y).liars.toNat) (a := a5) (c := c5) memA
    have h2 := khas_fn _ (natI (firstL li (madeN X) (madeD y).liars.toNat)) ((ownL X set)[i] : Int) (by rw [natI_len]; have := firstL_len li (madeN X) (madeD y).liars.toNat; have := hdi.2; omega) w' h1
    exact h2) ?_)
  rw [← hLd]
  by_cases hs2 : (ownL X set)[i] ∈ L
  · have hb : leftB (madeS X) G L (ownL X set)[i] = false := by unfold leftB; rw [decide_eq_false (p := (ownL X set)[i] ∉ L) (fun h => h hs2), Bool.and_false]
    rw [hb, if_neg (by decide), Nat.add_zero] at hstep
    rw [decide_eq_true (mem_natI.2 hs2)]
    repeat' (first | apply HL.fold | apply HA.fold | apply HL.nil | apply HX.n_then | apply HC.seq | apply HC.region | refine HL.pa ?_ | refine HL.ga rfl ?_ | refine HL.na rfl ?_ | refine HL.nu rfl rfl ?_ | apply HC.block | apply HC.skip | apply HC.exit | apply HC.ret | apply HX.e_block | refine HX.e_other rfl ?_ | apply HX.e_then | apply HX.e_again | apply HX.n_block | apply HX.r_then | apply HX.r_block | apply HX.r_again | refine HC.cond_yes rfl ?_ | refine HC.cond_no rfl ?_ | refine HL.one (H1.ldb rfl memA rfl rfl ?_) | refine HC.cond rfl (fun hc => ?_) (fun hc => ?_) | refine HC.cond_b rfl (fun hc => ?_) (fun hc => ?_))
    exact HX.again (i + 1) (by omega) (by omega) (by rw [hstep]; repeat (first | exact trivial | refine ⟨rfl, ?_⟩)) (by repeat (first | exact Hs.nil _ | (refine Hs.cons pickA ?_)))
  have hb : leftB (madeS X) G L (ownL X set)[i] = true := by unfold leftB; rw [decide_eq_true hs, decide_eq_true hs2]; rfl
  rw [hb, if_pos rfl] at hstep
  rw [decide_eq_false (fun h => hs2 (mem_natI.1 h))]
  repeat' (first | apply HL.fold | apply HA.fold | apply HL.nil | apply HX.n_then | apply HC.seq | apply HC.region | refine HL.pa ?_ | refine HL.ga rfl ?_ | refine HL.na rfl ?_ | refine HL.nu rfl rfl ?_ | apply HC.block | apply HC.skip | apply HC.exit | apply HC.ret | apply HX.e_block | refine HX.e_other rfl ?_ | apply HX.e_then | apply HX.e_again | apply HX.n_block | apply HX.r_then | apply HX.r_block | apply HX.r_again | refine HC.cond_yes rfl ?_ | refine HC.cond_no rfl ?_ | refine HL.one (H1.ldb rfl memA rfl rfl ?_) | refine HC.cond rfl (fun hc => ?_) (fun hc => ?_) | refine HC.cond_b rfl (fun hc => ?_) (fun hc => ?_))
  exact HX.again (i + 1) (by omega) (by omega) (by rw [hstep]; repeat (first | exact trivial | refine ⟨rfl, ?_⟩)) (by repeat (first | exact Hs.nil _ | (refine Hs.cons pickA ?_)))
end Go.Sx


/- Chapter 2: Leaf, Node and Root of digest: the walks. -/
import Derived.Test.YtehehfcmanccjaaGreatDoorQI05
import Derived.DeepKeys
namespace Go.Sx
open Go Go.Proofs Go.RowKit
section
variable {P : Program} {r : Option Nat} {N : Nat} {ds : List Deferred} {ol : List Oper} {Q : Post} {E : Env} {w0 : World} {H H2 : List Atom}
theorem H1.conv2 {next : Act → World → Prop} {o : Oper} (hh : ∀ w, Mm w0 H w → Mm w0 H2 w) (h : H1 P r N ds next o Q E w0 H2) : H1 P r N ds next o Q E w0 H := fun w hM => h w (hh w hM)
theorem own_pre2 {w : World} {base c n i : Nat} {e : TypeId} {a : Option Addr} {xs : List Value} (h : w.ownsRow base e 1 (.slice a n c) n xs) (hi : i ≤ n) (h0 : n ≠ 0) : w.ownsRow base e 1 (.slice a i c) i (xs.take i) := by
 have hl := h.1
 rcases h.2 with ⟨hv, hz⟩ | ⟨g, cap, cur, hv, hb, hg, hnc, hcm, hcs, htk⟩
 ·exact absurd hz h0
 ·cases hv
  exact ⟨by rw [List.length_take]; omega, .inr ⟨g, c, cur, rfl, hb, hg, by omega, hcm, hcs, by rw [← htk, List.take_take]; congr 1; omega⟩⟩
theorem Mm.growPre2 {e : TypeId} {c n i : Nat} {a : Option Addr} {xs : List Value} {w : World} (hM : Mm w0 H w) (hr : Rpl (A.grow e 1 a c n xs) (A.grow e 1 a c i (xs.take i)) H H2) (hi : i ≤ n) (h0 : n ≠ 0) : Mm w0 H2 w :=
 hM.turn hr rfl rfl rfl (Nat.le_refl _) (fun _ _ _ => rfl) (own_pre2 (hM.own hr.mem) hi h0) (by cases a <;> simp [A.grow, Value.ownBlock]) (fun b hb => .inl (by cases a <;> exact hb))
theorem HC.capOfN {e : TypeId} {co : Code} {n c : Nat} {a : Option Addr} {xs : List Value} (hm : A.grow e 1 a c n xs ∈ H) (h : n ≤ c → HC P r N ds co Q E w0 H) : HC P r N ds co Q E w0 H := fun w hM => by
 refine h ?_ w hM
 rcases (hM.own hm).2 with ⟨h1, rfl⟩ | ⟨g, cap, cur, hv, -, -, hnc, -⟩
 ·exact Nat.zero_le _
 ·cases hv; exact hnc
end
def stW (st : List (Nat × ByteArray)) : List ByteArray := (st.map Prod.snd).reverse
def stS (st : List (Nat × ByteArray)) : List Int := (st.map fun x => (x.1 : Int)).reverse
theorem stW_len (st : List (Nat × ByteArray)) : (stW st).length = st.length := by simp [stW]
theorem stS_len (st : List (Nat × ByteArray)) : (stS st).length = st.length := by simp [stS]
theorem stW_cons (x : Nat × ByteArray) (st : List (Nat × ByteArray)) : stW (x :: st) = stW st ++ [x.2] := by simp [stW]
theorem stS_cons (x : Nat × ByteArray) (st : List (Nat × ByteArray)) : stS (x :: st) = stS st ++ [(x.1 : Int)] := by simp [stS]
theorem strs_snoc (l : List ByteArray) (s : ByteArray) : strs l ++ [.string s] = strs (l ++ [s]) := by simp [strs]
theorem strs_len (l : List ByteArray) : (strs l).length = l.length := by simp [strs]
theorem mergeR_two (x y : Nat × ByteArray) (r : List (Nat × ByteArray)) : mergeR (x :: y :: r) = if y.1 = x.1 then mergeR ((2 * x.1, nodeS y.2 x.2) :: r) else x :: y :: r := by rw [mergeR]
theorem mergeR_one (x : Nat × ByteArray) : mergeR [x] = [x] := by rw [mergeR]
theorem topR_snoc (out : ByteArray) (r : List (Nat × ByteArray)) (y : Nat × ByteArray) : topR out (r ++ [y]) = nodeS y.2 (topR out r) := by unfold topR; rw [List.foldl_append]; rfl
theorem ints_snocL (l : List Int) (x : Int) : ints l ++ [zv x] = ints (l ++ [x]) := by simp [ints]
theorem stW_get0 (st : List (Nat × ByteArray)) (x y : Nat × ByteArray) : (strs (stW (x :: y :: st)))[st.length]? = some (.string y.2) := by
 rw [stW_cons, stW_cons, List.append_assoc]
 unfold strs
 rw [List.map_append, List.getElem?_append_right (by simp [stW_len])]
 simp [stW_len]
theorem stW_get1 (st : List (Nat × ByteArray)) (x y : Nat × ByteArray) : (strs (stW (x :: y :: st)))[st.length + 1]? = some (.string x.2) := by
 rw [stW_cons, stW_cons, List.append_assoc]
 unfold strs
 rw [List.map_append, List.getElem?_append_right (by simp [stW_len])]
 simp [stW_len]
theorem stS_get0 (st : List (Nat × ByteArray)) (x y : Nat × ByteArray) : (ints (stS (x :: y :: st)))[st.length]? = some (zv (y.1 : Int)) := by
 rw [stS_cons, stS_cons, List.append_assoc]
 unfold ints
 rw [List.map_append, List.getElem?_append_right (by simp [stS_len])]
 simp [stS_len]
theorem stS_get1 (st : List (Nat × ByteArray)) (x y : Nat × ByteArray) : (ints (stS (x :: y :: st)))[st.length + 1]? = some (zv (x.1 : Int)) := by
 rw [stS_cons, stS_cons, List.append_assoc]
 unfold ints
 rw [List.map_append, List.getElem?_append_right (by simp [stS_len])]
 simp [stS_len]
theorem stW_cut (st : List (Nat × ByteArray)) (x y : Nat × ByteArray) : (strs (stW (x :: y :: st))).take st.length = strs (stW st) := by
 rw [stW_cons, stW_cons, List.append_assoc]
 unfold strs
 rw [List.map_append, List.take_left' (by simp [stW_len])]
theorem stS_cut (st : List (Nat × ByteArray)) (x y : Nat × ByteArray) : (ints (stS (x :: y :: st))).take st.length = ints (stS st) := by
 rw [stS_cons, stS_cons, List.append_assoc]
 unfold ints
 rw [List.map_append, List.take_left' (by simp [stS_len])]
theorem sumR_le {x : Nat × ByteArray} {st : List (Nat × ByteArray)} (h : x ∈ st) : x.1 ≤ sumR st := by
 induction st with
 | nil => cases h
 | cons y st ih =>
  have e : sumR (y :: st) = y.1 + sumR st := by simp [sumR]
  rcases List.mem_cons.1 h with rfl | h
  ·omega
  ·have := ih h; omega
structure StkI (l : List ByteArray) (k : Nat) (st : List (Nat × ByteArray)) : Prop where
 to : mergeR st = stkR (l.take (k + 1))
 ne : st ≠ []
 sum : sumR st = k + 1
 sz : ∀ x ∈ st, x.2.size = 32
 len : st.length ≤ k + 1
theorem stk_sz {l : List ByteArray} : ∀ x ∈ stkR l, x.2.size = 32 := by
 have key : ∀ (n : Nat) (st : List (Nat × ByteArray)), st.length = n → (∀ x ∈ st, x.2.size = 32) → ∀ x ∈ mergeR st, x.2.size = 32 := by
  intro n
  induction n using Nat.strongRecOn with
  | ind n ih =>
   intro st hn h
   match st, hn, h with
   | [], _, h => rw [mergeR]; exact h
   | [x], _, h => rw [mergeR]; exact h
   | x :: y :: r, hn, h =>
    rw [mergeR_two]
    split
    ·refine ih (r.length + 1) (by rw [← hn]; simp) _ (by simp) fun z hz => ?_
     rcases List.mem_cons.1 hz with rfl | hz
     ·exact nodeS_size _ _
     ·exact h z (.tail _ (.tail _ hz))
    ·exact h
 refine snocI (p := fun l => ∀ x ∈ stkR l, x.2.size = 32) (by intro x hx; cases hx) (fun l s ih => ?_) l
 rw [stkR_snoc]
 refine key _ _ rfl fun x hx => ?_
 rcases List.mem_cons.1 hx with rfl | hx
 ·exact leafS_size s
 ·exact ih x hx
theorem stk_le (l : List ByteArray) : (stkR l).length ≤ l.length := by
 have key : ∀ (n : Nat) (st : List (Nat × ByteArray)), st.length = n → (mergeR st).length ≤ st.length := by
  intro n
  induction n using Nat.strongRecOn with
  | ind n ih =>
   intro st hn
   match st, hn with
   | [], _ => rw [mergeR]; exact Nat.le_refl _
   | [x], _ => rw [mergeR]; exact Nat.le_refl _
   | x :: y :: r, hn =>
    rw [mergeR_two]
    split
    ·have := ih (r.length + 1) (by rw [← hn]; simp) ((2 * x.1, nodeS y.2 x.2) :: r) (by simp)
     simp only [List.length_cons] at this ⊢
     omega
    ·exact Nat.le_refl _
 refine snocI (p := fun l => (stkR l).length ≤ l.length) (Nat.le_refl _) (fun l s ih => ?_) l
 rw [stkR_snoc, List.length_append]
 have := key _ ((1, leafS s) :: stkR l) rfl
 simp only [List.length_cons, List.length_nil] at this ⊢
 omega
theorem StkI.begin (l : List ByteArray) {k : Nat} {s : ByteArray} (hs : l.take (k + 1) = l.take k ++ [s]) (hk : k < l.length) : StkI l k ((1, leafS s) :: stkR (l.take k)) := by
 have h1 := sumR_stk (l.take k)
 have h2 := stk_le (l.take k)
 rw [List.length_take] at h1 h2
 refine ⟨by rw [hs, stkR_snoc], by simp, ?_, fun x hx => ?_, by rw [List.length_cons]; omega⟩
 ·have : sumR ((1, leafS s) :: stkR (l.take k)) = 1 + sumR (stkR (l.take k)) := by simp [sumR]
  omega
 ·rcases List.mem_cons.1 hx with rfl | hx
  ·exact leafS_size s
  ·exact stk_sz x hx
theorem StkI.next {l : List ByteArray} {k : Nat} {x y : Nat × ByteArray} {r : List (Nat × ByteArray)} (h : StkI l k (x :: y :: r)) (e : y.1 = x.1) : StkI l k ((2 * x.1, nodeS y.2 x.2) :: r) := by
 have h1 := h.to
 rw [mergeR_two, if_pos e] at h1
 have h2 := h.sum
 have h3 := h.len
 refine ⟨h1, by simp, ?_, fun z hz => ?_, by simp only [List.length_cons] at h3 ⊢; omega⟩
 ·simp only [sumR, List.map_cons, List.sum_cons] at h2 ⊢
  omega
 ·rcases List.mem_cons.1 hz with rfl | hz
  ·exact nodeS_size _ _
  ·exact h.sz z (.tail _ (.tail _ hz))
attribute [local irreducible] WC WL WX POp Then Again Fn NX W1 WA WO QL RP RA Yld LoopAt HC HL HX HN H1 HA HO HQ HB HP A.blk A.grow A.rd A.obj A.mp AgainH CutH
attribute [local irreducible] sumS A.dfr A.loop
theorem digLeaf_fn (s : ByteArray) (hs : s.size ≤ 800000) (w : World) (hG : RoundG w) : Fn Tryz.prog 123 #[.string s] w fun v w' => v = .string (leafS s) ∧ Ext w w' := by
 have hc := catS_1 s
 refine enterH (l := [_]) rfl Tryz.ntmps123 rfl ?_
 refine hwNB ?_
 refine HL.one (H1.callz1 (vs := [.string (mkB 0)]) rfl rfl (fun w' _ => marked_fn (mkB 0) w') ?_)
 rintro b1 -
 refine hwNB ?_
 refine HL.one (H1.lit (cs := strs [s]) rfl rfl rfl rfl rfl rfl (fun b2 => ?_))
 refine hwNB ?_
 refine HL.one (H1.callv0 (f := 170) (u := .string (leafS s)) (cap := [.pointer (some ⟨b1, 0, none⟩)]) (vs := [.slice (some ⟨b2, 0, none⟩) 1 1]) rfl rfl rfl (fun w' hM => ?_) ?_)
 ·have hb2 : Blk w' b2 (strs [s]) 9 := hM.blk memA
  exact marked1_fn 0 [s] w' (hG.ext hM.ext) ((hM.blk (e := 9) (cs := [.string (mkB 0)]) memA).cell rfl) (blk_rd hb2 rfl) (Array.getElem?_eq_some_iff.1 hb2).1 (by simp) (by omega)
 refine hwNB ?_
 exact HX.ret1 rfl rfl fun w' hM => ⟨rfl, hM.ext⟩
theorem digNode_fn (h r : ByteArray) (hs : h.size + r.size ≤ 800000) (w : World) (hG : RoundG w) : Fn Tryz.prog 124 #[.string h, .string r] w fun v w' => v = .string (nodeS h r) ∧ Ext w w' := by
 have hc := catS_2 h r
 refine enterH (l := [_, _]) rfl Tryz.ntmps124 rfl ?_
 refine hwNB ?_
 refine HL.one (H1.callz1 (vs := [.string (mkB 1)]) rfl rfl (fun w' _ => marked_fn (mkB 1) w') ?_)
 rintro b1 -
 refine hwNB ?_
 refine HL.one (H1.lit (cs := strs [h, r]) rfl rfl rfl rfl rfl rfl (fun b2 => ?_))
 refine hwNB ?_
 refine HL.one (H1.callv0 (f := 170) (u := .string (nodeS h r)) (cap := [.pointer (some ⟨b1, 0, none⟩)]) (vs := [.slice (some ⟨b2, 0, none⟩) 2 2]) rfl rfl rfl (fun w' hM => ?_) ?_)
 ·have hb2 : Blk w' b2 (strs [h, r]) 9 := hM.blk memA
  exact marked1_fn 1 [h, r] w' (hG.ext hM.ext) ((hM.blk (e := 9) (cs := [.string (mkB 1)]) memA).cell rfl) (blk_rd hb2 rfl) (Array.getElem?_eq_some_iff.1 hb2).1 (by simp) (by omega)
 refine hwNB ?_
 exact HX.ret1 rfl rfl fun w' hM => ⟨rfl, hM.ext⟩
theorem backward_fn (a : Option Addr) (n c : Nat) (w : World) : Fn Tryz.prog 126 #[.slice a n c] w fun u w' => ∃ b : Nat, True ∧ u = .func (.func 151) #[] #[.pointer (some ⟨b, 0, none⟩)] ∧ Mm w [A.blk b [.slice a n c] 25] w' := by
 refine enterH (l := [_]) rfl Tryz.ntmps126 rfl ?_
 refine hwNB ?_
 refine HL.one (H1.box rfl rfl rfl (fun b1 => ?_))
 refine hwNB ?_
 exact HX.ret1 rfl rfl fun w' hM => ⟨b1, trivial, rfl, hM⟩
theorem backward1_fn {w0 : World} {K0 K1 : Atom} {Hq : Nat → List Atom} {b1 bw c n m lp : Nat} {W : List ByteArray} (hn : m ≤ n) (hW : W.length = n) (hm : m ≤ 1000000)
  (hy : ∀ q y, q < m → W[m - 1 - q]? = some y → ∀ w, Mm w0 (K0 :: K1 :: A.blk b1 [.slice (some ⟨bw, 0, none⟩) m c] 25 :: A.grow 9 1 (some ⟨bw, 0, none⟩) c n (strs W) :: Hq q) w →
   Yld Tryz.prog lp [zv ((m - 1 - q : Nat) : Int), .string y] w fun b w' => b = true ∧ ∃ _z : Unit, True ∧ Mm w0 (K0 :: K1 :: A.blk b1 [.slice (some ⟨bw, 0, none⟩) m c] 25 :: A.grow 9 1 (some ⟨bw, 0, none⟩) c n (strs W) :: Hq (q + 1)) w') :
  ∀ w, Mm w0 (K0 :: K1 :: A.blk b1 [.slice (some ⟨bw, 0, none⟩) m c] 25 :: A.grow 9 1 (some ⟨bw, 0, none⟩) c n (strs W) :: Hq 0) w →
   Fn Tryz.prog 151 (.func (.yield lp) #[] #[] :: [.pointer (some ⟨b1, 0, none⟩)]).toArray w fun _ w' => ∃ _z : Unit, True ∧ Mm w0 (K0 :: K1 :: A.blk b1 [.slice (some ⟨bw, 0, none⟩) m c] 25 :: A.grow 9 1 (some ⟨bw, 0, none⟩) c n (strs W) :: Hq m) w' := by
 intro w hM
 refine enterK (l := [_, _]) hM rfl Tryz.ntmps151 rfl ?_
 refine hwNB ?_
 refine HC.loop (α := Nat) (fun q => [(0, .func (.yield lp) #[] #[]), (1, .pointer (some ⟨b1, 0, none⟩)), (3, zv ((m : Int) - 1 - (q : Int)))]) (fun q => K0 :: K1 :: A.blk b1 [.slice (some ⟨bw, 0, none⟩) m c] 25 :: A.grow 9 1 (some ⟨bw, 0, none⟩) c n (strs W) :: Hq q)
  (fun q => q ≤ m) (fun q => m - q) 0 (Nat.zero_le _) (by refine ⟨rfl, rfl, ?_, trivial⟩; show some (zv _) = some (zv _); congr 2; omega) (Hs.refl _) ?_
 rintro q hq
 by_cases hlt : q < m
 rotate_left
 ·obtain rfl : q = m := by omega
  have hn : ¬ (0 : Int) ≤ (q : Int) - 1 - (q : Int) := by omega
  refine hwNB ?_
  exact HX.end0 rfl fun w' hM => ⟨(), trivial, hM⟩
 have hp : (0 : Int) ≤ (m : Int) - 1 - (q : Int) := by omega
 obtain ⟨i, hi⟩ : ∃ i, i = m - 1 - q := ⟨_, rfl⟩
 have e1 : (m : Int) - 1 - (q : Int) = (i : Int) := by omega
 obtain ⟨y, hyq⟩ : ∃ y, W[i]? = some y := ⟨_, List.getElem?_eq_getElem (by omega)⟩
 have hys : (strs W)[i]? = some (.string y) := by unfold strs; rw [List.getElem?_map, hyq]; rfl
 have hyy := hy q y hlt (by rw [← hi]; exact hyq)
 rw [← hi] at hyy
 rw [e1]
 refine hwNB ?_
 refine HL.one (H1.ldg (c := c) (n := n) (sz := 1) (e := 9) (vs := strs W) (i := i) rfl memA hys rfl ?_)
 refine hwNB ?_
 refine HL.one (H1.yield (vs := [zv (i : Int), .string y]) rfl rfl rfl hyy ?_)
 rintro - -
 refine hwNB ?_
 exact HX.again (q + 1) hlt (by show m - (q + 1) < m - q; omega) (by refine ⟨rfl, rfl, ?_, trivial⟩; show some (zv _) = some (zv _); congr 2; omega) (Hs.refl _)
set_option maxHeartbeats 2000000 in
theorem digRoot_fn {v : Value} {l : List ByteArray} (hl : l.length ≤ 400000) (hs : ∀ s ∈ l, s.size ≤ 700000) (w : World) (hG : RoundG w) (hR : Rd w v (strs l)) :
  Fn Tryz.prog 89 #[v] w fun u w' => u = .string (rootS l) ∧ Ext w w' := by
 have topR_take : ∀ (out : ByteArray) (r : List (Nat × ByteArray)) (q : Nat) (y : Nat × ByteArray), r[q]? = some y → topR out (r.take (q + 1)) = nodeS y.2 (topR out (r.take q)) := fun out r q y hy => by
  rw [List.take_add_one, hy]; exact topR_snoc _ _ _
 obtain ⟨a0, c0, rfl, hc0⟩ : ∃ a c, v = .slice a l.length c ∧ l.length ≤ c := by
  obtain ⟨a, c, h1, h2, -⟩ := id hR
  rw [strs_len] at h1 h2
  exact ⟨a, c, h1, h2⟩
 refine enterN (l := [_]) (Mm.refl w) rfl Tryz.ntmps89 rfl ?_
 refine hwNB ?_
 refine HC.grow0 9 1 ?_
 refine HC.grow0 3 1 ?_
 refine HC.loop (α := Nat × (Option Addr × Nat) × (Option Addr × Nat)) (fun q => [(3, .slice q.2.1.1 (stkR (l.take q.1)).length q.2.1.2), (4, .slice q.2.2.1 (stkR (l.take q.1)).length q.2.2.2), (11, .slice a0 l.length c0), (12, zv (l.length : Int)), (13, zv (q.1 : Int))])
  (fun q => [A.grow 9 1 q.2.1.1 q.2.1.2 (stkR (l.take q.1)).length (strs (stW (stkR (l.take q.1)))), A.grow 3 1 q.2.2.1 q.2.2.2 (stkR (l.take q.1)).length (ints (stS (stkR (l.take q.1))))]) (fun q => q.1 ≤ l.length) (fun q => l.length - q.1) (0, (none, 0), (none, 0)) (Nat.zero_le _) esA (Hs.cons (Pick.there Pick.here) (Hs.cons Pick.here (Hs.refl _))) ?_
 rintro ⟨k, ⟨aw, cw⟩, ai, ci⟩ hk
 dsimp only at hk ⊢
 by_cases hlt : k < l.length
 ·have hn : ((k : Nat) : Int) < (l.length : Int) := by omega
  obtain ⟨b0, off0, rfl⟩ := rd_addr hR (j := k) hlt
  have hcell := hR.cell (strs_getB hlt)
  have htk : l.take (k + 1) = l.take k ++ [getB l k] := by
   rw [List.take_add_one, List.getElem?_eq_getElem hlt]
   simp [getB, hlt]
  have hsk := hs (getB l k) (by unfold getB; simp [hlt])
  have hbeg := StkI.begin l htk hlt
  have hle := stk_le (l.take k)
  rw [List.length_take] at hle
  generalize getB l k = s at hcell htk hsk hbeg
  have hw1 := stW_cons (1, leafS s) (stkR (l.take k))
  have hs1 : stS ((1, leafS s) :: stkR (l.take k)) = stS (stkR (l.take k)) ++ [(1 : Int)] := stS_cons (1, leafS s) (stkR (l.take k))
  have hl1 : ((1, leafS s) :: stkR (l.take k)).length = (stkR (l.take k)).length + 1 := rfl
  generalize stkR (l.take k) = st at hbeg hw1 hs1 hl1 hle
  refine hwNB ?_
  refine HL.one (H1.ld0 rfl hcell rfl ?_)
  refine hwNB ?_
  refine HL.one (H1.callx (vs := [_]) rfl rfl (fun w' hM => digLeaf_fn s (by omega) w' (hG.ext hM.ext)) ?_)
  refine hwNB ?_
  refine HL.one (H1.lit (cs := [.string (leafS s)]) rfl rfl rfl rfl rfl rfl (fun b8 => ?_))
  refine hwNB ?_
  refine HL.one (H1.app1 (u := .string (leafS s)) rfl rfl (fun _ _ => by first | ((repeat (first | with_reducible exact Rpl.here | with_reducible apply Rpl.there)); done) | (repeat (first | exact Rpl.here | apply Rpl.there))) memA rfl rfl (by omega) rfl rfl (fun aw2 cw2 => ?_))
  refine hwNB ?_
  refine HL.one (H1.lit (cs := [zv 1]) rfl rfl rfl rfl rfl rfl (fun b9 => ?_))
  refine hwNB ?_
  refine HL.one (H1.app1 (u := zv 1) rfl rfl (fun _ _ => by first | ((repeat (first | with_reducible exact Rpl.here | with_reducible apply Rpl.there)); done) | (repeat (first | exact Rpl.here | apply Rpl.there))) memA rfl rfl (by omega) rfl rfl (fun as2 cs2 => ?_))
  rw [strs_snoc, ints_snocL, ← hw1, ← hs1, ← hl1]
  refine hbDE ?_
  refine HC.block ?_
  refine HC.loop (α := List (Nat × ByteArray) × (Option Addr × Nat) × (Option Addr × Nat)) (fun q => [(3, .slice q.2.1.1 q.1.length q.2.1.2), (4, .slice q.2.2.1 q.1.length q.2.2.2), (7, zv (q.1.length : Int)), (11, .slice (some ⟨b0, off0, none⟩) l.length c0), (12, zv (l.length : Int)), (13, zv (k : Int))])
   (fun q => [A.grow 9 1 q.2.1.1 q.2.1.2 q.1.length (strs (stW q.1)), A.grow 3 1 q.2.2.1 q.2.2.2 q.1.length (ints (stS q.1))]) (fun q => StkI l k q.1) (fun q => q.1.length) ((1, leafS s) :: st, (some ⟨aw2, 0, none⟩, cw2), (some ⟨as2, 0, none⟩, cs2)) hbeg esA (by repeat (first | exact Hs.nil _ | (refine Hs.cons pickA ?_))) ?_
  rintro ⟨st2, ⟨aw3, cw3⟩, ai3, ci3⟩ hI
  dsimp only at hI ⊢
  have hIl := hI.len
  match st2, hI with
  | [], hI => exact absurd rfl hI.ne
  | [x], hI =>
   have h1 : ¬ (1 : Int) < ((1 : Nat) : Int) := by decide
   have hto := hI.to
   rw [mergeR_one] at hto
   repeat refine HC.seq ?_
   refine HC.quietS [(some 27, [7], []), (some 28, [27], [0]), (some 29, [28], [1]), (some 30, [4, 29], [2]), (some 31, [7, 29], [2]), (some 32, [31, 29], [4, 2]), (some 33, [30, 32, 29], [3, 5, 2]), (some 34, [33, 29], [6, 2]), (some 35, [4, 29], [2]), (some 36, [7, 29], [2]), (some 37, [36, 29], [9, 2]), (some 38, [35, 37, 29], [8, 10, 2]), (some 39, [38, 29], [11, 2]), (some 40, [34, 39, 29], [7, 12, 2]), (some 41, [29, 40], [2, 13])] (by kernel_rfl) (by kernel_rfl) (by kernel_rfl) ?_
   refine qwA ?_
   refine HQ.nil ?_
   refine hwNB ?_
   exact HX.again (k + 1, (aw3, cw3), ai3, ci3) hlt (by show l.length - (k + 1) < l.length - k; omega) (by dsimp only; rw [← hto]; repeat (first | exact trivial | refine ⟨rfl, ?_⟩)) (by dsimp only; rw [← hto]; exact Hs.refl _)
  | x :: y :: r, hI =>
   have hlr : (x :: y :: r).length = r.length + 2 := rfl
   have h1 : (1 : Int) < ((r.length + 2 : Nat) : Int) := by omega
   have hg0 := stS_get0 r x y
   have hg1 := stS_get1 r x y
   have hw0 := stW_get0 r x y
   have hw1' := stW_get1 r x y
   have hx1 := sumR_le (x := x) (st := x :: y :: r) (.head _)
   have hsum := hI.sum
   have hszx := hI.sz x (.head _)
   have hszy := hI.sz y (.tail _ (.head _))
   rw [hlr] at hIl ⊢
   have hm0 : ((r.length + 2 : Nat) : Int) - 2 = (r.length : Int) := by omega
   have hm1 : ((r.length + 2 : Nat) : Int) - 1 = ((r.length + 1 : Nat) : Int) := by omega
   refine HC.openg (e := 9) (sz := 1) (a := aw3) (c := cw3) (n := r.length + 2) (xs := strs (stW (x :: y :: r))) memA (by omega) ?_
   rintro bw rfl
   refine HC.openg (e := 3) (sz := 1) (a := ai3) (c := ci3) (n := r.length + 2) (xs := ints (stS (x :: y :: r))) memA (by omega) ?_
   rintro bi rfl
   have hn0 : (((r.length + 2 : Nat) : Int) - 2).toNat = r.length := by omega
   have hn1 : (((r.length + 2 : Nat) : Int) - 1).toNat = r.length + 1 := by omega
   by_cases hxy : y.1 = x.1
   ·have hxy' : (y.1 : Int) = (x.1 : Int) := by omega
    repeat refine HC.seq ?_
    refine HC.quietS [(some 27, [7], []), (some 28, [27], [0]), (some 29, [28], [1]), (some 30, [4, 29], [2]), (some 31, [7, 29], [2]), (some 32, [31, 29], [4, 2]), (some 33, [30, 32, 29], [3, 5, 2]), (some 34, [33, 29], [6, 2]), (some 35, [4, 29], [2]), (some 36, [7, 29], [2]), (some 37, [36, 29], [9, 2]), (some 38, [35, 37, 29], [8, 10, 2]), (some 39, [38, 29], [11, 2]), (some 40, [34, 39, 29], [7, 12, 2]), (some 41, [29, 40], [2, 13])] (by kernel_rfl) (by kernel_rfl) (by kernel_rfl) ?_
    refine qwA ?_
    refine HQ.ld (a := ⟨bi, r.length, none⟩) (by show some (Value.pointer (some ⟨bi, (((r.length + 2 : Nat) : Int) - 2).toNat, none⟩)) = _; rw [hn0]) (fun w' hM => ownsRow_cell (hM.own (e := 3) (sz := 1) (a := some ⟨bi, 0, none⟩) (c := ci3) (n := r.length + 2) (xs := ints (stS (x :: y :: r))) memA) hg0) rfl ?_
    refine qwA ?_
    refine HQ.ld (a := ⟨bi, r.length + 1, none⟩) (by show some (Value.pointer (some ⟨bi, (((r.length + 2 : Nat) : Int) - 1).toNat, none⟩)) = _; rw [hn1]) (fun w' hM => ownsRow_cell (hM.own (e := 3) (sz := 1) (a := some ⟨bi, 0, none⟩) (c := ci3) (n := r.length + 2) (xs := ints (stS (x :: y :: r))) memA) hg1) rfl ?_
    refine qwA ?_
    refine HQ.nil ?_
    refine hwNB ?_
    have hnx := hI.next hxy
    refine HC.capOfN (e := 9) (a := some ⟨bw, 0, none⟩) (c := cw3) (n := r.length + 2) (xs := strs (stW (x :: y :: r))) memA fun hcw => ?_
    refine HC.capOfN (e := 3) (a := some ⟨bi, 0, none⟩) (c := ci3) (n := r.length + 2) (xs := ints (stS (x :: y :: r))) memA fun hci => ?_
    have hwc := stW_cut r x y
    have hsc := stS_cut r x y
    have hwn : strs (stW r) ++ [.string (nodeS y.2 x.2)] = strs (stW ((2 * x.1, nodeS y.2 x.2) :: r)) := by rw [strs_snoc, stW_cons]
    have hsn : ints (stS r) ++ [zv (2 * (x.1 : Int))] = ints (stS ((2 * x.1, nodeS y.2 x.2) :: r)) := by rw [ints_snocL, stS_cons]; rw [show ((2 * x.1 : Nat) : Int) = 2 * (x.1 : Int) by omega]
    refine HC.cut (α := Nat × Nat) (fun q => [(3, .slice (some ⟨q.1, 0, none⟩) (r.length + 1) q.2), (4, .slice (some ⟨bi, 0, none⟩) (r.length + 2) ci3), (7, zv ((r.length + 2 : Nat) : Int)), (11, .slice (some ⟨b0, off0, none⟩) l.length c0), (12, zv (l.length : Int)), (13, zv (k : Int))])
     (fun q => [A.grow 9 1 (some ⟨q.1, 0, none⟩) q.2 (r.length + 1) (strs (stW ((2 * x.1, nodeS y.2 x.2) :: r))), A.grow 3 1 (some ⟨bi, 0, none⟩) ci3 (r.length + 2) (ints (stS (x :: y :: r)))]) (fun _ => True) ?_ ?_
    ·refine HC.any rfl ?_
     refine HA.pa 0 rfl ?_
     refine HA.pa 1 rfl ?_
     refine HA.pa 2 rfl ?_ ((POp.sub rfl rfl (by omega) (by omega)).of (congrArg zv hm0))
     refine HA.pa 3 rfl ?_
     refine HA.pa 4 rfl ?_
     refine HA.pa 5 rfl ?_
     refine HA.pa 6 rfl ?_ ((POp.sub rfl rfl (by omega) (by omega)).of (congrArg zv hm0))
     refine HA.pa 7 rfl ?_
     refine HA.pa 9 rfl ?_
     refine HA.pa 10 rfl ?_
     refine HA.pa 11 rfl ?_ ((POp.sub rfl rfl (by omega) (by omega)).of (congrArg zv hm1))
     refine HA.pa 12 rfl ?_
     refine HA.all [8, 13] (by kernel_rfl) rfl ⟨⟨_, rfl, ?_⟩, ⟨_, rfl, ?_⟩, trivial⟩
     ·refine HO.one ?_
      refine H1.ldg (c := cw3) (n := r.length + 2) (sz := 1) (e := 9) (vs := strs (stW (x :: y :: r))) (i := r.length) rfl memA hw0 rfl ?_
      apply HA.fold
      refine HA.all [13] (by kernel_rfl) rfl ⟨⟨_, rfl, ?_⟩, trivial⟩
      refine HO.one ?_
      refine H1.ldg (c := cw3) (n := r.length + 2) (sz := 1) (e := 9) (vs := strs (stW (x :: y :: r))) (i := r.length + 1) rfl memA hw1' rfl ?_
      apply HA.fold
      refine HA.all [14] (by kernel_rfl) rfl ⟨⟨_, rfl, ?_⟩, trivial⟩
      refine HO.one ?_
      refine H1.callx (vs := [.string y.2, .string x.2]) rfl rfl (fun w' hM => digNode_fn y.2 x.2 (by omega) w' (hG.ext hM.ext)) ?_
      apply HA.fold
      refine HA.all [15] (by kernel_rfl) rfl ⟨⟨_, rfl, ?_⟩, trivial⟩
      refine HO.one ?_
      refine H1.lit (cs := [.string (nodeS y.2 x.2)]) rfl rfl rfl rfl rfl rfl (fun b8 => ?_)
      apply HA.fold
      refine HA.all [16] (by kernel_rfl) rfl ⟨⟨_, rfl, ?_⟩, trivial⟩
      refine HO.one ?_
      refine H1.conv2 (H2 := [A.blk b8 [.string (nodeS y.2 x.2)] 9, A.grow 9 1 (some ⟨bw, 0, none⟩) cw3 r.length (strs (stW r)), A.grow 3 1 (some ⟨bi, 0, none⟩) ci3 (r.length + 2) (ints (stS (x :: y :: r)))]) (fun w hM => hM.growPre2 (i := r.length) (n := r.length + 2) (xs := strs (stW (x :: y :: r))) (by rw [hwc]; exact .there .here) (by omega) (by omega)) ?_
      refine H1.app1 (u := .string (nodeS y.2 x.2)) rfl rfl (fun _ _ => by first | ((repeat (first | with_reducible exact Rpl.here | with_reducible apply Rpl.there)); done) | (repeat (first | exact Rpl.here | apply Rpl.there))) memA rfl rfl (by omega) rfl rfl (fun aw4 cw4 => ?_)
      rw [hwn]
      apply HA.fold
      refine HA.pa 17 rfl ?_
      refine HA.done (by kernel_rfl) ?_
      exact HX.cut (aw4, cw4) trivial esA (by repeat (first | exact Hs.nil _ | (refine Hs.cons pickA ?_)))
     ·refine HO.one ?_
      refine H1.ldg (c := cw3) (n := r.length + 2) (sz := 1) (e := 9) (vs := strs (stW (x :: y :: r))) (i := r.length + 1) rfl memA hw1' rfl ?_
      apply HA.fold
      refine HA.all [8] (by kernel_rfl) rfl ⟨⟨_, rfl, ?_⟩, trivial⟩
      refine HO.one ?_
      refine H1.ldg (c := cw3) (n := r.length + 2) (sz := 1) (e := 9) (vs := strs (stW (x :: y :: r))) (i := r.length) rfl memA hw0 rfl ?_
      apply HA.fold
      refine HA.all [14] (by kernel_rfl) rfl ⟨⟨_, rfl, ?_⟩, trivial⟩
      refine HO.one ?_
      refine H1.callx (vs := [.string y.2, .string x.2]) rfl rfl (fun w' hM => digNode_fn y.2 x.2 (by omega) w' (hG.ext hM.ext)) ?_
      apply HA.fold
      refine HA.all [15] (by kernel_rfl) rfl ⟨⟨_, rfl, ?_⟩, trivial⟩
      refine HO.one ?_
      refine H1.lit (cs := [.string (nodeS y.2 x.2)]) rfl rfl rfl rfl rfl rfl (fun b8 => ?_)
      apply HA.fold
      refine HA.all [16] (by kernel_rfl) rfl ⟨⟨_, rfl, ?_⟩, trivial⟩
      refine HO.one ?_
      refine H1.conv2 (H2 := [A.blk b8 [.string (nodeS y.2 x.2)] 9, A.grow 9 1 (some ⟨bw, 0, none⟩) cw3 r.length (strs (stW r)), A.grow 3 1 (some ⟨bi, 0, none⟩) ci3 (r.length + 2) (ints (stS (x :: y :: r)))]) (fun w hM => hM.growPre2 (i := r.length) (n := r.length + 2) (xs := strs (stW (x :: y :: r))) (by rw [hwc]; exact .there .here) (by omega) (by omega)) ?_
      refine H1.app1 (u := .string (nodeS y.2 x.2)) rfl rfl (fun _ _ => by first | ((repeat (first | with_reducible exact Rpl.here | with_reducible apply Rpl.there)); done) | (repeat (first | exact Rpl.here | apply Rpl.there))) memA rfl rfl (by omega) rfl rfl (fun aw4 cw4 => ?_)
      rw [hwn]
      apply HA.fold
      refine HA.pa 17 rfl ?_
      refine HA.done (by kernel_rfl) ?_
      exact HX.cut (aw4, cw4) trivial esA (by repeat (first | exact Hs.nil _ | (refine Hs.cons pickA ?_)))
    rintro ⟨aw4, cw4⟩ -
    dsimp only
    refine HC.any rfl ?_
    refine HA.pa 0 rfl ?_
    refine HA.pa 1 rfl ?_
    refine HA.pa 2 rfl ?_ ((POp.sub rfl rfl (by omega) (by omega)).of (congrArg zv hm0))
    refine HA.pa 3 rfl ?_
    refine HA.pa 4 rfl ?_
    refine HA.pa 5 rfl ?_
    refine HA.pa 6 rfl ?_ ((POp.sub rfl rfl (by omega) (by omega)).of (congrArg zv hm1))
    refine HA.pa 7 rfl ?_
    refine HA.all [8] (by kernel_rfl) rfl ⟨⟨_, rfl, ?_⟩, trivial⟩
    refine HO.one ?_
    refine H1.ldg (c := ci3) (n := r.length + 2) (sz := 1) (e := 3) (vs := ints (stS (x :: y :: r))) (i := r.length + 1) rfl memA hg1 rfl ?_
    apply HA.fold
    refine HA.pa 9 rfl ?_
    refine HA.all [10] (by kernel_rfl) rfl ⟨⟨_, rfl, ?_⟩, trivial⟩
    refine HO.one ?_
    refine H1.lit (cs := [zv (2 * (x.1 : Int))]) rfl rfl rfl rfl rfl rfl (fun b8 => ?_)
    apply HA.fold
    refine HA.all [11] (by kernel_rfl) rfl ⟨⟨_, rfl, ?_⟩, trivial⟩
    refine HO.one ?_
    refine H1.conv2 (H2 := [A.blk b8 [zv (2 * (x.1 : Int))] 3, A.grow 9 1 (some ⟨aw4, 0, none⟩) cw4 (r.length + 1) (strs (stW ((2 * x.1, nodeS y.2 x.2) :: r))), A.grow 3 1 (some ⟨bi, 0, none⟩) ci3 r.length (ints (stS r))]) (fun w hM => hM.growPre2 (i := r.length) (n := r.length + 2) (xs := ints (stS (x :: y :: r))) (by rw [hsc]; exact .there (.there .here)) (by omega) (by omega)) ?_
    refine H1.app1 (u := zv (2 * (x.1 : Int))) rfl rfl (fun _ _ => by first | ((repeat (first | with_reducible exact Rpl.here | with_reducible apply Rpl.there)); done) | (repeat (first | exact Rpl.here | apply Rpl.there))) memA rfl rfl (by omega) rfl rfl (fun ai4 ci4 => ?_)
    rw [hsn]
    apply HA.fold
    refine HA.pa 12 rfl ?_
    refine HA.done (by kernel_rfl) ?_
    refine hwNB ?_
    exact HX.again ((2 * x.1, nodeS y.2 x.2) :: r, (some ⟨aw4, 0, none⟩, cw4), some ⟨ai4, 0, none⟩, ci4) hnx (by show r.length + 1 < r.length + 2; omega) (by refine ⟨rfl, rfl, ?_, rfl, rfl, rfl, trivial⟩; show some (zv _) = some (zv _); rw [hm1]; rfl) (by repeat (first | exact Hs.nil _ | (refine Hs.cons pickA ?_)))
   ·have hxy' : ¬ (y.1 : Int) = (x.1 : Int) := by omega
    have hto := hI.to
    rw [mergeR_two, if_neg hxy] at hto
    repeat refine HC.seq ?_
    refine HC.quietS [(some 27, [7], []), (some 28, [27], [0]), (some 29, [28], [1]), (some 30, [4, 29], [2]), (some 31, [7, 29], [2]), (some 32, [31, 29], [4, 2]), (some 33, [30, 32, 29], [3, 5, 2]), (some 34, [33, 29], [6, 2]), (some 35, [4, 29], [2]), (some 36, [7, 29], [2]), (some 37, [36, 29], [9, 2]), (some 38, [35, 37, 29], [8, 10, 2]), (some 39, [38, 29], [11, 2]), (some 40, [34, 39, 29], [7, 12, 2]), (some 41, [29, 40], [2, 13])] (by kernel_rfl) (by kernel_rfl) (by kernel_rfl) ?_
    refine qwA ?_
    refine HQ.ld (a := ⟨bi, r.length, none⟩) (by show some (Value.pointer (some ⟨bi, (((r.length + 2 : Nat) : Int) - 2).toNat, none⟩)) = _; rw [hn0]) (fun w' hM => ownsRow_cell (hM.own (e := 3) (sz := 1) (a := some ⟨bi, 0, none⟩) (c := ci3) (n := r.length + 2) (xs := ints (stS (x :: y :: r))) memA) hg0) rfl ?_
    refine qwA ?_
    refine HQ.ld (a := ⟨bi, r.length + 1, none⟩) (by show some (Value.pointer (some ⟨bi, (((r.length + 2 : Nat) : Int) - 1).toNat, none⟩)) = _; rw [hn1]) (fun w' hM => ownsRow_cell (hM.own (e := 3) (sz := 1) (a := some ⟨bi, 0, none⟩) (c := ci3) (n := r.length + 2) (xs := ints (stS (x :: y :: r))) memA) hg1) rfl ?_
    refine qwA ?_
    refine HQ.nil ?_
    refine hwNB ?_
    exact HX.again (k + 1, (some ⟨bw, 0, none⟩, cw3), some ⟨bi, 0, none⟩, ci3) hlt (by show l.length - (k + 1) < l.length - k; omega) (by dsimp only; rw [← hto]; repeat (first | exact trivial | refine ⟨rfl, ?_⟩)) (by dsimp only; rw [← hto]; exact Hs.refl _)
 have hn : ¬ ((k : Nat) : Int) < (l.length : Int) := by omega
 obtain rfl : k = l.length := by omega
 rw [List.take_length]
 have hroot : rootS l = topS (stkR l) := rfl
 have hle := stk_le l
 have hsz := stk_sz (l := l)
 rw [hroot]
 generalize stkR l = st at hle hsz
 match st, hle, hsz with
 | [], _, _ =>
  have h0 : ((0 : Nat) : Int) = 0 := rfl
  refine hwNB ?_
  refine HL.one (H1.callx (vs := [_]) rfl rfl (fun w' hM => sum_fn ⟨#[]⟩ (by decide) w' (hG.ext hM.ext)) ?_)
  refine hwNB ?_
  refine HX.conv (fun w h => h.dfrs0) ?_
  exact HX.retMs1 (Ds := []) rfl rfl Pick.here fun w' hM => ⟨rfl, hM.ext⟩
 | x :: r, hle, hsz =>
  have hlr : (x :: r).length = r.length + 1 := rfl
  rw [hlr] at hle ⊢
  have h0 : ¬ ((r.length + 1 : Nat) : Int) = 0 := by omega
  have hm1 : ((r.length + 1 : Nat) : Int) - 1 = (r.length : Int) := by omega
  refine HC.openg (e := 9) (sz := 1) (a := aw) (c := cw) (n := r.length + 1) (xs := strs (stW (x :: r))) memA (by omega) ?_
  rintro bw rfl
  refine HC.capOfN (e := 9) (a := some ⟨bw, 0, none⟩) (c := cw) (n := r.length + 1) (xs := strs (stW (x :: r))) memA fun hcw => ?_
  have hget : (strs (stW (x :: r)))[r.length]? = some (.string x.2) := by
   rw [stW_cons]
   unfold strs
   rw [List.map_append, List.getElem?_append_right (by simp [stW_len])]
   simp [stW_len]
  refine hwNB ?_
  refine HL.one (H1.ldg (c := cw) (n := r.length + 1) (sz := 1) (e := 9) (vs := strs (stW (x :: r))) (i := r.length) (by show some (Value.pointer (some ⟨bw, (((r.length + 1 : Nat) : Int) - 1).toNat, none⟩)) = _; rw [show (((r.length + 1 : Nat) : Int) - 1).toNat = r.length by omega]) memA hget rfl ?_)
  refine hwNB ?_
  refine HL.one (H1.alloc (cs := [.string ⟨#[]⟩]) rfl rfl (fun b8 => ?_))
  refine hwNB ?_
  refine HL.one (H1.st (b := b8) rfl rfl (by intro _ h; cases h) (by intro _ h; cases h) rplA (by exact Nat.zero_lt_one) ?_)
  refine hwNB ?_
  rw [show (((r.length + 1 : Nat) : Int) - 1).toNat = r.length by omega]
  refine HL.one (H1.callz (vs := [.slice (some ⟨bw, 0, none⟩) r.length cw]) rfl rfl (fun w' hM => backward_fn (some ⟨bw, 0, none⟩) r.length cw w') ?_)
  rintro b1 -
  refine hwNB ?_
  refine HC.sub [(8, .pointer (some ⟨b8, 0, none⟩)), (89, .func (.func 151) #[] #[.pointer (some ⟨b1, 0, none⟩)])] (A.blk b1 [.slice (some ⟨bw, 0, none⟩) r.length cw] 25 :: A.grow 9 1 (some ⟨bw, 0, none⟩) cw (r.length + 1) (strs (stW (x :: r))) :: [A.blk b8 [.string (topR x.2 (r.take 0))] 9]) ?_ esA (by repeat (first | exact Hs.nil _ | (refine Hs.cons pickA ?_)))
  refine HC.rangeFunc (α := Unit) (lb := [.pointer (some ⟨b1, 0, none⟩)]) (fun _ => A.blk b1 [.slice (some ⟨bw, 0, none⟩) r.length cw] 25 :: A.grow 9 1 (some ⟨bw, 0, none⟩) cw (r.length + 1) (strs (stW (x :: r))) :: [A.blk b8 [.string (topR x.2 (r.take r.length))] 9]) (fun _ => True) rfl ?_ ?_
  ·intro D lp L hL w1 hM1
   refine backward1_fn (Hq := fun q => [A.blk b8 [.string (topR x.2 (r.take q))] 9]) (by omega) (by rw [stW_len]; rfl) (by omega) ?_ w1 hM1
   intro q y hq hy
   have hrq : ∃ z, r[q]? = some z ∧ z.2 = y := by
    rw [stW_cons, List.getElem?_append_left (by rw [stW_len]; omega)] at hy
    unfold stW at hy
    rw [List.getElem?_reverse (by rw [List.length_map]; omega), List.length_map, show r.length - 1 - (r.length - 1 - q) = q by omega, List.getElem?_map] at hy
    cases hz : r[q]? with
    | none => rw [hz] at hy; cases hy
    | some z => rw [hz] at hy; cases hy; exact ⟨z, rfl, rfl⟩
   obtain ⟨z, hz, rfl⟩ := hrq
   have hst := topR_take x.2 r q z hz
   have hzs := hsz z (.tail _ (List.mem_of_getElem? hz))
   have hts : (topR x.2 (r.take q)).size = 32 := by
    have hx := hsz x (.head _)
    have key : ∀ (m : List (Nat × ByteArray)) (o : ByteArray), o.size = 32 → (topR o m).size = 32 := by
     intro m
     induction m with
     | nil => exact fun o ho => ho
     | cons y m ih => exact fun o ho => ih _ (nodeS_size _ _)
    exact key _ _ hx
   refine Yld.ofH hL memA rfl rfl ?_
   dsimp only [List.zip_cons_cons, List.zip_nil_right, putAll]
   refine hwNB ?_
   refine HX.ra hL rplA ?_
   refine hwNB ?_
   refine HL.one (H1.callx (vs := [.string z.2, .string (topR x.2 (r.take q))]) rfl rfl (fun w' hM => digNode_fn _ _ (by omega) w' (hG.ext hM.ext)) ?_)
   rw [← hst]
   refine hwNB ?_
   refine HL.one (H1.st (b := b8) rfl rfl (by intro _ h; cases h) (by intro _ h; cases h) rplA (by exact Nat.zero_lt_one) ?_)
   refine hwNB ?_
   exact HX.rp_n hL rplA fun w' hM => ⟨rfl, (), trivial, hM⟩
  ·rintro D - -
   rw [List.take_length]
   refine hwNB ?_
   refine HX.conv (fun w h => (h.dfrs0.perm (List.Perm.swap _ _ _)).dfrs1) ?_
   exact HX.retMs1 (Ds := [D]) rfl rfl Pick.here fun w' hM => ⟨rfl, hM.ext⟩
end Go.Sx
/- Chapter 24: the root of a state, equality of states, Root: the walks. -/
namespace Go.Sx
open Go Go.Proofs Go.RowKit
theorem nd_ok {l : List Nd} (hv : ValidP l) {i : Nat} (hi : i < l.length) : NdOk (ndAt l i) := by
 have h := hasN_iff.1 (hv.node i hi)
 have h1 := h.id; have h2 := h.pack; have h3 := h.kind1; have h4 := h.kind5; have h5 := h.len
 unfold idOk at h1 h2
 refine ⟨h5, fun x hx => ?_⟩
 unfold leafN at hx
 rcases List.mem_append.1 hx with hx | hx
 ·simp only [List.mem_cons, List.not_mem_nil, or_false] at hx
  rcases hx with rfl | rfl | rfl | rfl <;> omega
 ·obtain ⟨j, hj, rfl⟩ := hv.src hi hx
  have h6 := (hasN_iff.1 (hv.node j (by omega))).id
  unfold idOk at h6
  omega
theorem zipAt {l : List Nd} {D : List ByteArray} (h : l.length = D.length) {i : Nat} (hi : i < l.length) : (l.zip D)[i]? = some (ndAt l i, getB D i) := by
 rw [List.getElem?_zip_eq_some]
 refine ⟨ndAt_get hi, ?_⟩
 unfold getB; simp [show i < D.length by omega]
theorem zip_take {l : List Nd} {D : List ByteArray} (h : l.length = D.length) {i : Nat} (hi : i < l.length) : (l.zip D).take (i + 1) = (l.zip D).take i ++ [(ndAt l i, getB D i)] := by
 rw [List.take_add_one, zipAt h hi]; rfl
theorem leafB_size {n : Nd} {d : ByteArray} (hn : NdOk n) (hd : d.size ≤ 1000) : (leafB n d).size ≤ 2000 := by
 unfold leafB
 have h1 := numsB_size (l := leafN n) fun x hx => (hn.num x hx).2
 have h2 := hn.len
 have h3 : (leafN n).length = 4 + n.src.length := by unfold leafN; rw [List.length_append]; rfl
 rw [ByteArray.size_append]
 omega
theorem eqNs_take {l m : List Nd} {k : Nat} (h1 : k < l.length) (h2 : k < m.length) (hk : l.take k = m.take k) : (eqNd (ndAt l k) (ndAt m k) = true → l.take (k + 1) = m.take (k + 1)) ∧ (eqNd (ndAt l k) (ndAt m k) = false → eqNs l m = false) := by
 constructor
 ·intro h
  rw [ndAt_take h1, ndAt_take h2, hk, eqNd_iff.1 h]
 ·intro h
  rw [← Bool.not_eq_true, eqNs_iff]
  rintro rfl
  rw [eqNd_iff.2 rfl] at h
  cases h
theorem rdN_some {w : World} {a : Option Addr} {c : Nat} {l : List Nd} {U : Nat → Value} (h : RdN w (.slice a l.length c) l U) {i : Nat} (hi : i < l.length) : ∃ b off, a = some ⟨b, off, none⟩ := by
 obtain ⟨b, off, h1, -⟩ := h.cell hi
 exact ⟨b, off, h1⟩
theorem equalS_fn (v u : Value) (l m : List ByteArray) (hl : l.length ≤ 1000000) (hm : m.length ≤ 1000000) (w : World) (hR : Rd w v (strs l)) (hS : Rd w u (strs m)) :
  Fn Tryz.prog 70 #[v, u] w fun u w' => u = .bool (decide (l = m)) ∧ Ext w w' := by
 have shape : ∀ {v : Value} {l : List ByteArray}, Rd w v (strs l) → ∃ a c, v = .slice a l.length c ∧ l.length ≤ c := fun {v l} hR => by
  obtain ⟨a, c, h1, h2, -⟩ := id hR
  rw [strs_len] at h1 h2
  exact ⟨a, c, h1, h2⟩
 have cells : ∀ {b off c : Nat} {l : List ByteArray}, Rd w (.slice (some ⟨b, off, none⟩) l.length c) (strs l) → ∀ j, j < l.length → w.cell? ⟨b, off + j, none⟩ = some (.string (l.getD j ByteArray.empty)) := fun {b off c l} hR j hj => hR.cell (by
  rw [strs_getB hj]
  unfold getB
  simp [hj])
 obtain ⟨a, c, rfl, hc⟩ := shape hR
 obtain ⟨a', c', rfl, hc'⟩ := shape hS
 by_cases hlen : l.length = m.length
 ·by_cases hne : l = []
  ·subst hne
   have hm0 : m = [] := List.eq_nil_of_length_eq_zero hlen.symm
   subst hm0
   refine Calls.mono (Tryz.slices_Equal_string_empty a a' c 0 c' w (by omega)) ?_
   rintro e w' ⟨rfl, rfl⟩
   exact ⟨_, rfl, by simp, Ext.refl _⟩
  ·have h0 : 0 < l.length := List.length_pos_iff.2 hne
   obtain ⟨b, off, rfl⟩ := rd_addr hR h0
   obtain ⟨b', off', rfl⟩ := rd_addr hS (show 0 < m.length by omega)
   refine Calls.mono (Tryz.slices_Equal_string b off l.length c b' off' m.length c' l m w (Nat.le_refl _) (Nat.le_refl _) (by omega) (by omega) (cells hR) (cells hS)) ?_
   rintro e w' ⟨rfl, q, rfl⟩
   rw [List.take_length, List.take_length]
   exact ⟨_, rfl, rfl, ⟨rfl, rfl, rfl, Nat.le_refl _, fun _ _ => rfl⟩⟩
 ·refine Calls.mono (Tryz.slices_Equal_string_lens a a' l.length c m.length c' w hlen) ?_
  rintro e w' ⟨rfl, rfl⟩
  refine ⟨_, rfl, ?_, Ext.refl _⟩
  have : ¬ l = m := fun e => hlen (by rw [e])
  simp [this]
attribute [local irreducible] WC WL WX POp Then Again Fn NX W1 WA WO QL RP RA Yld LoopAt HC HL HX HN H1 HA HO HQ HB HP A.blk A.grow A.rd A.obj A.mp AgainH CutH
attribute [local irreducible] A.mq A.mit sumS rootS
set_option maxHeartbeats 1000000 in
theorem stRoot_fn {v g : Value} {l : List Nd} {D : List ByteArray} {U : Nat → Value} (hlD : l.length = D.length) (hl : l.length ≤ 400) (hok : ∀ i, i < l.length → NdOk (ndAt l i)) (hd : ∀ d ∈ D, d.size ≤ 1000) (w : World) (hG : RoundG w) (hR : RdN w v l U) (hS : Rd w g (strs D)) :
  Fn Tryz.prog 46 #[.agg #[v, g]] w fun u w' => u = .string (rootP (l.zip D)) ∧ Ext w w' := by
 obtain ⟨a, c, rfl, hc, -⟩ := id hR.shape
 obtain ⟨a2, c2, rfl, hc2⟩ : ∃ a c, g = .slice a D.length c ∧ D.length ≤ c := by
  obtain ⟨a, c, h1, h2, -⟩ := id hS
  rw [strs_len] at h1 h2
  exact ⟨a, c, h1, h2⟩
 have hzl : (l.zip D).length = l.length := by rw [List.length_zip]; omega
 refine enterH (l := [_]) rfl Tryz.ntmps46 rfl ?_
 refine HC.grow0 9 1 ?_
 refine hwNB ?_
 refine HL.one (H1.boxAgg (cs := [.slice a l.length c, .slice a2 D.length c2]) rfl rfl (fun b1 => ?_))
 refine hwNB ?_
 refine HC.loop (α := Nat × Option Addr × Nat) (fun q => [(1, .pointer (some ⟨b1, 0, none⟩)), (3, .slice q.2.1 q.1 q.2.2), (6, .slice a l.length c), (7, zv (l.length : Int)), (8, zv (q.1 : Int))]) (fun q => [A.blk b1 [.slice a l.length c, .slice a2 D.length c2] 84, A.grow 9 1 q.2.1 q.2.2 q.1 (strs (((l.zip D).take q.1).map leafP))]) (fun q => q.1 ≤ l.length) (fun q => l.length - q.1) (0, none, 0) (Nat.zero_le _) esA (by repeat (first | exact Hs.nil _ | (refine Hs.cons pickA ?_))) ?_
 rintro ⟨k, a1, c1⟩ hk
 dsimp only at hk ⊢
 by_cases hlt : k < l.length
 ·have hn : ((k : Nat) : Int) < (l.length : Int) := by omega
  have hst : strs (((l.zip D).take k).map leafP) ++ [.string (leafB (ndAt l k) (getB D k))] = strs (((l.zip D).take (k + 1)).map leafP) := by rw [zip_take hlD hlt, List.map_append, strs_snoc]; rfl
  obtain ⟨b0, off0, rfl⟩ := rdN_some hR hlt
  have hdk := hd (getB D k) (getB_mem (by omega))
  refine hwNB ?_
  refine HL.one (H1.ldAgg (vs := [.slice (some ⟨b0, off0, none⟩) l.length c, .slice a2 D.length c2]) rfl memA rfl (fun i v h => by rwa [Nat.zero_add]) rfl ?_)
  refine hwNB ?_
  refine HL.one (H1.callx (vs := [.agg #[.slice (some ⟨b0, off0, none⟩) l.length c, .slice a2 D.length c2], zv (k : Int)]) rfl rfl (fun w' hM => leaf_fn hlt hlD (by omega) (hok k hlt) hdk w' (hR.ext hM.ext) (hS.ext hM.ext)) ?_)
  refine hwNB ?_
  refine HL.one (H1.lit (cs := [.string (leafB (ndAt l k) (getB D k))]) rfl rfl rfl rfl rfl rfl (fun b8 => ?_))
  refine hwNB ?_
  refine HL.one (H1.app1 (u := .string (leafB (ndAt l k) (getB D k))) rfl rfl (fun _ _ => by first | ((repeat (first | with_reducible exact Rpl.here | with_reducible apply Rpl.there)); done) | (repeat (first | exact Rpl.here | apply Rpl.there))) memA rfl rfl (by omega) rfl rfl (fun a' c' => ?_))
  rw [hst]
  refine hwNB ?_
  exact HX.again (k + 1, some ⟨a', 0, none⟩, c') hlt (by show l.length - (k + 1) < l.length - k; omega) esA (by repeat (first | exact Hs.nil _ | (refine Hs.cons pickA ?_)))
 have hn : ¬ ((k : Nat) : Int) < (l.length : Int) := by omega
 obtain rfl : k = l.length := by omega
 rw [← hzl, List.take_length]
 have hml : ((l.zip D).map leafP).length = (l.zip D).length := List.length_map ..
 refine hwNB ?_
 refine HL.one (H1.callx (vs := [.slice a1 (l.zip D).length c1]) rfl rfl (fun w' hM => by
  have := Mm.gr (e := 9) (a := a1) (c := c1) (xs := strs ((l.zip D).map leafP)) hM memA
  rw [← hml] at this ⊢
  refine digRoot_fn (l := (l.zip D).map leafP) (by omega) (fun s hs => ?_) w' (hG.ext hM.ext) this
  obtain ⟨q, hq, rfl⟩ := List.mem_map.1 hs
  obtain ⟨i, hi, rfl⟩ := List.mem_iff_getElem.1 hq
  rw [hzl] at hi
  have h2 := zipAt hlD hi
  rw [List.getElem?_eq_getElem (by omega)] at h2
  rw [Option.some.inj h2]
  have := leafB_size (hok i hi) (hd _ (getB_mem (l := D) (i := i) (by omega)))
  unfold leafP
  dsimp only
  omega) ?_)
 refine hwNB ?_
 exact HX.ret1 rfl rfl fun w' hM => ⟨rfl, hM.ext⟩
theorem same1_fn (n m : Nd) (a c : Option Addr) (ac cc : Nat) (hn : n.src.length ≤ 1000000) (hm : m.src.length ≤ 1000000) (w : World) (hR : Rd w (.slice a n.src.length ac) (ints n.src)) (hS : Rd w (.slice c m.src.length cc) (ints m.src)) :
  Fn Tryz.prog 109 #[ndV n (.slice a n.src.length ac), ndV m (.slice c m.src.length cc)] w fun u w' => u = .bool (eqNd n m) ∧ Ext w w' := by
 refine enterH (l := [_, _]) rfl Tryz.ntmps109 rfl ?_
 unfold ndV
 refine hwNB ?_
 refine HL.one (H1.boxAgg (cs := [zv n.id, zv n.kind, zv n.pack, .slice a n.src.length ac]) rfl rfl (fun b1 => ?_))
 refine hwNB ?_
 refine HL.one (H1.boxAgg (cs := [zv m.id, zv m.kind, zv m.pack, .slice c m.src.length cc]) rfl rfl (fun b2 => ?_))
 by_cases h1 : n.id = m.id
 rotate_left
 ·refine hwNB ?_
  exact HX.ret1 rfl rfl fun w' hM => ⟨by unfold eqNd; simp [h1], hM.ext⟩
 by_cases h2 : n.kind = m.kind
 rotate_left
 ·refine hwNB ?_
  exact HX.ret1 rfl rfl fun w' hM => ⟨by unfold eqNd; simp [h2], hM.ext⟩
 by_cases h3 : n.pack = m.pack
 rotate_left
 ·refine hwNB ?_
  exact HX.ret1 rfl rfl fun w' hM => ⟨by unfold eqNd; simp [h3], hM.ext⟩
 refine hwNB ?_
 refine HL.one (H1.callx (vs := [.slice a n.src.length ac, .slice c m.src.length cc]) rfl rfl (fun w' hM => equal_fn _ _ n.src m.src hn hm w' (hR.ext hM.ext) (hS.ext hM.ext)) ?_)
 refine hwNB ?_
 exact HX.ret1 rfl rfl fun w' hM => ⟨by unfold eqNd; simp [h1, h2, h3], hM.ext⟩
set_option maxHeartbeats 1000000 in
theorem equalN_fn {v u : Value} {l m : List Nd} {U V : Nat → Value} (hl : l.length ≤ 400000) (_ : m.length ≤ 400000) (hls : ∀ i, i < l.length → (ndAt l i).src.length ≤ 1000000) (hms : ∀ i, i < m.length → (ndAt m i).src.length ≤ 1000000) (w : World) (hR : RdN w v l U) (hS : RdN w u m V) :
  Fn Tryz.prog 110 #[v, u, .func (.func 109) #[] #[]] w fun u w' => u = .bool (eqNs l m) ∧ Ext w w' := by
 obtain ⟨a, c, rfl, hc, -⟩ := id hR.shape
 obtain ⟨a2, c2, rfl, hc2, -⟩ := id hS.shape
 refine enterH (l := [_, _, _]) rfl Tryz.ntmps110 rfl ?_
 by_cases hlen : l.length = m.length
 rotate_left
 ·have hlen' : ¬ (l.length : Int) = (m.length : Int) := by omega
  have hno : eqNs l m = false := by rw [← Bool.not_eq_true, eqNs_iff]; intro e; exact hlen (by rw [e])
  refine hwNB ?_
  exact HX.ret1 rfl rfl fun w' hM => ⟨by rw [hno], hM.ext⟩
 have hlen' : (l.length : Int) = (m.length : Int) := by omega
 refine hwNB ?_
 refine HC.loop (α := Nat) (fun k => [(1, .slice a2 m.length c2), (2, .func (.func 109) #[] #[]), (15, .slice a l.length c), (16, zv (l.length : Int)), (17, zv (k : Int))]) (fun _ => []) (fun k => k ≤ l.length ∧ l.take k = m.take k) (fun k => l.length - k) 0 ⟨Nat.zero_le _, rfl⟩ esA (Hs.refl _) ?_
 rintro k ⟨hk, hI⟩
 by_cases hlt : k < l.length
 rotate_left
 ·have hn : ¬ ((k : Nat) : Int) < (l.length : Int) := by omega
  have he : l = m := by
   rw [List.take_of_length_le (by omega), List.take_of_length_le (by omega)] at hI
   exact hI
  refine hwNB ?_
  exact HX.ret1 rfl rfl fun w' hM => ⟨by rw [eqNs_iff.2 he], hM.ext⟩
 have hn : ((k : Nat) : Int) < (l.length : Int) := by omega
 have hlt2 : k < m.length := by omega
 obtain ⟨b, off, rfl, hb⟩ := hR.cell hlt
 obtain ⟨b2, off2, rfl, hb2⟩ := hS.cell hlt2
 have hx := hb k hlt
 have hy := hb2 k hlt2
 have hsx := hR.src k hlt
 have hsy := hS.src k hlt2
 have hlx := hls k hlt
 have hly := hms k hlt2
 have hst := eqNs_take hlt hlt2 hI
 generalize ndAt l k = n1 at hx hsx hlx hst
 generalize ndAt m k = n2 at hy hsy hly hst
 generalize U k = u1 at hx hsx
 generalize V k = u2 at hy hsy
 obtain ⟨aa, ac, e1, h11⟩ := id hsx
 obtain ⟨ba, bc, e2, h22⟩ := id hsy
 rw [ints_len] at e1 e2
 subst e1 e2
 refine hwNB ?_
 refine HL.one (H1.ldAggw (b := b) (off := off + k * 4) (vs := ndC n1 (.slice aa n1.src.length ac)) rfl rfl (fun w' hM j u hu => cell_ext hM.ext (hx j u hu)) rfl ?_)
 refine hwNB ?_
 refine HL.one (H1.alloc (cs := ndC ⟨0, 0, 0, []⟩ (.slice none 0 0)) rfl rfl (fun b8 => ?_))
 refine hwNB ?_
 refine HL.one (H1.stAgg (cs := ndC ⟨0, 0, 0, []⟩ (.slice none 0 0)) (vs := ndC n1 (.slice aa n1.src.length ac)) rfl rfl rfl (nd_one rfl) rplA rfl ?_)
 refine hwNB ?_
 refine HL.one (H1.ldAggw (b := b2) (off := off2 + k * 4) (vs := ndC n2 (.slice ba n2.src.length bc)) rfl rfl (fun w' hM j u hu => cell_ext hM.ext (hy j u hu)) rfl ?_)
 refine hwNB ?_
 refine HL.one (H1.alloc (cs := ndC ⟨0, 0, 0, []⟩ (.slice none 0 0)) rfl rfl (fun b9 => ?_))
 refine hwNB ?_
 refine HL.one (H1.stAgg (b := b9) (cs := ndC ⟨0, 0, 0, []⟩ (.slice none 0 0)) (vs := ndC n2 (.slice ba n2.src.length bc)) rfl rfl rfl (nd_one rfl) rplA rfl ?_)
 refine hwNB ?_
 refine HL.one (H1.ldAgg (b := b8) (vs := ndC n1 (.slice aa n1.src.length ac)) rfl memA rfl (fun i v hv => by rw [Nat.zero_add]; exact hv) rfl ?_)
 refine hwNB ?_
 refine HL.one (H1.ldAgg (b := b9) (vs := ndC n2 (.slice ba n2.src.length bc)) rfl memA rfl (fun i v hv => by rw [Nat.zero_add]; exact hv) rfl ?_)
 refine hwNB ?_
 refine HL.one (H1.callv0 (f := 109) (u := .bool (eqNd n1 n2)) (cap := []) (vs := [ndV n1 (.slice aa n1.src.length ac), ndV n2 (.slice ba n2.src.length bc)]) rfl rfl rfl (fun w' hM => same1_fn n1 n2 aa ba ac bc hlx hly w' (hsx.ext hM.ext) (hsy.ext hM.ext)) ?_)
 cases hq : eqNd n1 n2 with
 | true =>
  refine hwNB ?_
  exact HX.again (k + 1) ⟨hlt, hst.1 hq⟩ (by show l.length - (k + 1) < l.length - k; omega) esA (by repeat (first | exact Hs.nil _ | (refine Hs.cons pickA ?_)))
 | false =>
  refine hwNB ?_
  exact HX.ret1 rfl rfl fun w' hM => ⟨by rw [hst.2 hq], hM.ext⟩
theorem isSame_fn {v u g h : Value} {l m : List Nd} {D F : List ByteArray} {U V : Nat → Value} (hl : l.length ≤ 400000) (hm : m.length ≤ 400000) (hls : ∀ i, i < l.length → (ndAt l i).src.length ≤ 1000000) (hms : ∀ i, i < m.length → (ndAt m i).src.length ≤ 1000000) (hD : D.length ≤ 1000000) (hF : F.length ≤ 1000000) (w : World) (hR : RdN w v l U) (hS : RdN w u m V) (hG : Rd w g (strs D)) (hH : Rd w h (strs F)) :
  Fn Tryz.prog 71 #[.agg #[v, g], .agg #[u, h]] w fun u w' => u = .bool (eqNs l m && decide (D = F)) ∧ Ext w w' := by
 obtain ⟨a, c, rfl, hc, -⟩ := id hR.shape
 obtain ⟨a2, c2, rfl, hc2, -⟩ := id hS.shape
 obtain ⟨a3, c3, rfl, -⟩ := id hG
 obtain ⟨a4, c4, rfl, -⟩ := id hH
 refine enterH (l := [_, _]) rfl Tryz.ntmps71 rfl ?_
 refine hwNB ?_
 refine HL.one (H1.boxAgg (cs := [.slice a l.length c, .slice a3 (strs D).length c3]) rfl rfl (fun b1 => ?_))
 refine hwNB ?_
 refine HL.one (H1.boxAgg (cs := [.slice a2 m.length c2, .slice a4 (strs F).length c4]) rfl rfl (fun b2 => ?_))
 refine hwNB ?_
 refine HL.one (H1.callx (vs := [_, _, _]) rfl rfl (fun w' hM => equalN_fn hl hm hls hms w' (hR.ext hM.ext) (hS.ext hM.ext)) ?_)
 cases hq : eqNs l m with
 | false =>
  refine hwNB ?_
  exact HX.ret1 rfl rfl fun w' hM => ⟨rfl, hM.ext⟩
 | true =>
  refine hwNB ?_
  refine HL.one (H1.callx (vs := [_, _]) rfl rfl (fun w' hM => equalS_fn _ _ D F hD hF w' (hG.ext hM.ext) (hH.ext hM.ext)) ?_)
  refine hwNB ?_
  exact HX.ret1 rfl rfl fun w' hM => ⟨rfl, hM.ext⟩
theorem linRoot_fn {v g : Value} {l : List Nd} {D : List ByteArray} {U : Nat → Value} (hl : l.length ≤ 400000) (hls : ∀ i, i < l.length → (ndAt l i).src.length ≤ 1000000) (hD : D.length ≤ 1000000) (hDs : ∀ d ∈ D, d.size ≤ 1000) (w : World) (hG : RoundG w) (hR : RdN w v l U) (hS : Rd w g (strs D)) :
  Fn Tryz.prog 16 #[v, g] w fun u w' => u = (if okS l D = true then .tuple #[.string (rootP (l.zip D)), zv 0] else .tuple #[.string ⟨#[]⟩, zv 240]) ∧ Ext w w' := by
 obtain ⟨a, c, rfl, hc, -⟩ := id hR.shape
 obtain ⟨a3, c3, rfl, -⟩ := id hS
 refine enterH (l := [_, _]) rfl Tryz.ntmps16 rfl ?_
 refine hwNB ?_
 refine HL.build (cs := [.slice a l.length c, .slice a3 (strs D).length c3]) rfl rfl rfl ?_
 refine hwNB ?_
 refine HL.one (H1.alloc (cs := [.slice none 0 0, .slice none 0 0]) rfl rfl (fun b6 => ?_))
 refine hwNB ?_
 refine HL.one (H1.stAgg (cs := [.slice none 0 0, .slice none 0 0]) (vs := [.slice a l.length c, .slice a3 (strs D).length c3]) rfl rfl rfl (by intro v hv; simp only [List.mem_cons, List.not_mem_nil, or_false] at hv; rcases hv with rfl | rfl <;> rfl) rplA rfl ?_)
 refine hwNB ?_
 refine HL.one (H1.ldAgg (vs := [.slice a l.length c, .slice a3 (strs D).length c3]) rfl memA rfl (fun i v h => by rwa [Nat.zero_add]) rfl ?_)
 refine hwNB ?_
 refine HL.one (H1.callx (vs := [_]) rfl rfl (fun w' hM => stValid_fn hl hls hD (fun d hd => by have := hDs d hd; omega) w' (hR.ext hM.ext) (hS.ext hM.ext)) ?_)
 cases hq : okS l D with
 | false =>
  refine hwNB ?_
  exact HX.ret2 rfl rfl rfl fun w' hM => ⟨by rw [if_neg (by decide)], hM.ext⟩
 | true =>
  have hv := okS_valid hq
  have hf := okS_facts hq
  refine hwNB ?_
  refine HL.one (H1.ldAgg (vs := [.slice a l.length c, .slice a3 (strs D).length c3]) rfl memA rfl (fun i v h => by rwa [Nat.zero_add]) rfl ?_)
  refine hwNB ?_
  refine HL.one (H1.callx (vs := [_]) rfl rfl (fun w' hM => stRoot_fn hf.2.1 hv.len (fun i hi => nd_ok hv hi) hDs w' (hG.ext hM.ext) (hR.ext hM.ext) (hS.ext hM.ext)) ?_)
  refine hwNB ?_
  exact HX.ret2 rfl rfl rfl fun w' hM => ⟨by rw [if_pos rfl], hM.ext⟩
end Go.Sx
/-
 Regions whose order is open: loads of cells that stay as they are until an operation of the region that comes behind them.
-/
namespace Go.Sx
open Go
def AnyU (C : Array Bool → World → Prop) (P : Program) (ops : Array Oper) (Q : Post) : Nat → Array Bool → Act → World → Prop
 | 0, listed, a, w => C listed w ∧ Region.ready .any ops listed = [] ∧ Q .normal a w
 | fuel + 1, listed, a, w => C listed w ∧ (Region.ready .any ops listed = [] → Q .normal a w) ∧ ∀ i ∈ Region.ready .any ops listed, wpOpIn (FW none) 0 P ops Q i (AnyU C P ops Q fuel (listed.setIfInBounds i true)) a w
section
variable {C : Array Bool → World → Prop} {P : Program} {ops : Array Oper} {Q : Post}
theorem AnyU.is : ∀ {fuel : Nat} {listed : Array Bool} {a : Act} {w : World}, AnyU C P ops Q fuel listed a w → C listed w
 | 0, _, _, _, h => h.1
 | _ + 1, _, _, _, h => h.1
theorem anyU_in : ∀ (fuel : Nat) (listed : Array Bool) (a : Act) (w : World), AnyU C P ops Q fuel listed a w → wpAnyIn (FW none) 0 P .any ops Q fuel listed a w := by
 intro fuel
 induction fuel with
 | zero => intro listed a w h; exact h.2
 | succ fuel ih => intro listed a w h; exact ⟨h.2.1, fun j hj => wpOpIn_mono (fun a' w' h3 => ih _ a' w' h3) (h.2.2 j hj)⟩
theorem anyU_first {i : Nat} {oi : Oper} {v : Value} (Y : Act → Prop) (G : Array Bool → Prop) (hdn : ∀ listed w, C (listed.setIfInBounds i true) w → C listed w)
  (hG : ∀ listed j, G listed → i ∈ Region.ready .any ops listed → j ∈ Region.ready .any ops listed → j ≠ i → G (listed.setIfInBounds j true))
  (now : ∀ {K : Act → World → Prop} {a : Act} {w : World} {listed : Array Bool}, Y a → G listed → C listed w → K (a.put oi.dst v) w → wpOpIn (FW none) 0 P ops Q i K a w)
  (step : ∀ {j : Nat} {oj : Oper} {K : Act → World → Prop} {a : Act} {w : World}, ops[j]? = some oj → oi.apart ops oj = true → Y a → wpOpIn (FW none) 0 P ops Q j K (a.put oi.dst v) w → wpOpIn (FW none) 0 P ops Q j (fun a' w' => Y a' ∧ K (a'.put oi.dst v) w') a w) :
  ∀ (fuel : Nat) (listed : Array Bool) (a : Act) (w : World), (∀ (j : Nat) (oj : Oper), ops[j]? = some oj → j ≠ i → listed.getD j true = false → (∀ e ∈ oj.after, Region.binds .any e = true → e.on ≠ i) → oi.apart ops oj = true) →
   i ∈ Region.ready .any ops listed → Y a → G listed → AnyU C P ops Q fuel (listed.setIfInBounds i true) (a.put oi.dst v) w → AnyU C P ops Q (fuel + 1) listed a w := by
 intro fuel
 induction fuel with
 | zero =>
  intro listed a w _ hr hy hg h
  refine ⟨hdn _ _ h.is, fun e => (by rw [e] at hr; cases hr), fun j hj => ?_⟩
  by_cases hji : j = i
  ·subst hji; exact now hy hg (hdn _ _ h.is) h
  ·have h1 := ready_mono hj hji
   rw [h.2.1] at h1; cases h1
 | succ fuel ih =>
  intro listed a w hf hr hy hg h
  refine ⟨hdn _ _ h.is, fun e => (by rw [e] at hr; cases hr), fun j hj => ?_⟩
  by_cases hji : j = i
  ·subst hji; exact now hy hg (hdn _ _ h.is) h
  ·obtain ⟨hun, oj, hoj, hall⟩ := mem_ready.1 hj
   have hno : ∀ e ∈ oj.after, Region.binds .any e = true → e.on ≠ i := by
    intro e he hb e1
    have h1 := hall e he hb
    have h0 := (mem_ready.1 hr).1
    rw [e1] at h1
    rw [Array.getD_eq_getD_getElem?] at h0 h1
    cases hl : listed[i]? with
    | none => rw [hl] at h1; cases h1
    | some b => rw [hl] at h0 h1; simp only [Option.getD_some] at h0 h1; rw [h0] at h1; cases h1
   refine wpOpIn_mono (fun a' w' h3 => ?_) (step hoj (hf j oj hoj hji hun hno) hy (h.2.2 j (ready_mono hj hji)))
   refine ih (listed.setIfInBounds j true) a' w' (fun k ok hok hki hku hkn => ?_) (ready_mono hr (Ne.symm hji)) h3.1 (hG listed j hg hr hj hji) ?_
   ·by_cases e : j = k
    ·subst e; exact hf j ok hok hji hun hkn
    ·rw [getD_set_ne true e] at hku; exact hf k ok hok hki hku hkn
   ·rw [Array.setIfInBounds_comm _ _ hji]; exact h3.2
end
def CellsU (l : List (Nat × Addr × Value)) (listed : Array Bool) (w : World) : Prop := ∀ p ∈ l, listed.getD p.1 true = false → w.cell? p.2.1 = some p.2.2
def notU (l : List (Nat × Addr × Value)) (i : Nat) : Bool := l.all fun p => !Nat.beq p.1 i
def behindB (ol : List Oper) (s i : Nat) : Bool := match ol[s]? with
 | some o => o.after.toList.any fun e => Region.binds .any e && Nat.beq e.on i
 | none => false
theorem cellsU_dn {l : List (Nat × Addr × Value)} {i : Nat} (h : notU l i = true) (listed : Array Bool) (w : World) (hC : CellsU l (listed.setIfInBounds i true) w) : CellsU l listed w := fun p hp hl => by
 have h1 := List.all_eq_true.1 h p hp
 have h2 : ¬ i = p.1 := fun e => by
  subst e
  simp [Nat.beq_refl] at h1
 exact hC p hp (by rw [getD_set_ne true h2]; exact hl)
theorem unlisted_behind {ol : List Oper} {s i : Nat} (hb : behindB ol s i = true) {listed : Array Bool} {j : Nat} (hs : listed.getD s true = false) (hi : i ∈ Region.ready .any ol.toArray listed) (hj : j ∈ Region.ready .any ol.toArray listed) : (listed.setIfInBounds j true).getD s true = false := by
 have hne : ¬ j = s := fun e => by
  subst e
  obtain ⟨-, oj, hoj, hall⟩ := mem_ready.1 hj
  have hoj' : ol[j]? = some oj := by simpa using hoj
  unfold behindB at hb
  rw [hoj'] at hb
  obtain ⟨e, he, h2⟩ := List.any_eq_true.1 hb
  rw [Bool.and_eq_true] at h2
  have h3 := hall e (by simpa using he) h2.1
  have h4 : e.on = i := Nat.eq_of_beq_eq_true h2.2
  have h0 := (mem_ready.1 hi).1
  rw [h4] at h3
  rw [Array.getD_eq_getD_getElem?] at h0 h3
  cases hl : listed[i]? with
  | none => rw [hl] at h3; cases h3
  | some b => rw [hl] at h0 h3; simp only [Option.getD_some] at h0 h3; rw [h0] at h3; cases h3
 rw [getD_set_ne true hne]; exact hs
def HU (l : List (Nat × Addr × Value)) (P : Program) (N : Nat) (ds : List Deferred) (ol : List Oper) (fuel : Nat) (listed : Array Bool) (Q : Post) (E : Env) (w0 : World) (H : List Atom) : Prop :=
 ∀ w, Mm w0 H w → ∀ a, Rep N ds E a → AnyU (CellsU l) P ol.toArray Q fuel listed a w
def HV (l : List (Nat × Addr × Value)) (P : Program) (N : Nat) (ds : List Deferred) (ol : List Oper) (fuel : Nat) (listed : Array Bool) (i : Nat) (o : Oper) (Q : Post) (E : Env) (w0 : World) (H : List Atom) : Prop :=
 ∀ w, Mm w0 H w → ∀ a, Rep N ds E a → if Region.wanted o (yielded ol.toArray a.tmps) then o.wpIn (FW none) 0 P a w (AnyU (CellsU l) P ol.toArray Q fuel (listed.setIfInBounds i true)) Q
  else AnyU (CellsU l) P ol.toArray Q fuel (listed.setIfInBounds i true) (a.put o.dst undef) w
def AllU (l : List (Nat × Addr × Value)) (P : Program) (N : Nat) (ds : List Deferred) (ol : List Oper) (fuel : Nat) (listed : Array Bool) (Q : Post) (E : Env) (w0 : World) (H : List Atom) : List Nat → Prop
 | [] => True
 | i :: rs => (∃ o, ol[i]? = some o ∧ HV l P N ds ol fuel listed i o Q E w0 H) ∧ AllU l P N ds ol fuel listed Q E w0 H rs
def KeepU (l : List (Nat × Addr × Value)) (listed : Array Bool) (w0 : World) (H : List Atom) : Prop := ∀ w, Mm w0 H w → CellsU l listed w
section
variable {l : List (Nat × Addr × Value)} {w0 : World} {H : List Atom} {listed : Array Bool}
theorem KeepU.nil : KeepU [] listed w0 H := fun _ _ _ h => by cases h
theorem KeepU.cons {s : Nat} {ad : Addr} {v : Value} (h1 : ∀ w, Mm w0 H w → w.cell? ad = some v) (h : KeepU l listed w0 H) : KeepU ((s, ad, v) :: l) listed w0 H := fun w hM p hp hl => by
 rcases List.mem_cons.1 hp with rfl | hp
 ·exact h1 w hM
 ·exact h w hM p hp hl
theorem KeepU.skip {s : Nat} {ad : Addr} {v : Value} (h1 : listed.getD s true = true) (h : KeepU l listed w0 H) : KeepU ((s, ad, v) :: l) listed w0 H := fun w hM p hp hl => by
 rcases List.mem_cons.1 hp with rfl | hp
 ·rw [h1] at hl; cases hl
 ·exact h w hM p hp hl
theorem KeepU.blk {s b i : Nat} {v : Value} {cs : List Value} {e : TypeId} (hm : A.blk b cs e ∈ H) (hi : cs[i]? = some v) (h : KeepU l listed w0 H) : KeepU ((s, ⟨b, i, none⟩, v) :: l) listed w0 H := h.cons fun _ hM => (hM.blk hm).cell hi
theorem KeepU.grow {s b i c n sz : Nat} {v : Value} {vs : List Value} {e : TypeId} (hm : A.grow e sz (some ⟨b, 0, none⟩) c n vs ∈ H) (hi : vs[i]? = some v) (h : KeepU l listed w0 H) : KeepU ((s, ⟨b, i, none⟩, v) :: l) listed w0 H := h.cons fun _ hM => ownsRow_cell (hM.own hm) hi
theorem KeepU.base {s : Nat} {ad : Addr} {v : Value} (hc : w0.cell? ad = some v) (h : KeepU l listed w0 H) : KeepU ((s, ad, v) :: l) listed w0 H := h.cons fun _ hM => cell_ext hM.ext hc
variable {P : Program} {r : Option Nat} {N : Nat} {ds : List Deferred} {ol : List Oper} {Q : Post} {E : Env} {fuel : Nat} {ty : TypeId} {pos : String} {af : Array Edge}
theorem kU {p : Nat × Addr × Value} {l : List (Nat × Addr × Value)} {listed : Array Bool} {w0 : World} {H : List Atom} (h : KeepU l listed w0 H) (f : KeepU l listed w0 H → KeepU (p :: l) listed w0 H := by intro hkU; first | exact KeepU.blk (by (repeat (first | exact List.Mem.head _ | apply List.Mem.tail)); done) rfl hkU | exact KeepU.grow (by (repeat (first | exact List.Mem.head _ | apply List.Mem.tail)); done) (by assumption) hkU | exact KeepU.base (by assumption) hkU) : KeepU (p :: l) listed w0 H := f h
theorem HC.anyU [hm : Mixed P] {id : Nat} {ol : List Oper} (l : List (Nat × Addr × Value)) (hf : ol.length = fuel) (h : HU l P N ds ol fuel (Array.replicate ol.length false) Q E w0 H) : HC P none N ds (.region id ol.toArray true) Q E w0 H :=
 HC.any hf fun w hM a ha => anyU_in _ _ _ _ (h w hM a ha)
theorem HU.pa [hq : QPanic Q] {d : Nat} {op : Op} {v : Value} (i : Nat) (ho : ol[i]? = some ⟨some d, op, ty, pos, af, none⟩) (h : HU l P N ds ol fuel (listed.setIfInBounds i true) Q ((d, v) :: E) w0 H)
  (hp : POp P N ds E op ty v := by exact popA)
  (hs : (Region.noSelect ol.toArray && Region.free .any ol.toArray listed i && (Region.ready .any ol.toArray listed).contains i) = true := by kernel_rfl)
  (hn : notU l i = true := by exact rfl)
  (hi : callsB op = false := by exact rfl)
  (hd : Nat.blt d N = true := by exact rfl) : HU l P N ds ol (fuel + 1) listed Q E w0 H := fun w hM a ha => by
 simp only [Bool.and_eq_true] at hs
 have ho' : ol.toArray[i]? = some ⟨some d, op, ty, pos, af, none⟩ := by simpa using ho
 have hyf : YieldsFenced P ol.toArray ⟨some d, op, ty, pos, af, none⟩ v a := ⟨.inl ⟨rfl, fun w => hp a ha _ _ _ _ _⟩, fun w => by
  unfold Oper.about
  cases op with
  | call c =>
   obtain ⟨cal, args, ats⟩ := c
   cases cal with
   | builtin b => simp [resolve, Target.leads]
   | value f => cases hi
   | invoke f m => cases hi
  | _ => rfl⟩
 exact anyU_first (YieldsFenced P ol.toArray ⟨some d, op, ty, pos, af, none⟩ v) (fun _ => True) (cellsU_dn hn) (fun _ _ _ _ _ _ => trivial) (fun hy _ _ hk => hy.wpOpIn rfl ho' hk)
  (fun hj hap hy h => wpOpIn_put rfl hj hap (fun cs b => Region.noSelect_spec hs.1.1 i _ cs b ho') (fun cs b => Region.noSelect_spec hs.1.1 _ _ cs b hj) (fun c a w => hq.is c a _ _ w) hy h) fuel listed a w
  (Region.free_spec ho' hs.1.2) (by simpa using hs.2) hyf trivial (h w hM _ (ha.put hd v))
theorem HU.ld [hq : QPanic Q] {d s : Nat} {t : TypeId} {x : Operand} {ad : Addr} {v : Value} [hat : ATy P t false] (i : Nat) (ho : ol[i]? = some ⟨some d, .load t x, ty, pos, af, none⟩) (hx : Env.ev E x = some (.pointer (some ad))) (hc : (s, ad, v) ∈ l)
  (h : HU l P N ds ol fuel (listed.setIfInBounds i true) Q ((d, v) :: E) w0 H)
  (hb : (behindB ol s i && !listed.getD s true) = true := by kernel_rfl)
  (hne : (match x with | .tmp t => !(Nat.beq t d) | _ => true) = true := by exact rfl)
  (hs : (Region.noSelect ol.toArray && Region.free .any ol.toArray listed i && (Region.ready .any ol.toArray listed).contains i) = true := by kernel_rfl)
  (hn : notU l i = true := by exact rfl)
  (hd : Nat.blt d N = true := by exact rfl) : HU l P N ds ol (fuel + 1) listed Q E w0 H := fun w hM a ha => by
 simp only [Bool.and_eq_true] at hs
 rw [Bool.and_eq_true] at hb
 have ho' : ol.toArray[i]? = some ⟨some d, .load t x, ty, pos, af, none⟩ := by simpa using ho
 have hxd : ∀ d', (some d : Option Nat) = some d' → x ≠ .tmp d' := fun d' hd' e => by cases hd'; subst e; simp at hne
 refine anyU_first (oi := ⟨some d, .load t x, ty, pos, af, none⟩) (fun a' => a'.eval x = a.eval x) (fun listed => listed.getD s true = false) (cellsU_dn hn) (fun listed j hg hi hj hji => unlisted_behind hb.1 hg hi hj) (fun {K a' w' listed'} hy hg hC hk => ?_)
  (fun {j oj K a' w'} hj hap hy h => wpOpIn_mono (fun a'' w'' h3 => ⟨h3.1.trans hy, h3.2⟩) (op_swap rfl rfl hxd hj hap (fun cs b => Region.noSelect_spec hs.1.1 _ _ cs b hj) (fun c a w => hq.is c a _ _ w) h)) fuel listed a w
  (Region.free_spec ho' hs.1.2) (by simpa using hs.2) rfl (by simpa using hb.2) (h w hM _ (ha.put hd v))
 unfold wpOpIn
 rw [ho']
 dsimp only
 rw [if_pos (by simp [Region.wanted])]
 refine ⟨fun _ _ => trivial, ?_⟩
 have h1 : a'.eval x = .pointer (some ad) := hy.trans (ha.ev hx)
 have h2 := hC _ hc hg
 have hrun : (execOp a'.eval ⟨some d, .load t x, ty, pos, af, none⟩).run P w' = .ok (.value v) w' := by
  simp only [execOp, h1, Instr.loadAt, Instr.sureAddr, loadVar, Sem.run_bind, Sem.run_pure]
  simp [run_isAgg, h2]
 rw [semAt_of rfl, hrun]
 exact hk
theorem HU.done (hk : KeepU l listed w0 H) (hr : Region.ready .any ol.toArray listed = []) (h : HX N ds .normal Q E w0 H) : HU l P N ds ol fuel listed Q E w0 H := fun w hM a ha => by
 cases fuel with
 | zero => exact ⟨hk w hM, hr, h w hM a ha⟩
 | succ fuel => exact ⟨hk w hM, fun _ => h w hM a ha, fun i hi => by rw [hr] at hi; cases hi⟩
theorem HU.all (hk : KeepU l listed w0 H) (rs : List Nat) (hr : Region.ready .any ol.toArray listed = rs) (hne : rs.isEmpty = false) (h : AllU l P N ds ol fuel listed Q E w0 H rs) : HU l P N ds ol (fuel + 1) listed Q E w0 H := fun w hM a ha => by
 refine ⟨hk w hM, fun e => (by rw [hr] at e; subst e; cases hne), ?_⟩
 rw [hr]
 clear hr hne
 induction rs with
 | nil => intro i hi; cases hi
 | cons i rs ih =>
  intro j hj
  rcases List.mem_cons.1 hj with rfl | hj
  ·obtain ⟨o, ho, h1⟩ := h.1
   have ho' : ol.toArray[j]? = some o := by simpa using ho
   unfold wpOpIn
   rw [ho']
   have h2 := h1 w hM a ha
   dsimp only
   split
   ·rename_i hw; rw [if_pos hw] at h2; exact h2
   ·rename_i hw; rw [if_neg hw] at h2; exact ⟨fun _ _ => trivial, h2⟩
  ·exact ih h.2 j hj
theorem HU.fold (h : HU l P N ds ol fuel listed Q E w0 H) : HN N ds (AnyU (CellsU l) P ol.toArray Q fuel listed) E w0 H := fun w hM a ha => h w hM a ha
theorem HV.one {op : Op} {d : Option Nat} {i : Nat} (h : H1 P none N ds (AnyU (CellsU l) P ol.toArray Q fuel (listed.setIfInBounds i true)) ⟨d, op, ty, pos, af, none⟩ Q E w0 H) : HV l P N ds ol fuel listed i ⟨d, op, ty, pos, af, none⟩ Q E w0 H := fun w hM a ha => by
 simp only [Region.wanted, if_true]
 exact h w hM a ha
end
end Go.Sx
/- Chapter 24: the two parts of a state: the walk. -/
namespace Go.Sx
open Go Go.Proofs Go.RowKit
abbrev NdZ : Type := Nd × Option Addr × Nat
def vZ (x : NdZ) : Value := .slice x.2.1 x.1.src.length x.2.2
def ndsV (z : List NdZ) : List Value := z.flatMap fun x => ndC x.1 (vZ x)
def rowsA (z : List NdZ) : List Atom := z.map fun x => A.grow 3 1 x.2.1 x.2.2 x.1.src.length (ints x.1.src)
theorem rowsA_snoc (z : List NdZ) (x : NdZ) : rowsA (z ++ [x]) = rowsA z ++ [A.grow 3 1 x.2.1 x.2.2 x.1.src.length (ints x.1.src)] := by unfold rowsA; rw [List.map_append]; rfl
theorem ndsV_snoc (z : List NdZ) (x : NdZ) : ndsV (z ++ [x]) = ndsV z ++ ndC x.1 (vZ x) := by unfold ndsV; rw [List.flatMap_append]; simp
theorem ndsV_get : ∀ {z : List NdZ} {i : Nat} {x : NdZ}, z[i]? = some x → ∀ {j : Nat}, j < 4 → (ndsV z)[i * 4 + j]? = (ndC x.1 (vZ x))[j]?
 | [], _, _, h, _, _ => by simp at h
 | y :: z, 0, x, h, j, hj => by
  cases h
  have : ndsV (y :: z) = ndC y.1 (vZ y) ++ ndsV z := rfl
  rw [this, Nat.zero_mul, Nat.zero_add, List.getElem?_append_left hj]
 | y :: z, i + 1, x, h, j, hj => by
  have : ndsV (y :: z) = ndC y.1 (vZ y) ++ ndsV z := rfl
  have hl : (ndC y.1 (vZ y)).length = 4 := rfl
  rw [this, List.getElem?_append_right (by rw [hl]; omega), hl, show (i + 1) * 4 + j - 4 = i * 4 + j by omega]
  exact ndsV_get (by simpa using h) hj
def ndsZ (z : List NdZ) : List Nd := z.map Prod.fst
def adrZ (z : List NdZ) (i : Nat) : Value := vZ (z.getD i default)
theorem ndsZ_len (z : List NdZ) : (ndsZ z).length = z.length := List.length_map ..
theorem Mm.rdN {w0 w : World} {H : List Atom} {a : Option Addr} {c : Nat} {z : List NdZ} (hM : Mm w0 H w) (h1 : A.grow 31 4 a c z.length (ndsV z) ∈ H) (h2 : A.all (rowsA z) ∈ H) : RdN w (.slice a z.length c) (ndsZ z) (adrZ z) := by
 have hown := hM.own h1
 have hall := hM.all _ h2
 have hat : ∀ i, i < z.length → z[i]? = some (z.getD i default) := fun i hi => by simp [hi]
 have hnd : ∀ i, i < z.length → ndAt (ndsZ z) i = (z.getD i default).1 := fun i hi => by unfold ndAt ndsZ; simp [hi]
 refine ⟨⟨a, c, by rw [ndsZ_len], ?_, ?_⟩, fun i hi => ?_⟩
 ·rw [ndsZ_len]
  rcases hown.2 with ⟨-, h0⟩ | ⟨g, cap, cur, hv, -, -, hnc, -⟩
  ·omega
  ·cases hv; exact hnc
 ·rcases Nat.eq_zero_or_pos z.length with h0 | h0
  ·exact .inl (by rw [List.length_eq_zero_iff.1 h0]; rfl)
  ·rcases own_shape hown with ⟨a', c', e, h⟩
   cases e
   rcases h with h | ⟨b, rfl⟩
   ·omega
   ·refine .inr ⟨b, 0, rfl, fun i hi j u hu => ?_⟩
    rw [ndsZ_len] at hi
    rw [hnd i hi] at hu
    have hj : j < 4 := (List.getElem?_eq_some_iff.1 hu).1
    rw [Nat.zero_add]
    exact ownsRow_cell hown (by rw [ndsV_get (hat i hi) hj]; exact hu)
 ·rw [ndsZ_len] at hi
  rw [hnd i hi]
  unfold adrZ vZ
  have := hall (A.grow 3 1 (z.getD i default).2.1 (z.getD i default).2.2 (z.getD i default).1.src.length (ints (z.getD i default).1.src)) (List.mem_map.2 ⟨_, List.mem_of_getElem? (hat i hi), rfl⟩)
  exact Rd.of_owns this
def prK (l : List Nd) (D : List ByteArray) (g : List Int) (b : Bool) (k : Nat) : List (Nd × ByteArray) := ((l.zip D).take k).filter fun q => decide (q.1.id ∈ g) == b
theorem prK_yes {l : List Nd} {D : List ByteArray} (h : l.length = D.length) {g : List Int} {b : Bool} {k : Nat} (hk : k < l.length) (hq : (decide ((ndAt l k).id ∈ g) == b) = true) : prK l D g b (k + 1) = prK l D g b k ++ [(ndAt l k, getB D k)] := by
 unfold prK
 rw [zip_take h hk, List.filter_append]
 congr 1
 rw [List.filter_cons]
 dsimp only
 rw [if_pos hq]; rfl
theorem prK_no {l : List Nd} {D : List ByteArray} (h : l.length = D.length) {g : List Int} {b : Bool} {k : Nat} (hk : k < l.length) (hq : (decide ((ndAt l k).id ∈ g) == b) = false) : prK l D g b (k + 1) = prK l D g b k := by
 unfold prK
 rw [zip_take h hk, List.filter_append, List.filter_cons]
 dsimp only
 rw [if_neg (by rw [hq]; decide), List.filter_nil, List.append_nil]
theorem prK_all {l : List Nd} {D : List ByteArray} (h : l.length = D.length) (g : List Int) (b : Bool) : prK l D g b l.length = prN l D g b := by
 unfold prK prN
 rw [List.take_of_length_le (by rw [List.length_zip]; omega)]
theorem prK_len (l : List Nd) (D : List ByteArray) (g : List Int) (b : Bool) (k : Nat) : (prK l D g b k).length ≤ k := by
 unfold prK
 refine Nat.le_trans (List.length_filter_le _ _) ?_
 rw [List.length_take]; omega
attribute [local irreducible] WC WL WX POp Then Again Fn NX W1 WA WO QL RP RA Yld LoopAt HC HL HX HN H1 HA HO HQ HB HP A.blk A.grow A.rd A.obj A.mp AgainH CutH
attribute [local irreducible] A.mq A.mit HU HV A.all
set_option maxHeartbeats 2000000 in
theorem part_fn {v g : Value} {l : List Nd} {D : List ByteArray} {U : Nat → Value} {bg : Nat} {m : List Int} (b : Bool) (hlD : l.length = D.length) (hl : l.length ≤ 400000) (hls : ∀ i, i < l.length → (ndAt l i).src.length ≤ 1000000) (w : World) (hR : RdN w v l U) (hS : Rd w g (strs D)) (hm : SetW w bg m) :
  Fn Tryz.prog 53 #[.agg #[v, g], .map (some bg), .bool b] w fun u w' => ∃ z : List NdZ × (Option Addr × Nat) × (Option Addr × Nat), ndsZ z.1 = ndsP (prN l D m b) ∧ u = .agg #[.slice z.2.1.1 z.1.length z.2.1.2, .slice z.2.2.1 z.1.length z.2.2.2] ∧
   Mm w [A.grow 31 4 z.2.1.1 z.2.1.2 z.1.length (ndsV z.1), A.grow 9 1 z.2.2.1 z.2.2.2 z.1.length (strs (digP (prN l D m b))), A.all (rowsA z.1)] w' := by
 obtain ⟨a, c, rfl, hc, -⟩ := id hR.shape
 obtain ⟨a2, c2, rfl, hc2⟩ : ∃ a c, g = .slice a D.length c ∧ D.length ≤ c := by
  obtain ⟨a, c, h1, h2, -⟩ := id hS
  rw [strs_len] at h1 h2
  exact ⟨a, c, h1, h2⟩
 refine enterH (l := [_, _, _]) rfl Tryz.ntmps53 rfl ?_
 refine HC.grow0 31 4 ?_
 refine HC.grow0 9 1 ?_
 refine HC.conv (H2 := A.all (rowsA []) :: [A.grow 9 1 none 0 0 [], A.grow 31 4 none 0 0 []]) (fun w h => h.allNil) ?_
 refine hwNB ?_
 refine HL.one (H1.boxAgg (cs := [.slice a l.length c, .slice a2 D.length c2]) rfl rfl (fun b3 => ?_))
 refine hwNB ?_
 refine HL.one (H1.alloc (cs := [.slice none 0 0, .slice none 0 0]) rfl rfl (fun b6 => ?_))
 refine hwNB ?_
 refine HC.loop (α := Nat × List NdZ × (Option Addr × Nat) × (Option Addr × Nat)) (fun q => [(1, .map (some bg)), (2, .bool b), (3, .pointer (some ⟨b3, 0, none⟩)), (6, .pointer (some ⟨b6, 0, none⟩)), (10, .slice a l.length c), (11, zv (l.length : Int)), (12, zv (q.1 : Int))])
  (fun q => [A.blk b3 [.slice a l.length c, .slice a2 D.length c2] 84, A.blk b6 [.slice q.2.2.1.1 q.2.1.length q.2.2.1.2, .slice q.2.2.2.1 q.2.1.length q.2.2.2.2] 84, A.grow 31 4 q.2.2.1.1 q.2.2.1.2 q.2.1.length (ndsV q.2.1), A.grow 9 1 q.2.2.2.1 q.2.2.2.2 q.2.1.length (strs (digP (prK l D m b q.1))), A.all (rowsA q.2.1)])
  (fun q => q.1 ≤ l.length ∧ ndsZ q.2.1 = ndsP (prK l D m b q.1)) (fun q => l.length - q.1) (0, [], (none, 0), (none, 0)) ⟨Nat.zero_le _, rfl⟩ esA (by repeat (first | exact Hs.nil _ | (refine Hs.cons pickA ?_))) ?_
 rintro ⟨k, z, ⟨an, cn⟩, ad, cd⟩ ⟨hk, hz⟩
 dsimp only at hk hz ⊢
 have hzl := congrArg List.length hz
 rw [ndsZ_len, ndsP_len] at hzl
 have hkl := prK_len l D m b k
 by_cases hlt : k < l.length
 rotate_left
 ·have hn : ¬ ((k : Nat) : Int) < (l.length : Int) := by omega
  obtain rfl : k = l.length := by omega
  rw [prK_all hlD] at hz ⊢
  refine hwNB ?_
  refine HL.one (H1.ldAgg (b := b6) (vs := [.slice an z.length cn, .slice ad z.length cd]) rfl memA rfl (fun i v h => by rwa [Nat.zero_add]) rfl ?_)
  refine hwNB ?_
  refine HL.one (H1.stAgg (b := b6) (cs := [.slice an z.length cn, .slice ad z.length cd]) (vs := [.slice an z.length cn, .slice ad z.length cd]) rfl rfl rfl (by intro v hv; simp only [List.mem_cons, List.not_mem_nil, or_false] at hv; rcases hv with rfl | rfl <;> rfl) rplA rfl ?_)
  refine hwNB ?_
  exact HX.retc1 (b := b6) (cs := [.slice an z.length cn, .slice ad z.length cd]) rfl rfl memA rfl fun w' hM => ⟨(z, (an, cn), ad, cd), hz, rfl, hM.sub (by repeat (first | exact Hs.nil _ | (refine Hs.cons pickA ?_)))⟩
 have hn : ((k : Nat) : Int) < (l.length : Int) := by omega
 obtain ⟨b0, off0, rfl, hb⟩ := hR.cell hlt
 have hx := hb k hlt
 have hsx := hR.src k hlt
 have hlx := hls k hlt
 obtain ⟨bd, offd, rfl⟩ := rd_addr hS (j := k) (by omega)
 have hdc := hS.cell (strs_getB (l := D) (i := k) (by omega))
 have hyes := prK_yes hlD (g := m) (b := b) hlt
 have hno := prK_no hlD (g := m) (b := b) hlt
 have hUk := rd_one hsx
 generalize ndAt l k = n at hx hsx hlx hyes hno
 generalize getB D k = d at hdc hyes
 generalize U k = u at hx hsx hUk
 refine hwNB ?_
 refine HL.one (H1.ldAggw (b := b0) (off := off0 + k * 4) (vs := ndC n u) rfl rfl (fun w' hM j u hu => cell_ext hM.ext (hx j u hu)) rfl ?_)
 refine hwNB ?_
 refine HL.one (H1.alloc (cs := ndC ⟨0, 0, 0, []⟩ (.slice none 0 0)) rfl rfl (fun b8 => ?_))
 refine hwNB ?_
 refine HL.one (H1.stAgg (b := b8) (cs := ndC ⟨0, 0, 0, []⟩ (.slice none 0 0)) (vs := ndC n u) rfl rfl rfl (nd_one hUk) rplA rfl ?_)
 refine hwNB ?_
 refine HL.one (H1.callx (vs := [_, _]) rfl rfl (fun w' hM => setHas_fn n.id w' (hm.ext hM.ext)) ?_)
 cases hq : (decide (n.id ∈ m) == b) with
 | false =>
  have hpk := hno hq
  rw [← hpk] at hz ⊢
  refine hwNB ?_
  exact HX.again (k + 1, z, (an, cn), ad, cd) ⟨hlt, hz⟩ (by show l.length - (k + 1) < l.length - k; omega) esA (by repeat (first | exact Hs.nil _ | (refine Hs.cons pickA ?_)))
 | true =>
  have hpk := hyes hq
  have hdg : strs (digP (prK l D m b k)) ++ [.string d] = strs (digP (prK l D m b (k + 1))) := by rw [hpk, strs_snoc]; unfold digP; rw [List.map_append]; rfl
  refine hwNB ?_
  refine HL.one (H1.callz (vs := [u]) rfl rfl (fun w' hM => clone_fn u n.src hlx w' (hsx.ext hM.ext)) ?_)
  rintro ⟨az, cz⟩ -
  dsimp only
  refine hwNB ?_
  refine HL.one (H1.st (b := b8) (i := 3) rfl rfl (by intro _ h; cases h) (by intro _ h; cases h) rplA (by show 3 < 4; decide) ?_)
  rw [show (ndC n u).set 3 (.slice az n.src.length cz) = ndC n (vZ (n, az, cz)) from rfl]
  refine hbDE ?_
  have hnv : ndsV z ++ ndC n (vZ (n, az, cz)) = ndsV (z ++ [(n, az, cz)]) := (ndsV_snoc z (n, az, cz)).symm
  have hzn : ndsZ (z ++ [(n, az, cz)]) = ndsP (prK l D m b (k + 1)) := by
   rw [hpk]
   unfold ndsZ ndsP at hz ⊢
   rw [List.map_append, List.map_append, hz]; rfl
  have hz1 : (z ++ [(n, az, cz)]).length = z.length + 1 := by rw [List.length_append]; rfl
  refine HC.anyU ([(15, ⟨b6, 0, none⟩, .slice an z.length cn), (17, ⟨b6, 1, none⟩, .slice ad z.length cd), (17, ⟨b3, 1, none⟩, .slice (some ⟨bd, offd, none⟩) D.length c2), (17, ⟨bd, offd + k, none⟩, .string d)]) rfl ?_
  refine HU.pa 0 rfl ?_
  refine HU.ld 1 rfl rfl memD ?_
  refine HU.pa 5 rfl ?_
  refine HU.ld 6 rfl rfl memD ?_
  refine HU.pa 7 rfl ?_
  refine HU.ld 8 rfl rfl memD ?_
  refine HU.pa 9 rfl ?_
  refine HU.pa 10 rfl ?_
  refine HU.ld 11 rfl rfl memD ?_
  refine HU.all (kU (kU (kU (kU KeepU.nil)))) [2, 12] (by kernel_rfl) rfl ⟨⟨_, rfl, ?_⟩, ⟨_, rfl, ?_⟩, trivial⟩
  ·refine HV.one ?_
   refine H1.ldAgg (b := b8) (vs := ndC n (vZ (n, az, cz))) rfl memA rfl (fun i v hv => by rw [Nat.zero_add]; exact hv) rfl ?_
   apply HU.fold
   refine HU.all (kU (kU (kU (kU KeepU.nil)))) [3, 12] (by kernel_rfl) rfl ⟨⟨_, rfl, ?_⟩, ⟨_, rfl, ?_⟩, trivial⟩
   ·refine HV.one ?_
    refine H1.lit (cs := ndC n (vZ (n, az, cz))) rfl rfl rfl rfl rfl rfl (fun b9 => ?_)
    apply HU.fold
    refine HU.all (kU (kU (kU (kU KeepU.nil)))) [4, 12] (by kernel_rfl) rfl ⟨⟨_, rfl, ?_⟩, ⟨_, rfl, ?_⟩, trivial⟩
    ·refine HV.one ?_
     refine H1.app (sz := 4) (m := 1) (news := ndC n (vZ (n, az, cz))) rfl (by decide) rfl rfl (fun _ _ => by first | ((repeat (first | with_reducible exact Rpl.here | with_reducible apply Rpl.there)); done) | (repeat (first | exact Rpl.here | apply Rpl.there))) rfl (fun w' hM j u hj => by rw [add_lit, Nat.zero_add]; exact (hM.blk (b := b9) memA).cell hj) (nd_one rfl) (by omega) (by decide) rfl (fun an2 cn2 _ => ?_)
     rw [hnv]
     apply HU.fold
     refine HU.pa 14 rfl ?_
     refine HU.all (kU (kU (kU (kU KeepU.nil)))) [12] (by kernel_rfl) rfl ⟨⟨_, rfl, ?_⟩, trivial⟩
     refine HV.one ?_
     refine H1.lit (cs := [.string d]) rfl rfl rfl rfl rfl rfl (fun b10 => ?_)
     apply HU.fold
     refine HU.all (kU (kU (kU (kU KeepU.nil)))) [13] (by kernel_rfl) rfl ⟨⟨_, rfl, ?_⟩, trivial⟩
     refine HV.one ?_
     refine H1.app1 (u := .string d) rfl rfl (fun _ _ => by first | ((repeat (first | with_reducible exact Rpl.here | with_reducible apply Rpl.there)); done) | (repeat (first | exact Rpl.here | apply Rpl.there))) memA rfl rfl (by omega) rfl rfl (fun ad2 cd2 => ?_)
     rw [hdg]
     apply HU.fold
     refine HU.all (kU (kU (kU (kU KeepU.nil)))) [15] (by kernel_rfl) rfl ⟨⟨_, rfl, ?_⟩, trivial⟩
     refine HV.one ?_
     refine H1.st (b := b6) (i := 0) rfl rfl (by intro _ h; cases h) (by intro _ h; cases h) rplA (by show 0 < 2; decide) ?_
     apply HU.fold
     refine HU.pa 16 rfl ?_
     refine HU.all (KeepU.skip (by kernel_rfl) (kU (kU (kU KeepU.nil)))) [17] (by kernel_rfl) rfl ⟨⟨_, rfl, ?_⟩, trivial⟩
     refine HV.one ?_
     refine H1.st (b := b6) (i := 1) rfl rfl (by intro _ h; cases h) (by intro _ h; cases h) rplA (by show 1 < 2; decide) ?_
     apply HU.fold
     refine HU.done (KeepU.skip (by kernel_rfl) (KeepU.skip (by kernel_rfl) (KeepU.skip (by kernel_rfl) (KeepU.skip (by kernel_rfl) KeepU.nil)))) (by kernel_rfl) ?_
     refine HX.conv (H2 := A.all (rowsA (z ++ [(n, az, cz)])) :: [A.blk b3 [.slice (some ⟨b0, off0, none⟩) l.length c, .slice (some ⟨bd, offd, none⟩) D.length c2] 84, A.blk b6 [.slice an2 (z.length + 1) cn2, .slice (some ⟨ad2, 0, none⟩) (z.length + 1) cd2] 84, A.grow 31 4 an2 cn2 (z.length + 1) (ndsV (z ++ [(n, az, cz)])), A.grow 9 1 (some ⟨ad2, 0, none⟩) cd2 (z.length + 1) (strs (digP (prK l D m b (k + 1))))]) (fun w h => by
      rw [rowsA_snoc]
      exact Mm.allAdd (h.sub (Hs.cons (a := A.grow 3 1 az cz n.src.length (ints n.src)) pickA (Hs.cons (a := A.all (rowsA z)) pickA (by repeat (first | exact Hs.nil _ | (refine Hs.cons pickA ?_))))))) ?_
     refine hwNB ?_
     exact HX.again (k + 1, z ++ [(n, az, cz)], (an2, cn2), some ⟨ad2, 0, none⟩, cd2) ⟨hlt, hzn⟩ (by show l.length - (k + 1) < l.length - k; omega) esA (by dsimp only; rw [hz1]; repeat (first | exact Hs.nil _ | (refine Hs.cons pickA ?_)))
    ·refine HV.one ?_
     refine H1.lit (cs := [.string d]) rfl rfl rfl rfl rfl rfl (fun b10 => ?_)
     apply HU.fold
     refine HU.all (kU (kU (kU (kU KeepU.nil)))) [4] (by kernel_rfl) rfl ⟨⟨_, rfl, ?_⟩, trivial⟩
     refine HV.one ?_
     refine H1.app (sz := 4) (m := 1) (news := ndC n (vZ (n, az, cz))) rfl (by decide) rfl rfl (fun _ _ => by first | ((repeat (first | with_reducible exact Rpl.here | with_reducible apply Rpl.there)); done) | (repeat (first | exact Rpl.here | apply Rpl.there))) rfl (fun w' hM j u hj => by rw [add_lit, Nat.zero_add]; exact (hM.blk (b := b9) memA).cell hj) (nd_one rfl) (by omega) (by decide) rfl (fun an2 cn2 _ => ?_)
     rw [hnv]
     apply HU.fold
     refine HU.pa 14 rfl ?_
     refine HU.all (kU (kU (kU (kU KeepU.nil)))) [13] (by kernel_rfl) rfl ⟨⟨_, rfl, ?_⟩, trivial⟩
     refine HV.one ?_
     refine H1.app1 (u := .string d) rfl rfl (fun _ _ => by first | ((repeat (first | with_reducible exact Rpl.here | with_reducible apply Rpl.there)); done) | (repeat (first | exact Rpl.here | apply Rpl.there))) memA rfl rfl (by omega) rfl rfl (fun ad2 cd2 => ?_)
     rw [hdg]
     apply HU.fold
     refine HU.all (kU (kU (kU (kU KeepU.nil)))) [15] (by kernel_rfl) rfl ⟨⟨_, rfl, ?_⟩, trivial⟩
     refine HV.one ?_
     refine H1.st (b := b6) (i := 0) rfl rfl (by intro _ h; cases h) (by intro _ h; cases h) rplA (by show 0 < 2; decide) ?_
     apply HU.fold
     refine HU.pa 16 rfl ?_
     refine HU.all (KeepU.skip (by kernel_rfl) (kU (kU (kU KeepU.nil)))) [17] (by kernel_rfl) rfl ⟨⟨_, rfl, ?_⟩, trivial⟩
     refine HV.one ?_
     refine H1.st (b := b6) (i := 1) rfl rfl (by intro _ h; cases h) (by intro _ h; cases h) rplA (by show 1 < 2; decide) ?_
     apply HU.fold
     refine HU.done (KeepU.skip (by kernel_rfl) (KeepU.skip (by kernel_rfl) (KeepU.skip (by kernel_rfl) (KeepU.skip (by kernel_rfl) KeepU.nil)))) (by kernel_rfl) ?_
     refine HX.conv (H2 := A.all (rowsA (z ++ [(n, az, cz)])) :: [A.blk b3 [.slice (some ⟨b0, off0, none⟩) l.length c, .slice (some ⟨bd, offd, none⟩) D.length c2] 84, A.blk b6 [.slice an2 (z.length + 1) cn2, .slice (some ⟨ad2, 0, none⟩) (z.length + 1) cd2] 84, A.grow 31 4 an2 cn2 (z.length + 1) (ndsV (z ++ [(n, az, cz)])), A.grow 9 1 (some ⟨ad2, 0, none⟩) cd2 (z.length + 1) (strs (digP (prK l D m b (k + 1))))]) (fun w h => by
      rw [rowsA_snoc]
      exact Mm.allAdd (h.sub (Hs.cons (a := A.grow 3 1 az cz n.src.length (ints n.src)) pickA (Hs.cons (a := A.all (rowsA z)) pickA (by repeat (first | exact Hs.nil _ | (refine Hs.cons pickA ?_))))))) ?_
     refine hwNB ?_
     exact HX.again (k + 1, z ++ [(n, az, cz)], (an2, cn2), some ⟨ad2, 0, none⟩, cd2) ⟨hlt, hzn⟩ (by show l.length - (k + 1) < l.length - k; omega) esA (by dsimp only; rw [hz1]; repeat (first | exact Hs.nil _ | (refine Hs.cons pickA ?_)))
   ·refine HV.one ?_
    refine H1.lit (cs := [.string d]) rfl rfl rfl rfl rfl rfl (fun b10 => ?_)
    apply HU.fold
    refine HU.all (kU (kU (kU (kU KeepU.nil)))) [3] (by kernel_rfl) rfl ⟨⟨_, rfl, ?_⟩, trivial⟩
    refine HV.one ?_
    refine H1.lit (cs := ndC n (vZ (n, az, cz))) rfl rfl rfl rfl rfl rfl (fun b9 => ?_)
    apply HU.fold
    refine HU.all (kU (kU (kU (kU KeepU.nil)))) [4] (by kernel_rfl) rfl ⟨⟨_, rfl, ?_⟩, trivial⟩
    refine HV.one ?_
    refine H1.app (sz := 4) (m := 1) (news := ndC n (vZ (n, az, cz))) rfl (by decide) rfl rfl (fun _ _ => by first | ((repeat (first | with_reducible exact Rpl.here | with_reducible apply Rpl.there)); done) | (repeat (first | exact Rpl.here | apply Rpl.there))) rfl (fun w' hM j u hj => by rw [add_lit, Nat.zero_add]; exact (hM.blk (b := b9) memA).cell hj) (nd_one rfl) (by omega) (by decide) rfl (fun an2 cn2 _ => ?_)
    rw [hnv]
    apply HU.fold
    refine HU.pa 14 rfl ?_
    refine HU.all (kU (kU (kU (kU KeepU.nil)))) [13] (by kernel_rfl) rfl ⟨⟨_, rfl, ?_⟩, trivial⟩
    refine HV.one ?_
    refine H1.app1 (u := .string d) rfl rfl (fun _ _ => by first | ((repeat (first | with_reducible exact Rpl.here | with_reducible apply Rpl.there)); done) | (repeat (first | exact Rpl.here | apply Rpl.there))) memA rfl rfl (by omega) rfl rfl (fun ad2 cd2 => ?_)
    rw [hdg]
    apply HU.fold
    refine HU.all (kU (kU (kU (kU KeepU.nil)))) [15] (by kernel_rfl) rfl ⟨⟨_, rfl, ?_⟩, trivial⟩
    refine HV.one ?_
    refine H1.st (b := b6) (i := 0) rfl rfl (by intro _ h; cases h) (by intro _ h; cases h) rplA (by show 0 < 2; decide) ?_
    apply HU.fold
    refine HU.pa 16 rfl ?_
    refine HU.all (KeepU.skip (by kernel_rfl) (kU (kU (kU KeepU.nil)))) [17] (by kernel_rfl) rfl ⟨⟨_, rfl, ?_⟩, trivial⟩
    refine HV.one ?_
    refine H1.st (b := b6) (i := 1) rfl rfl (by intro _ h; cases h) (by intro _ h; cases h) rplA (by show 1 < 2; decide) ?_
    apply HU.fold
    refine HU.done (KeepU.skip (by kernel_rfl) (KeepU.skip (by kernel_rfl) (KeepU.skip (by kernel_rfl) (KeepU.skip (by kernel_rfl) KeepU.nil)))) (by kernel_rfl) ?_
    refine HX.conv (H2 := A.all (rowsA (z ++ [(n, az, cz)])) :: [A.blk b3 [.slice (some ⟨b0, off0, none⟩) l.length c, .slice (some ⟨bd, offd, none⟩) D.length c2] 84, A.blk b6 [.slice an2 (z.length + 1) cn2, .slice (some ⟨ad2, 0, none⟩) (z.length + 1) cd2] 84, A.grow 31 4 an2 cn2 (z.length + 1) (ndsV (z ++ [(n, az, cz)])), A.grow 9 1 (some ⟨ad2, 0, none⟩) cd2 (z.length + 1) (strs (digP (prK l D m b (k + 1))))]) (fun w h => by
     rw [rowsA_snoc]
     exact Mm.allAdd (h.sub (Hs.cons (a := A.grow 3 1 az cz n.src.length (ints n.src)) pickA (Hs.cons (a := A.all (rowsA z)) pickA (by repeat (first | exact Hs.nil _ | (refine Hs.cons pickA ?_))))))) ?_
    refine hwNB ?_
    exact HX.again (k + 1, z ++ [(n, az, cz)], (an2, cn2), some ⟨ad2, 0, none⟩, cd2) ⟨hlt, hzn⟩ (by show l.length - (k + 1) < l.length - k; omega) esA (by dsimp only; rw [hz1]; repeat (first | exact Hs.nil _ | (refine Hs.cons pickA ?_)))
  ·refine HV.one ?_
   refine H1.lit (cs := [.string d]) rfl rfl rfl rfl rfl rfl (fun b10 => ?_)
   apply HU.fold
   refine HU.all (kU (kU (kU (kU KeepU.nil)))) [2] (by kernel_rfl) rfl ⟨⟨_, rfl, ?_⟩, trivial⟩
   refine HV.one ?_
   refine H1.ldAgg (b := b8) (vs := ndC n (vZ (n, az, cz))) rfl memA rfl (fun i v hv => by rw [Nat.zero_add]; exact hv) rfl ?_
   apply HU.fold
   refine HU.all (kU (kU (kU (kU KeepU.nil)))) [3] (by kernel_rfl) rfl ⟨⟨_, rfl, ?_⟩, trivial⟩
   refine HV.one ?_
   refine H1.lit (cs := ndC n (vZ (n, az, cz))) rfl rfl rfl rfl rfl rfl (fun b9 => ?_)
   apply HU.fold
   refine HU.all (kU (kU (kU (kU KeepU.nil)))) [4] (by kernel_rfl) rfl ⟨⟨_, rfl, ?_⟩, trivial⟩
   refine HV.one ?_
   refine H1.app (sz := 4) (m := 1) (news := ndC n (vZ (n, az, cz))) rfl (by decide) rfl rfl (fun _ _ => by first | ((repeat (first | with_reducible exact Rpl.here | with_reducible apply Rpl.there)); done) | (repeat (first | exact Rpl.here | apply Rpl.there))) rfl (fun w' hM j u hj => by rw [add_lit, Nat.zero_add]; exact (hM.blk (b := b9) memA).cell hj) (nd_one rfl) (by omega) (by decide) rfl (fun an2 cn2 _ => ?_)
   rw [hnv]
   apply HU.fold
   refine HU.pa 14 rfl ?_
   refine HU.all (kU (kU (kU (kU KeepU.nil)))) [13] (by kernel_rfl) rfl ⟨⟨_, rfl, ?_⟩, trivial⟩
   refine HV.one ?_
   refine H1.app1 (u := .string d) rfl rfl (fun _ _ => by first | ((repeat (first | with_reducible exact Rpl.here | with_reducible apply Rpl.there)); done) | (repeat (first | exact Rpl.here | apply Rpl.there))) memA rfl rfl (by omega) rfl rfl (fun ad2 cd2 => ?_)
   rw [hdg]
   apply HU.fold
   refine HU.all (kU (kU (kU (kU KeepU.nil)))) [15] (by kernel_rfl) rfl ⟨⟨_, rfl, ?_⟩, trivial⟩
   refine HV.one ?_
   refine H1.st (b := b6) (i := 0) rfl rfl (by intro _ h; cases h) (by intro _ h; cases h) rplA (by show 0 < 2; decide) ?_
   apply HU.fold
   refine HU.pa 16 rfl ?_
   refine HU.all (KeepU.skip (by kernel_rfl) (kU (kU (kU KeepU.nil)))) [17] (by kernel_rfl) rfl ⟨⟨_, rfl, ?_⟩, trivial⟩
   refine HV.one ?_
   refine H1.st (b := b6) (i := 1) rfl rfl (by intro _ h; cases h) (by intro _ h; cases h) rplA (by show 1 < 2; decide) ?_
   apply HU.fold
   refine HU.done (KeepU.skip (by kernel_rfl) (KeepU.skip (by kernel_rfl) (KeepU.skip (by kernel_rfl) (KeepU.skip (by kernel_rfl) KeepU.nil)))) (by kernel_rfl) ?_
   refine HX.conv (H2 := A.all (rowsA (z ++ [(n, az, cz)])) :: [A.blk b3 [.slice (some ⟨b0, off0, none⟩) l.length c, .slice (some ⟨bd, offd, none⟩) D.length c2] 84, A.blk b6 [.slice an2 (z.length + 1) cn2, .slice (some ⟨ad2, 0, none⟩) (z.length + 1) cd2] 84, A.grow 31 4 an2 cn2 (z.length + 1) (ndsV (z ++ [(n, az, cz)])), A.grow 9 1 (some ⟨ad2, 0, none⟩) cd2 (z.length + 1) (strs (digP (prK l D m b (k + 1))))]) (fun w h => by
    rw [rowsA_snoc]
    exact Mm.allAdd (h.sub (Hs.cons (a := A.grow 3 1 az cz n.src.length (ints n.src)) pickA (Hs.cons (a := A.all (rowsA z)) pickA (by repeat (first | exact Hs.nil _ | (refine Hs.cons pickA ?_))))))) ?_
   refine hwNB ?_
   exact HX.again (k + 1, z ++ [(n, az, cz)], (an2, cn2), some ⟨ad2, 0, none⟩, cd2) ⟨hlt, hzn⟩ (by show l.length - (k + 1) < l.length - k; omega) esA (by dsimp only; rw [hz1]; repeat (first | exact Hs.nil _ | (refine Hs.cons pickA ?_)))
end Go.Sx
/- Plain, chapter 21: which record prevails; what is in effect. -/
namespace Go.Sx
open Go
theorem less_irr : ∀ x : List UInt8, Op.bytesLess x x = false
 | [] => rfl
 | a :: x => by
  simp only [Op.bytesLess, Bool.or_eq_false_iff, Bool.and_eq_false_iff, decide_eq_false_iff_not]
  exact ⟨UInt8.lt_irrefl a, .inr (less_irr x)⟩
theorem less_tri : ∀ x y : List UInt8, x ≠ y → Op.bytesLess x y = true ∨ Op.bytesLess y x = true
 | [], [], h => absurd rfl h
 | [], _ :: _, _ => .inl rfl
 | _ :: _, [], _ => .inr rfl
 | a :: x, b :: y, h => by
  simp only [Op.bytesLess, Bool.or_eq_true, Bool.and_eq_true, decide_eq_true_eq, beq_iff_eq]
  by_cases e : a = b
  ·subst e
   rcases less_tri x y (fun e => h (by rw [e])) with h1 | h1
   ·exact .inl (.inr ⟨rfl, h1⟩)
   ·exact .inr (.inr ⟨rfl, h1⟩)
  ·rcases UInt8.lt_or_lt_of_ne e with h1 | h1
   ·exact .inl (.inl h1)
   ·exact .inr (.inl h1)
theorem less_trans : ∀ x y z : List UInt8, Op.bytesLess x y = true → Op.bytesLess y z = true → Op.bytesLess x z = true
 | _, [], _, h, _ => by simp [Op.bytesLess] at h
 | _, _ :: _, [], _, h => by simp [Op.bytesLess] at h
 | [], _ :: _, _ :: _, _, _ => rfl
 | a :: x, b :: y, c :: z, h1, h2 => by
  simp only [Op.bytesLess, Bool.or_eq_true, Bool.and_eq_true, decide_eq_true_eq, beq_iff_eq] at h1 h2 ⊢
  rcases h1 with h1 | ⟨rfl, h1⟩
  ·rcases h2 with h2 | ⟨rfl, h2⟩
   ·exact .inl (UInt8.lt_trans h1 h2)
   ·exact .inl h1
  ·rcases h2 with h2 | ⟨rfl, h2⟩
   ·exact .inl h2
   ·exact .inr ⟨rfl, less_trans x y z h1 h2⟩
def Prev (a b : Rc) : Prop := (ValidR a ∧ ValidR b ∧ keyR a = keyR b) ∧ (b.version < a.version ∨ a.version = b.version ∧ Op.bytesLess (encR b) (encR a) = true)
theorem prev_irr (a : Rc) : ¬ Prev a a := fun h => by
 rcases h.2 with h1 | ⟨-, h1⟩
 ·omega
 ·rw [less_irr] at h1; cases h1
theorem prev_trans {a b c : Rc} (h1 : Prev a b) (h2 : Prev b c) : Prev a c := by
 refine ⟨⟨h1.1.1, h2.1.2.1, h1.1.2.2.trans h2.1.2.2⟩, ?_⟩
 rcases h1.2 with h3 | ⟨h3, h4⟩
 ·rcases h2.2 with h5 | ⟨h5, h6⟩
  ·exact .inl (by omega)
  ·exact .inl (by omega)
 ·rcases h2.2 with h5 | ⟨h5, h6⟩
  ·exact .inl (by omega)
  ·exact .inr ⟨by omega, less_trans _ _ _ h6 h4⟩
theorem prev_tri {a b : Rc} (ha : ValidR a) (hb : ValidR b) (hk : keyR a = keyR b) (h : a ≠ b) : Prev a b ∨ Prev b a := by
 by_cases h1 : a.version = b.version
 ·rcases less_tri (encR b) (encR a) (fun e => h (enc_inj ha hb e.symm)) with h2 | h2
  ·exact .inl ⟨⟨ha, hb, hk⟩, .inr ⟨h1, h2⟩⟩
  ·exact .inr ⟨⟨hb, ha, hk.symm⟩, .inr ⟨h1.symm, h2⟩⟩
 ·by_cases h2 : b.version < a.version
  ·exact .inl ⟨⟨ha, hb, hk⟩, .inl h2⟩
  ·exact .inr ⟨⟨hb, ha, hk.symm⟩, .inl (by omega)⟩
def Now (day : Int) (r : Rc) : Prop := ValidR r ∧ r.day ≤ day
structure Top (l : List Rc) (day : Int) (r : Rc) : Prop where
 mem : r ∈ l
 now : Now day r
 top : ∀ s ∈ l, s.day ≤ day → ¬ Prev s r
structure EffM (l : List Rc) (day : Int) (m : List (List UInt8 × Rc)) : Prop where
 nd : (m.map Prod.fst).Nodup
 top : ∀ p ∈ m, p.1 = keyR p.2 ∧ Top l day p.2
 all : ∀ r ∈ l, Now day r → ∃ p ∈ m, p.1 = keyR r
theorem EffM.nil (day : Int) : EffM [] day [] := ⟨by simp, by simp, by simp⟩
theorem top_uniq {l : List Rc} {day : Int} {r s : Rc} (hr : Top l day r) (hs : Top l day s) (hk : keyR r = keyR s) : r = s := by
 apply Classical.byContradiction
 intro h
 rcases prev_tri hr.now.1 hs.now.1 hk h with h1 | h1
 ·exact hs.top r hr.mem hr.now.2 h1
 ·exact hr.top s hs.mem hs.now.2 h1
theorem EffM.has {l : List Rc} {day : Int} {m : List (List UInt8 × Rc)} (h : EffM l day m) (r : Rc) : (∃ p ∈ m, p.2 = r) ↔ Top l day r := by
 constructor
 ·rintro ⟨p, hp, rfl⟩
  exact (h.top p hp).2
 ·intro hr
  obtain ⟨p, hp, e⟩ := h.all r hr.mem hr.now
  have h1 := h.top p hp
  exact ⟨p, hp, top_uniq h1.2 hr (by rw [← h1.1, e])⟩
theorem top_snoc {l : List Rc} {day : Int} {r s : Rc} (h : Top l day r) (hs : ¬ (s.day ≤ day ∧ Prev s r)) : Top (l ++ [s]) day r :=
 ⟨List.mem_append_left _ h.mem, h.now, fun t ht hd hp => by
  rcases List.mem_append.1 ht with ht | ht
  ·exact h.top t ht hd hp
  ·obtain rfl := List.mem_singleton.1 ht
   exact hs ⟨hd, hp⟩⟩
theorem EffM.skip {l : List Rc} {day : Int} {m : List (List UInt8 × Rc)} (h : EffM l day m) {r : Rc} (hr : ¬ Now day r) : EffM (l ++ [r]) day m :=
 ⟨h.nd, fun p hp => ⟨(h.top p hp).1, top_snoc (h.top p hp).2 fun e => hr ⟨e.2.1.1, e.1⟩⟩, fun s hs hn => by
  rcases List.mem_append.1 hs with hs | hs
  ·exact h.all s hs hn
  ·obtain rfl := List.mem_singleton.1 hs
   exact absurd hn hr⟩
theorem EffM.keep {l : List Rc} {day : Int} {m : List (List UInt8 × Rc)} (h : EffM l day m) {r : Rc} {p : List UInt8 × Rc} (hp : p ∈ m) (hk : p.1 = keyR r) (hn : ¬ Prev r p.2) : EffM (l ++ [r]) day m :=
 ⟨h.nd, fun q hq => ⟨(h.top q hq).1, top_snoc (h.top q hq).2 fun e => by
  have h1 := (h.top q hq).1
  have h2 := (h.top p hp).1
  have h3 : q.2 = p.2 := top_uniq (h.top q hq).2 (h.top p hp).2 (by rw [← h1, ← h2, hk, h1]; exact e.2.1.2.2.symm)
  rw [h3] at e
  exact hn e.2⟩, fun s hs hs2 => by
  rcases List.mem_append.1 hs with hs | hs
  ·exact h.all s hs hs2
  ·obtain rfl := List.mem_singleton.1 hs
   exact ⟨p, hp, hk⟩⟩
theorem EffM.add {l : List Rc} {day : Int} {m : List (List UInt8 × Rc)} (h : EffM l day m) {r : Rc} (hr : Now day r) (hk : ∀ p ∈ m, p.1 ≠ keyR r) : EffM (l ++ [r]) day (m ++ [(keyR r, r)]) := by
 have hno : ∀ s ∈ l, Now day s → keyR s ≠ keyR r := fun s hs hn e => by
  obtain ⟨p, hp, e2⟩ := h.all s hs hn
  exact hk p hp (e2.trans e)
 refine ⟨?_, fun q hq => ?_, fun s hs hs2 => ?_⟩
 ·rw [List.map_append]
  refine List.nodup_append.2 ⟨h.nd, by simp, fun a ha b hb e => ?_⟩
  obtain ⟨p, hp, rfl⟩ := List.mem_map.1 ha
  simp only [List.map_cons, List.map_nil, List.mem_singleton] at hb
  exact hk p hp (e.trans hb)
 ·rcases List.mem_append.1 hq with hq | hq
  ·have h1 := h.top q hq
   exact ⟨h1.1, top_snoc h1.2 fun e => hk q hq (by rw [h1.1]; exact e.2.1.2.2.symm)⟩
  ·obtain rfl := List.mem_singleton.1 hq
   refine ⟨rfl, List.mem_append_right _ (List.mem_singleton.2 rfl), hr, fun t ht hd hp => ?_⟩
   rcases List.mem_append.1 ht with ht | ht
   ·exact hno t ht ⟨hp.1.1, hd⟩ hp.1.2.2
   ·obtain rfl := List.mem_singleton.1 ht
    exact prev_irr _ hp
 ·rcases List.mem_append.1 hs with hs | hs
  ·obtain ⟨p, hp, e⟩ := h.all s hs hs2
   exact ⟨p, List.mem_append_left _ hp, e⟩
  ·obtain rfl := List.mem_singleton.1 hs
   exact ⟨_, List.mem_append_right _ (List.mem_singleton.2 rfl), rfl⟩
theorem EffM.put {l : List Rc} {day : Int} {m : List (List UInt8 × Rc)} (h : EffM l day m) {r : Rc} (hr : Now day r) {i : Nat} {s : Rc} (hi : m[i]? = some (keyR r, s)) (hp : Prev r s) : EffM (l ++ [r]) day (m.set i (keyR r, r)) := by
 have hlt : i < m.length := (List.getElem?_eq_some_iff.1 hi).1
 have hmi : (keyR r, s) ∈ m := List.mem_of_getElem? hi
 have hts := (h.top _ hmi).2
 have hfst : (m.set i (keyR r, r)).map Prod.fst = m.map Prod.fst := by
  rw [List.map_set]
  apply List.ext_getElem?
  intro j
  rw [List.getElem?_set]
  by_cases e : i = j
  ·subst e
   rw [List.getElem?_eq_getElem hlt] at hi
   have e2 := Option.some.inj hi
   simp [hlt, e2]
  ·simp [e]
 have hmem : ∀ q, q ∈ m.set i (keyR r, r) → q = (keyR r, r) ∨ (q ∈ m ∧ q.1 ≠ keyR r) := fun q hq => by
  obtain ⟨j, hj⟩ := List.mem_iff_getElem?.1 hq
  rw [List.getElem?_set] at hj
  by_cases e : i = j
  ·subst e
   simp [hlt] at hj
   exact .inl hj.symm
  ·rw [if_neg e] at hj
   refine .inr ⟨List.mem_of_getElem? hj, fun e2 => e ?_⟩
   have hjl : j < m.length := (List.getElem?_eq_some_iff.1 hj).1
   have n1 : (m.map Prod.fst)[i]? = some (keyR r) := by simp [hi]
   have n2 : (m.map Prod.fst)[j]? = some (keyR r) := by simp [hj, e2]
   exact (List.getElem?_inj (by simpa using hlt) h.nd).1 (n1.trans n2.symm)
 refine ⟨by rw [hfst]; exact h.nd, fun q hq => ?_, fun t ht hn => ?_⟩
 ·rcases hmem q hq with rfl | ⟨hq, hne⟩
  ·refine ⟨rfl, List.mem_append_right _ (List.mem_singleton.2 rfl), hr, fun t ht hd hpt => ?_⟩
   rcases List.mem_append.1 ht with ht | ht
   ·exact hts.top t ht hd (prev_trans hpt hp)
   ·obtain rfl := List.mem_singleton.1 ht
    exact prev_irr _ hpt
  ·have h1 := h.top q hq
   exact ⟨h1.1, top_snoc h1.2 fun e => hne (by rw [h1.1]; exact e.2.1.2.2.symm)⟩
 ·have hin : (keyR r, r) ∈ m.set i (keyR r, r) := List.mem_set hlt _
  rcases List.mem_append.1 ht with ht | ht
  ·obtain ⟨p, hpm, e⟩ := h.all t ht hn
   obtain ⟨j, hj⟩ := List.mem_iff_getElem?.1 hpm
   by_cases e2 : i = j
   ·subst e2
    rw [hi] at hj
    cases hj
    exact ⟨_, hin, e⟩
   ·refine ⟨p, List.mem_of_getElem? (i := j) ?_, e⟩
    rw [List.getElem?_set, if_neg e2]; exact hj
  ·obtain rfl := List.mem_singleton.1 ht
   exact ⟨_, hin, rfl⟩
def numR (r : Rc) : Int := r.get (keyF r.kind)
def asK (L : List Rc) : Prop := L.Pairwise fun a b => numR a < numR b
structure IsOf (l : List Rc) (day : Int) (k : Int) (L : List Rc) : Prop where
 asc : asK L
 mem : ∀ r, r ∈ L ↔ (Top l day r ∧ r.gone = false) ∧ r.kind = k
end Go.Sx
/- Chapter 20: records as they lie in the memory; equality of records. -/
namespace Go.Sx
open Go Go.Proofs
def rcells (r : Rc) : List Value := [zv r.kind, zv r.id, zv r.version, zv r.day, .bool r.gone, zv r.start, zv r.stop, zv r.pack, zv r.person, zv r.role, zv r.purpose, zv r.clause, .bool r.adm, zv r.party, .string r.text]
abbrev recV (r : Rc) : Value := .agg (rcells r).toArray
def i64W (x : Int) : Prop := -9223372036854775808 ≤ x ∧ x ≤ 9223372036854775807
theorem i64W.wf {x : Int} (h : i64W x) : (Lit.int .i64 x).wf = true := by
 obtain ⟨h1, h2⟩ := h
 have e1 : IntKind.i64.min = -9223372036854775808 := rfl
 have e2 : IntKind.i64.max = 9223372036854775807 := rfl
 simp only [Lit.wf, Bool.and_eq_true, decide_eq_true_eq, e1, e2]
 omega
structure RcOk (r : Rc) : Prop where
 kind : i64W r.kind
 id : i64W r.id
 version : i64W r.version
 day : i64W r.day
 start : i64W r.start
 stop : i64W r.stop
 pack : i64W r.pack
 person : i64W r.person
 role : i64W r.role
 purpose : i64W r.purpose
 clause : i64W r.clause
 party : i64W r.party
 text : r.text.size ≤ maxLen
def rlits (r : Rc) : List Lit := [.int .i64 r.kind, .int .i64 r.id, .int .i64 r.version, .int .i64 r.day, .bool r.gone, .int .i64 r.start, .int .i64 r.stop, .int .i64 r.pack, .int .i64 r.person, .int .i64 r.role, .int .i64 r.purpose, .int .i64 r.clause, .bool r.adm, .int .i64 r.party, .string r.text.data.toList]
theorem rlits_inj {r s : Rc} (h : rlits r = rlits s) : r = s := by
 unfold rlits at h
 simp only [List.cons.injEq, Lit.int.injEq, Lit.bool.injEq, Lit.string.injEq, true_and, and_true] at h
 obtain ⟨h1, h2, h3, h4, h5, h6, h7, h8, h9, h10, h11, h12, h13, h14, h15⟩ := h
 cases r; cases s
 simp only at h1 h2 h3 h4 h5 h6 h7 h8 h9 h10 h11 h12 h13 h14 h15
 have h15' := ByteArray_ext' h15
 subst h1 h2 h3 h4 h5 h6 h7 h8 h9 h10 h11 h12 h13 h14 h15'
 rfl
theorem keyLits_rec {r : Rc} (h : RcOk r) : Tryz.prog.keyLits 3 46 (rcells r) = some (rlits r) := by
 have c1 : Tryz.prog.cellsOf 3 = 1 := by kernel_rfl
 have c2 : Tryz.prog.cellsOf 4 = 1 := by kernel_rfl
 have c3 : Tryz.prog.cellsOf 9 = 1 := by kernel_rfl
 have c4 : Tryz.prog.cellsOf 46 = 15 := by kernel_rfl
 have w1 := h.kind.wf
 have w2 := h.id.wf
 have w3 := h.version.wf
 have w4 := h.day.wf
 have w5 := h.start.wf
 have w6 := h.stop.wf
 have w7 := h.pack.wf
 have w8 := h.person.wf
 have w9 := h.role.wf
 have w10 := h.purpose.wf
 have w11 := h.clause.wf
 have w12 := h.party.wf
 have w13 := h.text
 simp [Program.keyLits, Tryz.underlying46, Tryz.underlying3, Tryz.underlying4, Tryz.underlying9, c1, c2, c3, c4, rcells, rlits, w1, w2, w3, w4, w5, w6, w7, w8, w9, w10, w11, w12, w13]
theorem formed_rec (r : Rc) : (recV r).formed Tryz.prog 46 = true := by
 have c4 : Tryz.prog.cellsOf 46 = 15 := by kernel_rfl
 simp [Value.formed, Tryz.underlying46, c4, rcells]
open Classical in
theorem run_eqRec {r s : Rc} (hr : RcOk r) (hs : RcOk s) (w : World) : (Op.equal 46 (recV r) (recV s)).run Tryz.prog w = .ok (decide (r = s)) w := by
 have hk : Tryz.prog.keyTypeAt 3 46 = true := by kernel_rfl
 obtain ⟨b, h1, h2⟩ := run_equalIn_deep (P := Tryz.prog) 9997 3 46 hk w 3 3 (recV r) (recV s) (rlits r) (rlits s) (formed_rec r) (formed_rec s) (by simpa [Value.cells] using keyLits_rec hr) (by simpa [Value.cells] using keyLits_rec hs)
 have e : b = decide (r = s) := by
  rw [Bool.eq_iff_iff, h2, decide_eq_true_eq]
  exact ⟨rlits_inj, fun e => by rw [e]⟩
 rw [← e]; exact h1
open Classical in
theorem POp.eqRec {N : Nat} {ds : List Deferred} {E : Env} {x y : Operand} {t' ty : TypeId} {r s : Rc} (hx : Env.ev E x = some (recV r)) (hy : Env.ev E y = some (recV s)) (hr : RcOk r) (hs : RcOk s) :
  POp Tryz.prog N ds E (.binOp .eql 46 x y t') ty (.bool (decide (r = s))) :=
 POp.bin hx hy (fun w => run_eqGuard_agg w _ _ _ _ _ _ (by kernel_rfl)) fun w => by
  have h := run_eqRec hr hs w
  simp only [Go.binOp, Sem.run_bind, h, Result.andThen, Sem.run_pure]
end Go.Sx

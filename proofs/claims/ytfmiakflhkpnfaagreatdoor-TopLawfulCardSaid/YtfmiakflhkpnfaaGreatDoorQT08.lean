/- Chapter 2: Leaf, Node and Root of digest: the walks. -/
import Derived.Test.YtfmiakflhkpnfaaGreatDoorQT07
namespace Go.Sx
open Go Go.Proofs Go.RowKit
section
variable {P : Program} {r : Option Nat} {N : Nat} {ds : List Deferred} {ol : List Oper} {Q : Post} {E : Env} {w0 : World} {H H2 : List Atom}
theorem H1.conv2 {next : Act → World → Prop} {o : Oper} (hh : ∀ w, Mm w0 H w → Mm w0 H2 w) (h : H1 P r N ds next o Q E w0 H2) : H1 P r N ds next o Q E w0 H := fun w hM => h w (hh w hM)
theorem own_pre2 {w : World} {base c n i : Nat} {e : TypeId} {a : Option Addr} {xs : List Value} (h : w.ownsRow base e 1 (.slice a n c) n xs) (hi : i ≤ n) (h0 : n ≠ 0) : w.ownsRow base e 1 (.slice a i c) i (xs.take i) := by
 have hl := h.1
 rcases h.2 with ⟨hv, hz⟩ | ⟨g, cap, cur, hv, hb, hg, hnc, hcm, hcs, htk⟩
 ·exact absurd hz h0
 ·cases hv
  exact ⟨by rw [List.length_take]; omega, .inr ⟨g, c, cur, rfl, hb, hg, by omega, hcm, hcs, by rw [← htk, List.take_take]; congr 1; omega⟩⟩
theorem Mm.growPre2 {e : TypeId} {c n i : Nat} {a : Option Addr} {xs : List Value} {w : World} (hM : Mm w0 H w) (hr : Rpl (A.grow e 1 a c n xs) (A.grow e 1 a c i (xs.take i)) H H2) (hi : i ≤ n) (h0 : n ≠ 0) : Mm w0 H2 w :=
 hM.turn hr rfl rfl rfl (Nat.le_refl _) (fun _ _ _ => rfl) (own_pre2 (hM.own hr.mem) hi h0) (by cases a <;> simp [A.grow, Value.ownBlock]) (fun b hb => .inl (by cases a <;> exact hb))
theorem HC.capOfN {e : TypeId} {co : Code} {n c : Nat} {a : Option Addr} {xs : List Value} (hm : A.grow e 1 a c n xs ∈ H) (h : n ≤ c → HC P r N ds co Q E w0 H) : HC P r N ds co Q E w0 H := fun w hM => by
 refine h ?_ w hM
 rcases (hM.own hm).2 with ⟨h1, rfl⟩ | ⟨g, cap, cur, hv, -, -, hnc, -⟩
 ·exact Nat.zero_le _
 ·cases hv; exact hnc
end
def stW (st : List (Nat × ByteArray)) : List ByteArray := (st.map Prod.snd).reverse
def stS (st : List (Nat × ByteArray)) : List Int := (st.map fun x => (x.1 : Int)).reverse
theorem stW_len (st : List (Nat × ByteArray)) : (stW st).length = st.length := by simp [stW]
theorem stS_len (st : List (Nat × ByteArray)) : (stS st).length = st.length := by simp [stS]
theorem stW_cons (x : Nat × ByteArray) (st : List (Nat × ByteArray)) : stW (x :: st) = stW st ++ [x.2] := by simp [stW]
theorem stS_cons (x : Nat × ByteArray) (st : List (Nat × ByteArray)) : stS (x :: st) = stS st ++ [(x.1 : Int)] := by simp [stS]
theorem strs_snoc (l : List ByteArray) (s : ByteArray) : strs l ++ [.string s] = strs (l ++ [s]) := by simp [strs]
theorem strs_len (l : List ByteArray) : (strs l).length = l.length := by simp [strs]
theorem mergeR_two (x y : Nat × ByteArray) (r : List (Nat × ByteArray)) : mergeR (x :: y :: r) = if y.1 = x.1 then mergeR ((2 * x.1, nodeS y.2 x.2) :: r) else x :: y :: r := by rw [mergeR]
theorem mergeR_one (x : Nat × ByteArray) : mergeR [x] = [x] := by rw [mergeR]
theorem topR_snoc (out : ByteArray) (r : List (Nat × ByteArray)) (y : Nat × ByteArray) : topR out (r ++ [y]) = nodeS y.2 (topR out r) := by unfold topR; rw [List.foldl_append]; rfl
theorem ints_snocL (l : List Int) (x : Int) : ints l ++ [zv x] = ints (l ++ [x]) := by simp [ints]
theorem stW_get0 (st : List (Nat × ByteArray)) (x y : Nat × ByteArray) : (strs (stW (x :: y :: st)))[st.length]? = some (.string y.2) := by
 rw [stW_cons, stW_cons, List.append_assoc]
 unfold strs
 rw [List.map_append, List.getElem?_append_right (by simp [stW_len])]
 simp [stW_len]
theorem stW_get1 (st : List (Nat × ByteArray)) (x y : Nat × ByteArray) : (strs (stW (x :: y :: st)))[st.length + 1]? = some (.string x.2) := by
 rw [stW_cons, stW_cons, List.append_assoc]
 unfold strs
 rw [List.map_append, List.getElem?_append_right (by simp [stW_len])]
 simp [stW_len]
theorem stS_get0 (st : List (Nat × ByteArray)) (x y : Nat × ByteArray) : (ints (stS (x :: y :: st)))[st.length]? = some (zv (y.1 : Int)) := by
 rw [stS_cons, stS_cons, List.append_assoc]
 unfold ints
 rw [List.map_append, List.getElem?_append_right (by simp [stS_len])]
 simp [stS_len]
theorem stS_get1 (st : List (Nat × ByteArray)) (x y : Nat × ByteArray) : (ints (stS (x :: y :: st)))[st.length + 1]? = some (zv (x.1 : Int)) := by
 rw [stS_cons, stS_cons, List.append_assoc]
 unfold ints
 rw [List.map_append, List.getElem?_append_right (by simp [stS_len])]
 simp [stS_len]
theorem stW_cut (st : List (Nat × ByteArray)) (x y : Nat × ByteArray) : (strs (stW (x :: y :: st))).take st.length = strs (stW st) := by
 rw [stW_cons, stW_cons, List.append_assoc]
 unfold strs
 rw [List.map_append, List.take_left' (by simp [stW_len])]
theorem stS_cut (st : List (Nat × ByteArray)) (x y : Nat × ByteArray) : (ints (stS (x :: y :: st))).take st.length = ints (stS st) := by
 rw [stS_cons, stS_cons, List.append_assoc]
 unfold ints
 rw [List.map_append, List.take_left' (by simp [stS_len])]
theorem sumR_le {x : Nat × ByteArray} {st : List (Nat × ByteArray)} (h : x ∈ st) : x.1 ≤ sumR st := by
 induction st with
 | nil => cases h
 | cons y st ih =>
  have e : sumR (y :: st) = y.1 + sumR st := by simp [sumR]
  rcases List.mem_cons.1 h with rfl | h
  ·omega
  ·have := ih h; omega
structure StkI (l : List ByteArray) (k : Nat) (st : List (Nat × ByteArray)) : Prop where
 tos : mergeR st = stkR (l.take (k + 1))
 ne : st ≠ []
 sum : sumR st = k + 1
 sz : ∀ x ∈ st, x.2.size = 32
 len : st.length ≤ k + 1
theorem stk_sz {l : List ByteArray} : ∀ x ∈ stkR l, x.2.size = 32 := by
 have key : ∀ (n : Nat) (st : List (Nat × ByteArray)), st.length = n → (∀ x ∈ st, x.2.size = 32) → ∀ x ∈ mergeR st, x.2.size = 32 := by
  intro n
  induction n using Nat.strongRecOn with
  | ind n ih =>
   intro st hn h
   match st, hn, h with
   | [], _, h => rw [mergeR]; exact h
   | [x], _, h => rw [mergeR]; exact h
   | x :: y :: r, hn, h =>
    rw [mergeR_two]
    split
    ·refine ih (r.length + 1) (by rw [← hn]; simp) _ (by simp) fun z hz => ?_
     rcases List.mem_cons.1 hz with rfl | hz
     ·exact nodeS_size _ _
     ·exact h z (.tail _ (.tail _ hz))
    ·exact h
 refine snocI (p := fun l => ∀ x ∈ stkR l, x.2.size = 32) (by intro x hx; cases hx) (fun l s ih => ?_) l
 rw [stkR_snoc]
 refine key _ _ rfl fun x hx => ?_
 rcases List.mem_cons.1 hx with rfl | hx
 ·exact leafS_size s
 ·exact ih x hx
theorem stk_le (l : List ByteArray) : (stkR l).length ≤ l.length := by
 have key : ∀ (n : Nat) (st : List (Nat × ByteArray)), st.length = n → (mergeR st).length ≤ st.length := by
  intro n
  induction n using Nat.strongRecOn with
  | ind n ih =>
   intro st hn
   match st, hn with
   | [], _ => rw [mergeR]; exact Nat.le_refl _
   | [x], _ => rw [mergeR]; exact Nat.le_refl _
   | x :: y :: r, hn =>
    rw [mergeR_two]
    split
    ·have := ih (r.length + 1) (by rw [← hn]; simp) ((2 * x.1, nodeS y.2 x.2) :: r) (by simp)
     simp only [List.length_cons] at this ⊢
     omega
    ·exact Nat.le_refl _
 refine snocI (p := fun l => (stkR l).length ≤ l.length) (Nat.le_refl _) (fun l s ih => ?_) l
 rw [stkR_snoc, List.length_append]
 have := key _ ((1, leafS s) :: stkR l) rfl
 simp only [List.length_cons, List.length_nil] at this ⊢
 omega
theorem StkI.begin (l : List ByteArray) {k : Nat} {s : ByteArray} (hs : l.take (k + 1) = l.take k ++ [s]) (hk : k < l.length) : StkI l k ((1, leafS s) :: stkR (l.take k)) := by
 have h1 := sumR_stk (l.take k)
 have h2 := stk_le (l.take k)
 rw [List.length_take] at h1 h2
 refine ⟨by rw [hs, stkR_snoc], by simp, ?_, fun x hx => ?_, by rw [List.length_cons]; omega⟩
 ·have : sumR ((1, leafS s) :: stkR (l.take k)) = 1 + sumR (stkR (l.take k)) := by simp [sumR]
  omega
 ·rcases List.mem_cons.1 hx with rfl | hx
  ·exact leafS_size s
  ·exact stk_sz x hx
theorem StkI.next {l : List ByteArray} {k : Nat} {x y : Nat × ByteArray} {r : List (Nat × ByteArray)} (h : StkI l k (x :: y :: r)) (e : y.1 = x.1) : StkI l k ((2 * x.1, nodeS y.2 x.2) :: r) := by
 have h1 := h.tos
 rw [mergeR_two, if_pos e] at h1
 have h2 := h.sum
 have h3 := h.len
 refine ⟨h1, by simp, ?_, fun z hz => ?_, by simp only [List.length_cons] at h3 ⊢; omega⟩
 ·simp only [sumR, List.map_cons, List.sum_cons] at h2 ⊢
  omega
 ·rcases List.mem_cons.1 hz with rfl | hz
  ·exact nodeS_size _ _
  ·exact h.sz z (.tail _ (.tail _ hz))
attribute [local irreducible] WC WL WX POp Then Again Fn NX W1 WA WO QL RP RA Yld LoopAt HC HL HX HN H1 HA HO HQ HB HP A.blk A.grow A.rd A.obj A.mp AgainH CutH
attribute [local irreducible] sumS A.dfr A.loop
theorem digLeaf_fn (s : ByteArray) (hs : s.size ≤ 800000) (w : World) (hG : RoundG w) : Fn Tryz.prog 143 #[.string s] w fun v w' => v = .string (leafS s) ∧ Ext w w' := by
 have hc := catS_1 s
 refine enterH (l := [_]) rfl Tryz.ntmps143 rfl ?_
 refine hwNB ?_
 refine HL.one (H1.callz1 (vs := [.string (mkB 0)]) rfl rfl (fun w' _ => marked_fn (mkB 0) w') ?_)
 rintro b1 -
 refine hwNB ?_
 refine HL.one (H1.lit (cs := strs [s]) rfl rfl rfl rfl rfl rfl (fun b2 => ?_))
 refine hwNB ?_
 refine HL.one (H1.callv0 (f := 238) (u := .string (leafS s)) (cap := [.pointer (some ⟨b1, 0, none⟩)]) (vs := [.slice (some ⟨b2, 0, none⟩) 1 1]) rfl rfl rfl (fun w' hM => ?_) ?_)
 ·have hb2 : Blk w' b2 (strs [s]) 9 := hM.blk memA
  exact marked1_fn 0 [s] w' (hG.ext hM.ext) ((hM.blk (e := 9) (cs := [.string (mkB 0)]) memA).cell rfl) (blk_rd hb2 rfl) (Array.getElem?_eq_some_iff.1 hb2).1 (by simp) (by omega)
 refine hwNB ?_
 exact HX.ret1 rfl rfl fun w' hM => ⟨rfl, hM.ext⟩
theorem digNode_fn (h r : ByteArray) (hs : h.size + r.size ≤ 800000) (w : World) (hG : RoundG w) : Fn Tryz.prog 144 #[.string h, .string r] w fun v w' => v = .string (nodeS h r) ∧ Ext w w' := by
 have hc := catS_2 h r
 refine enterH (l := [_, _]) rfl Tryz.ntmps144 rfl ?_
 refine hwNB ?_
 refine HL.one (H1.callz1 (vs := [.string (mkB 1)]) rfl rfl (fun w' _ => marked_fn (mkB 1) w') ?_)
 rintro b1 -
 refine hwNB ?_
 refine HL.one (H1.lit (cs := strs [h, r]) rfl rfl rfl rfl rfl rfl (fun b2 => ?_))
 refine hwNB ?_
 refine HL.one (H1.callv0 (f := 238) (u := .string (nodeS h r)) (cap := [.pointer (some ⟨b1, 0, none⟩)]) (vs := [.slice (some ⟨b2, 0, none⟩) 2 2]) rfl rfl rfl (fun w' hM => ?_) ?_)
 ·have hb2 : Blk w' b2 (strs [h, r]) 9 := hM.blk memA
  exact marked1_fn 1 [h, r] w' (hG.ext hM.ext) ((hM.blk (e := 9) (cs := [.string (mkB 1)]) memA).cell rfl) (blk_rd hb2 rfl) (Array.getElem?_eq_some_iff.1 hb2).1 (by simp) (by omega)
 refine hwNB ?_
 exact HX.ret1 rfl rfl fun w' hM => ⟨rfl, hM.ext⟩
theorem backward_fn (a : Option Addr) (n c : Nat) (w : World) : Fn Tryz.prog 146 #[.slice a n c] w fun u w' => ∃ b : Nat, True ∧ u = .func (.func 209) #[] #[.pointer (some ⟨b, 0, none⟩)] ∧ Mm w [A.blk b [.slice a n c] 26] w' := by
 refine enterH (l := [_]) rfl Tryz.ntmps146 rfl ?_
 refine hwNB ?_
 refine HL.one (H1.box rfl rfl rfl (fun b1 => ?_))
 refine hwNB ?_
 exact HX.ret1 rfl rfl fun w' hM => ⟨b1, trivial, rfl, hM⟩
theorem backward1_fn {w0 : World} {K0 K1 : Atom} {Hq : Nat → List Atom} {b1 bw c n m lp : Nat} {W : List ByteArray} (hn : m ≤ n) (hW : W.length = n) (hm : m ≤ 1000000)
  (hy : ∀ q y, q < m → W[m - 1 - q]? = some y → ∀ w, Mm w0 (K0 :: K1 :: A.blk b1 [.slice (some ⟨bw, 0, none⟩) m c] 26 :: A.grow 9 1 (some ⟨bw, 0, none⟩) c n (strs W) :: Hq q) w →
   Yld Tryz.prog lp [zv ((m - 1 - q : Nat) : Int), .string y] w fun b w' => b = true ∧ ∃ _z : Unit, True ∧ Mm w0 (K0 :: K1 :: A.blk b1 [.slice (some ⟨bw, 0, none⟩) m c] 26 :: A.grow 9 1 (some ⟨bw, 0, none⟩) c n (strs W) :: Hq (q + 1)) w') :
  ∀ w, Mm w0 (K0 :: K1 :: A.blk b1 [.slice (some ⟨bw, 0, none⟩) m c] 26 :: A.grow 9 1 (some ⟨bw, 0, none⟩) c n (strs W) :: Hq 0) w →
   Fn Tryz.prog 209 (.func (.yield lp) #[] #[] :: [.pointer (some ⟨b1, 0, none⟩)]).toArray w fun _ w' => ∃ _z : Unit, True ∧ Mm w0 (K0 :: K1 :: A.blk b1 [.slice (some ⟨bw, 0, none⟩) m c] 26 :: A.grow 9 1 (some ⟨bw, 0, none⟩) c n (strs W) :: Hq m) w' := by
 intro w hM
 refine enterK (l := [_, _]) hM rfl Tryz.ntmps209 rfl ?_
 refine hwNB ?_
 refine HC.loop (α := Nat) (fun q => [(0, .func (.yield lp) #[] #[]), (1, .pointer (some ⟨b1, 0, none⟩)), (3, zv ((m : Int) - 1 - (q : Int)))]) (fun q => K0 :: K1 :: A.blk b1 [.slice (some ⟨bw, 0, none⟩) m c] 26 :: A.grow 9 1 (some ⟨bw, 0, none⟩) c n (strs W) :: Hq q)
  (fun q => q ≤ m) (fun q => m - q) 0 (Nat.zero_le _) (by refine ⟨rfl, rfl, ?_, trivial⟩; show some (zv _) = some (zv _); congr 2; omega) (Hs.refl _) ?_
 rintro q hq
 by_cases hlt : q < m
 rotate_left
 ·obtain rfl : q = m := by omega
  have hn : ¬ (0 : Int) ≤ (q : Int) - 1 - (q : Int) := by omega
  refine hwNB ?_
  exact HX.end0 rfl fun w' hM => ⟨(), trivial, hM⟩
 have hp : (0 : Int) ≤ (m : Int) - 1 - (q : Int) := by omega
 obtain ⟨i, hi⟩ : ∃ i, i = m - 1 - q := ⟨_, rfl⟩
 have e1 : (m : Int) - 1 - (q : Int) = (i : Int) := by omega
 obtain ⟨y, hyq⟩ : ∃ y, W[i]? = some y := ⟨_, List.getElem?_eq_getElem (by omega)⟩
 have hys : (strs W)[i]? = some (.string y) := by unfold strs; rw [List.getElem?_map, hyq]; rfl
 have hyy := hy q y hlt (by rw [← hi]; exact hyq)
 rw [← hi] at hyy
 rw [e1]
 refine hwNB ?_
 refine HL.one (H1.ldg (c := c) (n := n) (sz := 1) (e := 9) (vs := strs W) (i := i) rfl memA hys rfl ?_)
 refine hwNB ?_
 refine HL.one (H1.yield (vs := [zv (i : Int), .string y]) rfl rfl rfl hyy ?_)
 rintro - -
 refine hwNB ?_
 exact HX.again (q + 1) hlt (by show m - (q + 1) < m - q; omega) (by refine ⟨rfl, rfl, ?_, trivial⟩; show some (zv _) = some (zv _); congr 2; omega) (Hs.refl _)
set_option maxHeartbeats 2000000 in
theorem digRoot_fn {v : Value} {l : List ByteArray} (hl : l.length ≤ 400000) (hs : ∀ s ∈ l, s.size ≤ 700000) (w : World) (hG : RoundG w) (hR : Rd w v (strs l)) :
  Fn Tryz.prog 77 #[v] w fun u w' => u = .string (rootS l) ∧ Ext w w' := by
 have topR_take : ∀ (out : ByteArray) (r : List (Nat × ByteArray)) (q : Nat) (y : Nat × ByteArray), r[q]? = some y → topR out (r.take (q + 1)) = nodeS y.2 (topR out (r.take q)) := fun out r q y hy => by
  rw [List.take_add_one, hy]; exact topR_snoc _ _ _
 obtain ⟨a0, c0, rfl, hc0⟩ : ∃ a c, v = .slice a l.length c ∧ l.length ≤ c := by
  obtain ⟨a, c, h1, h2, -⟩ := id hR
  rw [strs_len] at h1 h2
  exact ⟨a, c, h1, h2⟩
 refine enterN (l := [_]) (Mm.refl w) rfl Tryz.ntmps77 rfl ?_
 refine hwNB ?_
 refine HC.grow0 9 1 ?_
 refine HC.grow0 3 1 ?_
 refine HC.loop (α := Nat × (Option Addr × Nat) × (Option Addr × Nat)) (fun q => [(3, .slice q.2.1.1 (stkR (l.take q.1)).length q.2.1.2), (4, .slice q.2.2.1 (stkR (l.take q.1)).length q.2.2.2), (11, .slice a0 l.length c0), (12, zv (l.length : Int)), (13, zv (q.1 : Int))])
  (fun q => [A.grow 9 1 q.2.1.1 q.2.1.2 (stkR (l.take q.1)).length (strs (stW (stkR (l.take q.1)))), A.grow 3 1 q.2.2.1 q.2.2.2 (stkR (l.take q.1)).length (ints (stS (stkR (l.take q.1))))]) (fun q => q.1 ≤ l.length) (fun q => l.length - q.1) (0, (none, 0), (none, 0)) (Nat.zero_le _) esA (Hs.cons (Pick.there Pick.here) (Hs.cons Pick.here (Hs.refl _))) ?_
 rintro ⟨k, ⟨aw, cw⟩, ai, ci⟩ hk
 dsimp only at hk ⊢
 by_cases hlt : k < l.length
 ·have hn : ((k : Nat) : Int) < (l.length : Int) := by omega
  obtain ⟨b0, off0, rfl⟩ := rd_addr hR (j := k) hlt
  have hcell := hR.cell (strs_getB hlt)
  have htk : l.take (k + 1) = l.take k ++ [getB l k] := by
   rw [List.take_add_one, List.getElem?_eq_getElem hlt]
   simp [getB, hlt]
  have hsk := hs (getB l k) (by unfold getB; simp [hlt])
  have hbeg := StkI.begin l htk hlt
  have hle := stk_le (l.take k)
  rw [List.length_take] at hle
  generalize getB l k = s at hcell htk hsk hbeg
  have hw1 := stW_cons (1, leafS s) (stkR (l.take k))
  have hs1 : stS ((1, leafS s) :: stkR (l.take k)) = stS (stkR (l.take k)) ++ [(1 : Int)] := stS_cons (1, leafS s) (stkR (l.take k))
  have hl1 : ((1, leafS s) :: stkR (l.take k)).length = (stkR (l.take k)).length + 1 := rfl
  generalize stkR (l.take k) = st at hbeg hw1 hs1 hl1 hle
  refine hwNB ?_
  refine HL.one (H1.ld0 rfl hcell rfl ?_)
  refine hwNB ?_
  refine HL.one (H1.callx (vs := [_]) rfl rfl (fun w' hM => digLeaf_fn s (by omega) w' (hG.ext hM.ext)) ?_)
  refine hwNB ?_
  refine HL.one (H1.lit (cs := [.string (leafS s)]) rfl rfl rfl rfl rfl rfl (fun b8 => ?_))
  refine hwNB ?_
  refine HL.one (H1.app1 (u := .string (leafS s)) rfl rfl (fun _ _ => by first | ((repeat (first | with_reducible exact Rpl.here | with_reducible apply Rpl.there)); done) | (repeat (first | exact Rpl.here | apply Rpl.there))) memA rfl rfl (by omega) rfl rfl (fun aw2 cw2 => ?_))
  refine hwNB ?_
  refine HL.one (H1.lit (cs := [zv 1]) rfl rfl rfl rfl rfl rfl (fun b9 => ?_))
  refine hwNB ?_
  refine HL.one (H1.app1 (u := zv 1) rfl rfl (fun _ _ => by first | ((repeat (first | with_reducible exact Rpl.here | with_reducible apply Rpl.there)); done) | (repeat (first | exact Rpl.here | apply Rpl.there))) memA rfl rfl (by omega) rfl rfl (fun as2 cs2 => ?_))
  rw [strs_snoc, ints_snocL, ← hw1, ← hs1, ← hl1]
  refine hbDE ?_
  refine HC.block ?_
  refine HC.loop (α := List (Nat × ByteArray) × (Option Addr × Nat) × (Option Addr × Nat)) (fun q => [(3, .slice q.2.1.1 q.1.length q.2.1.2), (4, .slice q.2.2.1 q.1.length q.2.2.2), (7, zv (q.1.length : Int)), (11, .slice (some ⟨b0, off0, none⟩) l.length c0), (12, zv (l.length : Int)), (13, zv (k : Int))])
   (fun q => [A.grow 9 1 q.2.1.1 q.2.1.2 q.1.length (strs (stW q.1)), A.grow 3 1 q.2.2.1 q.2.2.2 q.1.length (ints (stS q.1))]) (fun q => StkI l k q.1) (fun q => q.1.length) ((1, leafS s) :: st, (some ⟨aw2, 0, none⟩, cw2), (some ⟨as2, 0, none⟩, cs2)) hbeg esA (by repeat (first | exact Hs.nil _ | (refine Hs.cons pickA ?_))) ?_
  rintro ⟨st2, ⟨aw3, cw3⟩, ai3, ci3⟩ hI
  dsimp only at hI ⊢
  have hIl := hI.len
  match st2, hI with
  | [], hI => exact absurd rfl hI.ne
  | [x], hI =>
   have h1 : ¬ (1 : Int) < ((1 : Nat) : Int) := by decide
   have hto := hI.tos
   rw [mergeR_one] at hto
   repeat refine HC.seq ?_
   refine HC.quietS [(some 27, [7], []), (some 28, [27], [0]), (some 29, [28], [1]), (some 30, [4, 29], [2]), (some 31, [7, 29], [2]), (some 32, [31, 29], [4, 2]), (some 33, [30, 32, 29], [3, 5, 2]), (some 34, [33, 29], [6, 2]), (some 35, [4, 29], [2]), (some 36, [7, 29], [2]), (some 37, [36, 29], [9, 2]), (some 38, [35, 37, 29], [8, 10, 2]), (some 39, [38, 29], [11, 2]), (some 40, [34, 39, 29], [7, 12, 2]), (some 41, [29, 40], [2, 13])] (by kernel_rfl) (by kernel_rfl) (by kernel_rfl) ?_
   refine qwA ?_
   refine HQ.nil ?_
   refine hwNB ?_
   exact HX.again (k + 1, (aw3, cw3), ai3, ci3) hlt (by show l.length - (k + 1) < l.length - k; omega) (by dsimp only; rw [← hto]; repeat (first | exact trivial | refine ⟨rfl, ?_⟩)) (by dsimp only; rw [← hto]; exact Hs.refl _)
  | x :: y :: r, hI =>
   have hlr : (x :: y :: r).length = r.length + 2 := rfl
   have h1 : (1 : Int) < ((r.length + 2 : Nat) : Int) := by omega
   have hg0 := stS_get0 r x y
   have hg1 := stS_get1 r x y
   have hw0 := stW_get0 r x y
   have hw1' := stW_get1 r x y
   have hx1 := sumR_le (x := x) (st := x :: y :: r) (.head _)
   have hsum := hI.sum
   have hszx := hI.sz x (.head _)
   have hszy := hI.sz y (.tail _ (.head _))
   rw [hlr] at hIl ⊢
   have hm0 : ((r.length + 2 : Nat) : Int) - 2 = (r.length : Int) := by omega
   have hm1 : ((r.length + 2 : Nat) : Int) - 1 = ((r.length + 1 : Nat) : Int) := by omega
   refine HC.openg (e := 9) (sz := 1) (a := aw3) (c := cw3) (n := r.length + 2) (xs := strs (stW (x :: y :: r))) memA (by omega) ?_
   rintro bw rfl
   refine HC.openg (e := 3) (sz := 1) (a := ai3) (c := ci3) (n := r.length + 2) (xs := ints (stS (x :: y :: r))) memA (by omega) ?_
   rintro bi rfl
   have hn0 : (((r.length + 2 : Nat) : Int) - 2).toNat = r.length := by omega
   have hn1 : (((r.length + 2 : Nat) : Int) - 1).toNat = r.length + 1 := by omega
   by_cases hxy : y.1 = x.1
   ·have hxy' : (y.1 : Int) = (x.1 : Int) := by omega
    repeat refine HC.seq ?_
    refine HC.quietS [(some 27, [7], []), (some 28, [27], [0]), (some 29, [28], [1]), (some 30, [4, 29], [2]), (some 31, [7, 29], [2]), (some 32, [31, 29], [4, 2]), (some 33, [30, 32, 29], [3, 5, 2]), (some 34, [33, 29], [6, 2]), (some 35, [4, 29], [2]), (some 36, [7, 29], [2]), (some 37, [36, 29], [9, 2]), (some 38, [35, 37, 29], [8, 10, 2]), (some 39, [38, 29], [11, 2]), (some 40, [34, 39, 29], [7, 12, 2]), (some 41, [29, 40], [2, 13])] (by kernel_rfl) (by kernel_rfl) (by kernel_rfl) ?_
    refine qwA ?_
    refine HQ.ld (a := ⟨bi, r.length, none⟩) (by show some (Value.pointer (some ⟨bi, (((r.length + 2 : Nat) : Int) - 2).toNat, none⟩)) = _; rw [hn0]) (fun w' hM => ownsRow_cell (hM.own (e := 3) (sz := 1) (a := some ⟨bi, 0, none⟩) (c := ci3) (n := r.length + 2) (xs := ints (stS (x :: y :: r))) memA) hg0) rfl ?_
    refine qwA ?_
    refine HQ.ld (a := ⟨bi, r.length + 1, none⟩) (by show some (Value.pointer (some ⟨bi, (((r.length + 2 : Nat) : Int) - 1).toNat, none⟩)) = _; rw [hn1]) (fun w' hM => ownsRow_cell (hM.own (e := 3) (sz := 1) (a := some ⟨bi, 0, none⟩) (c := ci3) (n := r.length + 2) (xs := ints (stS (x :: y :: r))) memA) hg1) rfl ?_
    refine qwA ?_
    refine HQ.nil ?_
    refine hwNB ?_
    have hnx := hI.next hxy
    refine HC.capOfN (e := 9) (a := some ⟨bw, 0, none⟩) (c := cw3) (n := r.length + 2) (xs := strs (stW (x :: y :: r))) memA fun hcw => ?_
    refine HC.capOfN (e := 3) (a := some ⟨bi, 0, none⟩) (c := ci3) (n := r.length + 2) (xs := ints (stS (x :: y :: r))) memA fun hci => ?_
    have hwc := stW_cut r x y
    have hsc := stS_cut r x y
    have hwn : strs (stW r) ++ [.string (nodeS y.2 x.2)] = strs (stW ((2 * x.1, nodeS y.2 x.2) :: r)) := by rw [strs_snoc, stW_cons]
    have hsn : ints (stS r) ++ [zv (2 * (x.1 : Int))] = ints (stS ((2 * x.1, nodeS y.2 x.2) :: r)) := by rw [ints_snocL, stS_cons]; rw [show ((2 * x.1 : Nat) : Int) = 2 * (x.1 : Int) by omega]
    refine HC.cut (α := Nat × Nat) (fun q => [(3, .slice (some ⟨q.1, 0, none⟩) (r.length + 1) q.2), (4, .slice (some ⟨bi, 0, none⟩) (r.length + 2) ci3), (7, zv ((r.length + 2 : Nat) : Int)), (11, .slice (some ⟨b0, off0, none⟩) l.length c0), (12, zv (l.length : Int)), (13, zv (k : Int))])
     (fun q => [A.grow 9 1 (some ⟨q.1, 0, none⟩) q.2 (r.length + 1) (strs (stW ((2 * x.1, nodeS y.2 x.2) :: r))), A.grow 3 1 (some ⟨bi, 0, none⟩) ci3 (r.length + 2) (ints (stS (x :: y :: r)))]) (fun _ => True) ?_ ?_
    ·refine HC.any rfl ?_
     refine HA.pa 0 rfl ?_
     refine HA.pa 1 rfl ?_
     refine HA.pa 2 rfl ?_ ((POp.sub rfl rfl (by omega) (by omega)).of (congrArg zv hm0))
     refine HA.pa 3 rfl ?_
     refine HA.pa 4 rfl ?_
     refine HA.pa 5 rfl ?_
     refine HA.pa 6 rfl ?_ ((POp.sub rfl rfl (by omega) (by omega)).of (congrArg zv hm0))
     refine HA.pa 7 rfl ?_
     refine HA.pa 9 rfl ?_
     refine HA.pa 10 rfl ?_
     refine HA.pa 11 rfl ?_ ((POp.sub rfl rfl (by omega) (by omega)).of (congrArg zv hm1))
     refine HA.pa 12 rfl ?_
     refine HA.all [8, 13] (by kernel_rfl) rfl ⟨⟨_, rfl, ?_⟩, ⟨_, rfl, ?_⟩, trivial⟩
     ·refine HO.one ?_
      refine H1.ldg (c := cw3) (n := r.length + 2) (sz := 1) (e := 9) (vs := strs (stW (x :: y :: r))) (i := r.length) rfl memA hw0 rfl ?_
      apply HA.fold
      refine HA.all [13] (by kernel_rfl) rfl ⟨⟨_, rfl, ?_⟩, trivial⟩
      refine HO.one ?_
      refine H1.ldg (c := cw3) (n := r.length + 2) (sz := 1) (e := 9) (vs := strs (stW (x :: y :: r))) (i := r.length + 1) rfl memA hw1' rfl ?_
      apply HA.fold
      refine HA.all [14] (by kernel_rfl) rfl ⟨⟨_, rfl, ?_⟩, trivial⟩
      refine HO.one ?_
      refine H1.callx (vs := [.string y.2, .string x.2]) rfl rfl (fun w' hM => digNode_fn y.2 x.2 (by omega) w' (hG.ext hM.ext)) ?_
      apply HA.fold
      refine HA.all [15] (by kernel_rfl) rfl ⟨⟨_, rfl, ?_⟩, trivial⟩
      refine HO.one ?_
      refine H1.lit (cs := [.string (nodeS y.2 x.2)]) rfl rfl rfl rfl rfl rfl (fun b8 => ?_)
      apply HA.fold
      refine HA.all [16] (by kernel_rfl) rfl ⟨⟨_, rfl, ?_⟩, trivial⟩
      refine HO.one ?_
      refine H1.conv2 (H2 := [A.blk b8 [.string (nodeS y.2 x.2)] 9, A.grow 9 1 (some ⟨bw, 0, none⟩) cw3 r.length (strs (stW r)), A.grow 3 1 (some ⟨bi, 0, none⟩) ci3 (r.length + 2) (ints (stS (x :: y :: r)))]) (fun w hM => hM.growPre2 (i := r.length) (n := r.length + 2) (xs := strs (stW (x :: y :: r))) (by rw [hwc]; exact .there .here) (by omega) (by omega)) ?_
      refine H1.app1 (u := .string (nodeS y.2 x.2)) rfl rfl (fun _ _ => by first | ((repeat (first | with_reducible exact Rpl.here | with_reducible apply Rpl.there)); done) | (repeat (first | exact Rpl.here | apply Rpl.there))) memA rfl rfl (by omega) rfl rfl (fun aw4 cw4 => ?_)
      rw [hwn]
      apply HA.fold
      refine HA.pa 17 rfl ?_
      refine HA.done (by kernel_rfl) ?_
      exact HX.cut (aw4, cw4) trivial esA (by repeat (first | exact Hs.nil _ | (refine Hs.cons pickA ?_)))
     ·refine HO.one ?_
      refine H1.ldg (c := cw3) (n := r.length + 2) (sz := 1) (e := 9) (vs := strs (stW (x :: y :: r))) (i := r.length + 1) rfl memA hw1' rfl ?_
      apply HA.fold
      refine HA.all [8] (by kernel_rfl) rfl ⟨⟨_, rfl, ?_⟩, trivial⟩
      refine HO.one ?_
      refine H1.ldg (c := cw3) (n := r.length + 2) (sz := 1) (e := 9) (vs := strs (stW (x :: y :: r))) (i := r.length) rfl memA hw0 rfl ?_
      apply HA.fold
      refine HA.all [14] (by kernel_rfl) rfl ⟨⟨_, rfl, ?_⟩, trivial⟩
      refine HO.one ?_
      refine H1.callx (vs := [.string y.2, .string x.2]) rfl rfl (fun w' hM => digNode_fn y.2 x.2 (by omega) w' (hG.ext hM.ext)) ?_
      apply HA.fold
      refine HA.all [15] (by kernel_rfl) rfl ⟨⟨_, rfl, ?_⟩, trivial⟩
      refine HO.one ?_
      refine H1.lit (cs := [.string (nodeS y.2 x.2)]) rfl rfl rfl rfl rfl rfl (fun b8 => ?_)
      apply HA.fold
      refine HA.all [16] (by kernel_rfl) rfl ⟨⟨_, rfl, ?_⟩, trivial⟩
      refine HO.one ?_
      refine H1.conv2 (H2 := [A.blk b8 [.string (nodeS y.2 x.2)] 9, A.grow 9 1 (some ⟨bw, 0, none⟩) cw3 r.length (strs (stW r)), A.grow 3 1 (some ⟨bi, 0, none⟩) ci3 (r.length + 2) (ints (stS (x :: y :: r)))]) (fun w hM => hM.growPre2 (i := r.length) (n := r.length + 2) (xs := strs (stW (x :: y :: r))) (by rw [hwc]; exact .there .here) (by omega) (by omega)) ?_
      refine H1.app1 (u := .string (nodeS y.2 x.2)) rfl rfl (fun _ _ => by first | ((repeat (first | with_reducible exact Rpl.here | with_reducible apply Rpl.there)); done) | (repeat (first | exact Rpl.here | apply Rpl.there))) memA rfl rfl (by omega) rfl rfl (fun aw4 cw4 => ?_)
      rw [hwn]
      apply HA.fold
      refine HA.pa 17 rfl ?_
      refine HA.done (by kernel_rfl) ?_
      exact HX.cut (aw4, cw4) trivial esA (by repeat (first | exact Hs.nil _ | (refine Hs.cons pickA ?_)))
    rintro ⟨aw4, cw4⟩ -
    dsimp only
    refine HC.any rfl ?_
    refine HA.pa 0 rfl ?_
    refine HA.pa 1 rfl ?_
    refine HA.pa 2 rfl ?_ ((POp.sub rfl rfl (by omega) (by omega)).of (congrArg zv hm0))
    refine HA.pa 3 rfl ?_
    refine HA.pa 4 rfl ?_
    refine HA.pa 5 rfl ?_
    refine HA.pa 6 rfl ?_ ((POp.sub rfl rfl (by omega) (by omega)).of (congrArg zv hm1))
    refine HA.pa 7 rfl ?_
    refine HA.all [8] (by kernel_rfl) rfl ⟨⟨_, rfl, ?_⟩, trivial⟩
    refine HO.one ?_
    refine H1.ldg (c := ci3) (n := r.length + 2) (sz := 1) (e := 3) (vs := ints (stS (x :: y :: r))) (i := r.length + 1) rfl memA hg1 rfl ?_
    apply HA.fold
    refine HA.pa 9 rfl ?_
    refine HA.all [10] (by kernel_rfl) rfl ⟨⟨_, rfl, ?_⟩, trivial⟩
    refine HO.one ?_
    refine H1.lit (cs := [zv (2 * (x.1 : Int))]) rfl rfl rfl rfl rfl rfl (fun b8 => ?_)
    apply HA.fold
    refine HA.all [11] (by kernel_rfl) rfl ⟨⟨_, rfl, ?_⟩, trivial⟩
    refine HO.one ?_
    refine H1.conv2 (H2 := [A.blk b8 [zv (2 * (x.1 : Int))] 3, A.grow 9 1 (some ⟨aw4, 0, none⟩) cw4 (r.length + 1) (strs (stW ((2 * x.1, nodeS y.2 x.2) :: r))), A.grow 3 1 (some ⟨bi, 0, none⟩) ci3 r.length (ints (stS r))]) (fun w hM => hM.growPre2 (i := r.length) (n := r.length + 2) (xs := ints (stS (x :: y :: r))) (by rw [hsc]; exact .there (.there .here)) (by omega) (by omega)) ?_
    refine H1.app1 (u := zv (2 * (x.1 : Int))) rfl rfl (fun _ _ => by first | ((repeat (first | with_reducible exact Rpl.here | with_reducible apply Rpl.there)); done) | (repeat (first | exact Rpl.here | apply Rpl.there))) memA rfl rfl (by omega) rfl rfl (fun ai4 ci4 => ?_)
    rw [hsn]
    apply HA.fold
    refine HA.pa 12 rfl ?_
    refine HA.done (by kernel_rfl) ?_
    refine hwNB ?_
    exact HX.again ((2 * x.1, nodeS y.2 x.2) :: r, (some ⟨aw4, 0, none⟩, cw4), some ⟨ai4, 0, none⟩, ci4) hnx (by show r.length + 1 < r.length + 2; omega) (by refine ⟨rfl, rfl, ?_, rfl, rfl, rfl, trivial⟩; show some (zv _) = some (zv _); rw [hm1]; rfl) (by repeat (first | exact Hs.nil _ | (refine Hs.cons pickA ?_)))
   ·have hxy' : ¬ (y.1 : Int) = (x.1 : Int) := by omega
    have hto := hI.tos
    rw [mergeR_two, if_neg hxy] at hto
    repeat refine HC.seq ?_
    refine HC.quietS [(some 27, [7], []), (some 28, [27], [0]), (some 29, [28], [1]), (some 30, [4, 29], [2]), (some 31, [7, 29], [2]), (some 32, [31, 29], [4, 2]), (some 33, [30, 32, 29], [3, 5, 2]), (some 34, [33, 29], [6, 2]), (some 35, [4, 29], [2]), (some 36, [7, 29], [2]), (some 37, [36, 29], [9, 2]), (some 38, [35, 37, 29], [8, 10, 2]), (some 39, [38, 29], [11, 2]), (some 40, [34, 39, 29], [7, 12, 2]), (some 41, [29, 40], [2, 13])] (by kernel_rfl) (by kernel_rfl) (by kernel_rfl) ?_
    refine qwA ?_
    refine HQ.ld (a := ⟨bi, r.length, none⟩) (by show some (Value.pointer (some ⟨bi, (((r.length + 2 : Nat) : Int) - 2).toNat, none⟩)) = _; rw [hn0]) (fun w' hM => ownsRow_cell (hM.own (e := 3) (sz := 1) (a := some ⟨bi, 0, none⟩) (c := ci3) (n := r.length + 2) (xs := ints (stS (x :: y :: r))) memA) hg0) rfl ?_
    refine qwA ?_
    refine HQ.ld (a := ⟨bi, r.length + 1, none⟩) (by show some (Value.pointer (some ⟨bi, (((r.length + 2 : Nat) : Int) - 1).toNat, none⟩)) = _; rw [hn1]) (fun w' hM => ownsRow_cell (hM.own (e := 3) (sz := 1) (a := some ⟨bi, 0, none⟩) (c := ci3) (n := r.length + 2) (xs := ints (stS (x :: y :: r))) memA) hg1) rfl ?_
    refine qwA ?_
    refine HQ.nil ?_
    refine hwNB ?_
    exact HX.again (k + 1, (some ⟨bw, 0, none⟩, cw3), some ⟨bi, 0, none⟩, ci3) hlt (by show l.length - (k + 1) < l.length - k; omega) (by dsimp only; rw [← hto]; repeat (first | exact trivial | refine ⟨rfl, ?_⟩)) (by dsimp only; rw [← hto]; exact Hs.refl _)
 have hn : ¬ ((k : Nat) : Int) < (l.length : Int) := by omega
 obtain rfl : k = l.length := by omega
 rw [List.take_length]
 have hroot : rootS l = topS (stkR l) := rfl
 have hle := stk_le l
 have hsz := stk_sz (l := l)
 rw [hroot]
 generalize stkR l = st at hle hsz
 match st, hle, hsz with
 | [], _, _ =>
  have h0 : ((0 : Nat) : Int) = 0 := rfl
  refine hwNB ?_
  refine HL.one (H1.callx (vs := [_]) rfl rfl (fun w' hM => sum_fn ⟨#[]⟩ (by decide) w' (hG.ext hM.ext)) ?_)
  refine hwNB ?_
  refine HX.conv (fun w h => h.dfrs0) ?_
  exact HX.retMs1 (Ds := []) rfl rfl Pick.here fun w' hM => ⟨rfl, hM.ext⟩
 | x :: r, hle, hsz =>
  have hlr : (x :: r).length = r.length + 1 := rfl
  rw [hlr] at hle ⊢
  have h0 : ¬ ((r.length + 1 : Nat) : Int) = 0 := by omega
  have hm1 : ((r.length + 1 : Nat) : Int) - 1 = (r.length : Int) := by omega
  refine HC.openg (e := 9) (sz := 1) (a := aw) (c := cw) (n := r.length + 1) (xs := strs (stW (x :: r))) memA (by omega) ?_
  rintro bw rfl
  refine HC.capOfN (e := 9) (a := some ⟨bw, 0, none⟩) (c := cw) (n := r.length + 1) (xs := strs (stW (x :: r))) memA fun hcw => ?_
  have hget : (strs (stW (x :: r)))[r.length]? = some (.string x.2) := by
   rw [stW_cons]
   unfold strs
   rw [List.map_append, List.getElem?_append_right (by simp [stW_len])]
   simp [stW_len]
  refine hwNB ?_
  refine HL.one (H1.ldg (c := cw) (n := r.length + 1) (sz := 1) (e := 9) (vs := strs (stW (x :: r))) (i := r.length) (by show some (Value.pointer (some ⟨bw, (((r.length + 1 : Nat) : Int) - 1).toNat, none⟩)) = _; rw [show (((r.length + 1 : Nat) : Int) - 1).toNat = r.length by omega]) memA hget rfl ?_)
  refine hwNB ?_
  refine HL.one (H1.alloc (cs := [.string ⟨#[]⟩]) rfl rfl (fun b8 => ?_))
  refine hwNB ?_
  refine HL.one (H1.st (b := b8) rfl rfl (by intro _ h; cases h) (by intro _ h; cases h) rplA (by exact Nat.zero_lt_one) ?_)
  refine hwNB ?_
  rw [show (((r.length + 1 : Nat) : Int) - 1).toNat = r.length by omega]
  refine HL.one (H1.callz (vs := [.slice (some ⟨bw, 0, none⟩) r.length cw]) rfl rfl (fun w' hM => backward_fn (some ⟨bw, 0, none⟩) r.length cw w') ?_)
  rintro b1 -
  refine hwNB ?_
  refine HC.sub [(8, .pointer (some ⟨b8, 0, none⟩)), (89, .func (.func 209) #[] #[.pointer (some ⟨b1, 0, none⟩)])] (A.blk b1 [.slice (some ⟨bw, 0, none⟩) r.length cw] 26 :: A.grow 9 1 (some ⟨bw, 0, none⟩) cw (r.length + 1) (strs (stW (x :: r))) :: [A.blk b8 [.string (topR x.2 (r.take 0))] 9]) ?_ esA (by repeat (first | exact Hs.nil _ | (refine Hs.cons pickA ?_)))
  refine HC.rangeFunc (α := Unit) (lb := [.pointer (some ⟨b1, 0, none⟩)]) (fun _ => A.blk b1 [.slice (some ⟨bw, 0, none⟩) r.length cw] 26 :: A.grow 9 1 (some ⟨bw, 0, none⟩) cw (r.length + 1) (strs (stW (x :: r))) :: [A.blk b8 [.string (topR x.2 (r.take r.length))] 9]) (fun _ => True) rfl ?_ ?_
  ·intro D lp L hL w1 hM1
   refine backward1_fn (Hq := fun q => [A.blk b8 [.string (topR x.2 (r.take q))] 9]) (by omega) (by rw [stW_len]; rfl) (by omega) ?_ w1 hM1
   intro q y hq hy
   have hrq : ∃ z, r[q]? = some z ∧ z.2 = y := by
    rw [stW_cons, List.getElem?_append_left (by rw [stW_len]; omega)] at hy
    unfold stW at hy
    rw [List.getElem?_reverse (by rw [List.length_map]; omega), List.length_map, show r.length - 1 - (r.length - 1 - q) = q by omega, List.getElem?_map] at hy
    cases hz : r[q]? with
    | none => rw [hz] at hy; cases hy
    | some z => rw [hz] at hy; cases hy; exact ⟨z, rfl, rfl⟩
   obtain ⟨z, hz, rfl⟩ := hrq
   have hst := topR_take x.2 r q z hz
   have hzs := hsz z (.tail _ (List.mem_of_getElem? hz))
   have hts : (topR x.2 (r.take q)).size = 32 := by
    have hx := hsz x (.head _)
    have key : ∀ (m : List (Nat × ByteArray)) (o : ByteArray), o.size = 32 → (topR o m).size = 32 := by
     intro m
     induction m with
     | nil => exact fun o ho => ho
     | cons y m ih => exact fun o ho => ih _ (nodeS_size _ _)
    exact key _ _ hx
   refine Yld.ofH hL memA rfl rfl ?_
   dsimp only [List.zip_cons_cons, List.zip_nil_right, putAll]
   refine hwNB ?_
   refine HX.ra hL rplA ?_
   refine hwNB ?_
   refine HL.one (H1.callx (vs := [.string z.2, .string (topR x.2 (r.take q))]) rfl rfl (fun w' hM => digNode_fn _ _ (by omega) w' (hG.ext hM.ext)) ?_)
   rw [← hst]
   refine hwNB ?_
   refine HL.one (H1.st (b := b8) rfl rfl (by intro _ h; cases h) (by intro _ h; cases h) rplA (by exact Nat.zero_lt_one) ?_)
   refine hwNB ?_
   exact HX.rp_n hL rplA fun w' hM => ⟨rfl, (), trivial, hM⟩
  ·rintro D - -
   rw [List.take_length]
   refine hwNB ?_
   refine HX.conv (fun w h => (h.dfrs0.perm (List.Perm.swap _ _ _)).dfrs1) ?_
   exact HX.retMs1 (Ds := [D]) rfl rfl Pick.here fun w' hM => ⟨rfl, hM.ext⟩
end Go.Sx
/- Chapter 24: the root of a state, equality of states, Root: the walks. -/
namespace Go.Sx
open Go Go.Proofs Go.RowKit
theorem nd_ok {l : List Nd} (hv : ValidP l) {i : Nat} (hi : i < l.length) : NdOk (ndAt l i) := by
 have h := hasN_iff.1 (hv.node i hi)
 have h1 := h.id; have h2 := h.pack; have h3 := h.kind1; have h4 := h.kind5; have h5 := h.len
 unfold idOk at h1 h2
 refine ⟨h5, fun x hx => ?_⟩
 unfold leafN at hx
 rcases List.mem_append.1 hx with hx | hx
 ·simp only [List.mem_cons, List.not_mem_nil, or_false] at hx
  rcases hx with rfl | rfl | rfl | rfl <;> omega
 ·obtain ⟨j, hj, rfl⟩ := hv.src hi hx
  have h6 := (hasN_iff.1 (hv.node j (by omega))).id
  unfold idOk at h6
  omega
theorem zipAt {l : List Nd} {D : List ByteArray} (h : l.length = D.length) {i : Nat} (hi : i < l.length) : (l.zip D)[i]? = some (ndAt l i, getB D i) := by
 rw [List.getElem?_zip_eq_some]
 refine ⟨ndAt_get hi, ?_⟩
 unfold getB; simp [show i < D.length by omega]
theorem zip_take {l : List Nd} {D : List ByteArray} (h : l.length = D.length) {i : Nat} (hi : i < l.length) : (l.zip D).take (i + 1) = (l.zip D).take i ++ [(ndAt l i, getB D i)] := by
 rw [List.take_add_one, zipAt h hi]; rfl
theorem leafB_size {n : Nd} {d : ByteArray} (hn : NdOk n) (hd : d.size ≤ 1000) : (leafB n d).size ≤ 2000 := by
 unfold leafB
 have h1 := numsB_size (l := leafN n) fun x hx => (hn.num x hx).2
 have h2 := hn.len
 have h3 : (leafN n).length = 4 + n.src.length := by unfold leafN; rw [List.length_append]; rfl
 rw [ByteArray.size_append]
 omega
theorem eqNs_take {l m : List Nd} {k : Nat} (h1 : k < l.length) (h2 : k < m.length) (hk : l.take k = m.take k) : (eqNd (ndAt l k) (ndAt m k) = true → l.take (k + 1) = m.take (k + 1)) ∧ (eqNd (ndAt l k) (ndAt m k) = false → eqNs l m = false) := by
 constructor
 ·intro h
  rw [ndAt_take h1, ndAt_take h2, hk, eqNd_iff.1 h]
 ·intro h
  rw [← Bool.not_eq_true, eqNs_iff]
  rintro rfl
  rw [eqNd_iff.2 rfl] at h
  cases h
theorem rdN_some {w : World} {a : Option Addr} {c : Nat} {l : List Nd} {U : Nat → Value} (h : RdN w (.slice a l.length c) l U) {i : Nat} (hi : i < l.length) : ∃ b off, a = some ⟨b, off, none⟩ := by
 obtain ⟨b, off, h1, -⟩ := h.cell hi
 exact ⟨b, off, h1⟩
attribute [local irreducible] WC WL WX POp Then Again Fn NX W1 WA WO QL RP RA Yld LoopAt HC HL HX HN H1 HA HO HQ HB HP A.blk A.grow A.rd A.obj A.mp AgainH CutH
attribute [local irreducible] A.mq A.mit sumS rootS
set_option maxHeartbeats 1000000 in
theorem stRoot_fn {v g : Value} {l : List Nd} {D : List ByteArray} {U : Nat → Value} (hlD : l.length = D.length) (hl : l.length ≤ 400) (hok : ∀ i, i < l.length → NdOk (ndAt l i)) (hd : ∀ d ∈ D, d.size ≤ 1000) (w : World) (hG : RoundG w) (hR : RdN w v l U) (hS : Rd w g (strs D)) :
  Fn Tryz.prog 36 #[.agg #[v, g]] w fun u w' => u = .string (rootP (l.zip D)) ∧ Ext w w' := by
 obtain ⟨a, c, rfl, hc, -⟩ := id hR.shape
 obtain ⟨a2, c2, rfl, hc2⟩ : ∃ a c, g = .slice a D.length c ∧ D.length ≤ c := by
  obtain ⟨a, c, h1, h2, -⟩ := id hS
  rw [strs_len] at h1 h2
  exact ⟨a, c, h1, h2⟩
 have hzl : (l.zip D).length = l.length := by rw [List.length_zip]; omega
 refine enterH (l := [_]) rfl Tryz.ntmps36 rfl ?_
 refine HC.grow0 9 1 ?_
 refine hwNB ?_
 refine HL.one (H1.boxAgg (cs := [.slice a l.length c, .slice a2 D.length c2]) rfl rfl (fun b1 => ?_))
 refine hwNB ?_
 refine HC.loop (α := Nat × Option Addr × Nat) (fun q => [(1, .pointer (some ⟨b1, 0, none⟩)), (3, .slice q.2.1 q.1 q.2.2), (6, .slice a l.length c), (7, zv (l.length : Int)), (8, zv (q.1 : Int))]) (fun q => [A.blk b1 [.slice a l.length c, .slice a2 D.length c2] 80, A.grow 9 1 q.2.1 q.2.2 q.1 (strs (((l.zip D).take q.1).map leafP))]) (fun q => q.1 ≤ l.length) (fun q => l.length - q.1) (0, none, 0) (Nat.zero_le _) esA (by repeat (first | exact Hs.nil _ | (refine Hs.cons pickA ?_))) ?_
 rintro ⟨k, a1, c1⟩ hk
 dsimp only at hk ⊢
 by_cases hlt : k < l.length
 ·have hn : ((k : Nat) : Int) < (l.length : Int) := by omega
  have hst : strs (((l.zip D).take k).map leafP) ++ [.string (leafB (ndAt l k) (getB D k))] = strs (((l.zip D).take (k + 1)).map leafP) := by rw [zip_take hlD hlt, List.map_append, strs_snoc]; rfl
  obtain ⟨b0, off0, rfl⟩ := rdN_some hR hlt
  have hdk := hd (getB D k) (getB_mem (by omega))
  refine hwNB ?_
  refine HL.one (H1.ldAgg (vs := [.slice (some ⟨b0, off0, none⟩) l.length c, .slice a2 D.length c2]) rfl memA rfl (fun i v h => by rwa [Nat.zero_add]) rfl ?_)
  refine hwNB ?_
  refine HL.one (H1.callx (vs := [.agg #[.slice (some ⟨b0, off0, none⟩) l.length c, .slice a2 D.length c2], zv (k : Int)]) rfl rfl (fun w' hM => leaf_fn hlt hlD (by omega) (hok k hlt) hdk w' (hR.ext hM.ext) (hS.ext hM.ext)) ?_)
  refine hwNB ?_
  refine HL.one (H1.lit (cs := [.string (leafB (ndAt l k) (getB D k))]) rfl rfl rfl rfl rfl rfl (fun b8 => ?_))
  refine hwNB ?_
  refine HL.one (H1.app1 (u := .string (leafB (ndAt l k) (getB D k))) rfl rfl (fun _ _ => by first | ((repeat (first | with_reducible exact Rpl.here | with_reducible apply Rpl.there)); done) | (repeat (first | exact Rpl.here | apply Rpl.there))) memA rfl rfl (by omega) rfl rfl (fun a' c' => ?_))
  rw [hst]
  refine hwNB ?_
  exact HX.again (k + 1, some ⟨a', 0, none⟩, c') hlt (by show l.length - (k + 1) < l.length - k; omega) esA (by repeat (first | exact Hs.nil _ | (refine Hs.cons pickA ?_)))
 have hn : ¬ ((k : Nat) : Int) < (l.length : Int) := by omega
 obtain rfl : k = l.length := by omega
 rw [← hzl, List.take_length]
 have hml : ((l.zip D).map leafP).length = (l.zip D).length := List.length_map ..
 refine hwNB ?_
 refine HL.one (H1.callx (vs := [.slice a1 (l.zip D).length c1]) rfl rfl (fun w' hM => by
  have := Mm.gr (e := 9) (a := a1) (c := c1) (xs := strs ((l.zip D).map leafP)) hM memA
  rw [← hml] at this ⊢
  refine digRoot_fn (l := (l.zip D).map leafP) (by omega) (fun s hs => ?_) w' (hG.ext hM.ext) this
  obtain ⟨q, hq, rfl⟩ := List.mem_map.1 hs
  obtain ⟨i, hi, rfl⟩ := List.mem_iff_getElem.1 hq
  rw [hzl] at hi
  have h2 := zipAt hlD hi
  rw [List.getElem?_eq_getElem (by omega)] at h2
  rw [Option.some.inj h2]
  have := leafB_size (hok i hi) (hd _ (getB_mem (l := D) (i := i) (by omega)))
  unfold leafP
  dsimp only
  omega) ?_)
 refine hwNB ?_
 exact HX.ret1 rfl rfl fun w' hM => ⟨rfl, hM.ext⟩
end Go.Sx
/- Chapter 24: the two parts of a state: the walk. -/
namespace Go.Sx
open Go Go.Proofs Go.RowKit
abbrev NdZ : Type := Nd × Option Addr × Nat
def vZ (x : NdZ) : Value := .slice x.2.1 x.1.src.length x.2.2
def ndsV (z : List NdZ) : List Value := z.flatMap fun x => ndC x.1 (vZ x)
def rowsA (z : List NdZ) : List Atom := z.map fun x => A.grow 3 1 x.2.1 x.2.2 x.1.src.length (ints x.1.src)
theorem rowsA_snoc (z : List NdZ) (x : NdZ) : rowsA (z ++ [x]) = rowsA z ++ [A.grow 3 1 x.2.1 x.2.2 x.1.src.length (ints x.1.src)] := by unfold rowsA; rw [List.map_append]; rfl
theorem ndsV_snoc (z : List NdZ) (x : NdZ) : ndsV (z ++ [x]) = ndsV z ++ ndC x.1 (vZ x) := by unfold ndsV; rw [List.flatMap_append]; simp
theorem ndsV_get : ∀ {z : List NdZ} {i : Nat} {x : NdZ}, z[i]? = some x → ∀ {j : Nat}, j < 4 → (ndsV z)[i * 4 + j]? = (ndC x.1 (vZ x))[j]?
 | [], _, _, h, _, _ => by simp at h
 | y :: z, 0, x, h, j, hj => by
  cases h
  have : ndsV (y :: z) = ndC y.1 (vZ y) ++ ndsV z := rfl
  rw [this, Nat.zero_mul, Nat.zero_add, List.getElem?_append_left hj]
 | y :: z, i + 1, x, h, j, hj => by
  have : ndsV (y :: z) = ndC y.1 (vZ y) ++ ndsV z := rfl
  have hl : (ndC y.1 (vZ y)).length = 4 := rfl
  rw [this, List.getElem?_append_right (by rw [hl]; omega), hl, show (i + 1) * 4 + j - 4 = i * 4 + j by omega]
  exact ndsV_get (by simpa using h) hj
def ndsZ (z : List NdZ) : List Nd := z.map Prod.fst
def adrZ (z : List NdZ) (i : Nat) : Value := vZ (z.getD i default)
theorem ndsZ_len (z : List NdZ) : (ndsZ z).length = z.length := List.length_map ..
theorem Mm.rdN {w0 w : World} {H : List Atom} {a : Option Addr} {c : Nat} {z : List NdZ} (hM : Mm w0 H w) (h1 : A.grow 39 4 a c z.length (ndsV z) ∈ H) (h2 : A.all (rowsA z) ∈ H) : RdN w (.slice a z.length c) (ndsZ z) (adrZ z) := by
 have hown := hM.own h1
 have hall := hM.all _ h2
 have hat : ∀ i, i < z.length → z[i]? = some (z.getD i default) := fun i hi => by simp [hi]
 have hnd : ∀ i, i < z.length → ndAt (ndsZ z) i = (z.getD i default).1 := fun i hi => by unfold ndAt ndsZ; simp [hi]
 refine ⟨⟨a, c, by rw [ndsZ_len], ?_, ?_⟩, fun i hi => ?_⟩
 ·rw [ndsZ_len]
  rcases hown.2 with ⟨-, h0⟩ | ⟨g, cap, cur, hv, -, -, hnc, -⟩
  ·omega
  ·cases hv; exact hnc
 ·rcases Nat.eq_zero_or_pos z.length with h0 | h0
  ·exact .inl (by rw [List.length_eq_zero_iff.1 h0]; rfl)
  ·rcases own_shape hown with ⟨a', c', e, h⟩
   cases e
   rcases h with h | ⟨b, rfl⟩
   ·omega
   ·refine .inr ⟨b, 0, rfl, fun i hi j u hu => ?_⟩
    rw [ndsZ_len] at hi
    rw [hnd i hi] at hu
    have hj : j < 4 := (List.getElem?_eq_some_iff.1 hu).1
    rw [Nat.zero_add]
    exact ownsRow_cell hown (by rw [ndsV_get (hat i hi) hj]; exact hu)
 ·rw [ndsZ_len] at hi
  rw [hnd i hi]
  unfold adrZ vZ
  have := hall (A.grow 3 1 (z.getD i default).2.1 (z.getD i default).2.2 (z.getD i default).1.src.length (ints (z.getD i default).1.src)) (List.mem_map.2 ⟨_, List.mem_of_getElem? (hat i hi), rfl⟩)
  exact Rd.of_owns this
def prK (l : List Nd) (D : List ByteArray) (g : List Int) (b : Bool) (k : Nat) : List (Nd × ByteArray) := ((l.zip D).take k).filter fun q => decide (q.1.id ∈ g) == b
theorem prK_yes {l : List Nd} {D : List ByteArray} (h : l.length = D.length) {g : List Int} {b : Bool} {k : Nat} (hk : k < l.length) (hq : (decide ((ndAt l k).id ∈ g) == b) = true) : prK l D g b (k + 1) = prK l D g b k ++ [(ndAt l k, getB D k)] := by
 unfold prK
 rw [zip_take h hk, List.filter_append]
 congr 1
 rw [List.filter_cons]
 dsimp only
 rw [if_pos hq]; rfl
theorem prK_no {l : List Nd} {D : List ByteArray} (h : l.length = D.length) {g : List Int} {b : Bool} {k : Nat} (hk : k < l.length) (hq : (decide ((ndAt l k).id ∈ g) == b) = false) : prK l D g b (k + 1) = prK l D g b k := by
 unfold prK
 rw [zip_take h hk, List.filter_append, List.filter_cons]
 dsimp only
 rw [if_neg (by rw [hq]; decide), List.filter_nil, List.append_nil]
theorem prK_all {l : List Nd} {D : List ByteArray} (h : l.length = D.length) (g : List Int) (b : Bool) : prK l D g b l.length = prN l D g b := by
 unfold prK prN
 rw [List.take_of_length_le (by rw [List.length_zip]; omega)]
theorem prK_len (l : List Nd) (D : List ByteArray) (g : List Int) (b : Bool) (k : Nat) : (prK l D g b k).length ≤ k := by
 unfold prK
 refine Nat.le_trans (List.length_filter_le _ _) ?_
 rw [List.length_take]; omega
attribute [local irreducible] WC WL WX POp Then Again Fn NX W1 WA WO QL RP RA Yld LoopAt HC HL HX HN H1 HA HO HQ HB HP A.blk A.grow A.rd A.obj A.mp AgainH CutH
attribute [local irreducible] A.mq A.mit HU HV A.all
set_option maxHeartbeats 2000000 in
theorem part_fn {v g : Value} {l : List Nd} {D : List ByteArray} {U : Nat → Value} {bg : Nat} {m : List Int} (b : Bool) (hlD : l.length = D.length) (hl : l.length ≤ 400000) (hls : ∀ i, i < l.length → (ndAt l i).src.length ≤ 1000000) (w : World) (hR : RdN w v l U) (hS : Rd w g (strs D)) (hm : SetW w bg m) :
  Fn Tryz.prog 32 #[.agg #[v, g], .map (some bg), .bool b] w fun u w' => ∃ z : List NdZ × (Option Addr × Nat) × (Option Addr × Nat), ndsZ z.1 = ndsP (prN l D m b) ∧ u = .agg #[.slice z.2.1.1 z.1.length z.2.1.2, .slice z.2.2.1 z.1.length z.2.2.2] ∧
   Mm w [A.grow 39 4 z.2.1.1 z.2.1.2 z.1.length (ndsV z.1), A.grow 9 1 z.2.2.1 z.2.2.2 z.1.length (strs (digP (prN l D m b))), A.all (rowsA z.1)] w' := by
 obtain ⟨a, c, rfl, hc, -⟩ := id hR.shape
 obtain ⟨a2, c2, rfl, hc2⟩ : ∃ a c, g = .slice a D.length c ∧ D.length ≤ c := by
  obtain ⟨a, c, h1, h2, -⟩ := id hS
  rw [strs_len] at h1 h2
  exact ⟨a, c, h1, h2⟩
 refine enterH (l := [_, _, _]) rfl Tryz.ntmps32 rfl ?_
 refine HC.grow0 39 4 ?_
 refine HC.grow0 9 1 ?_
 refine HC.conv (H2 := A.all (rowsA []) :: [A.grow 9 1 none 0 0 [], A.grow 39 4 none 0 0 []]) (fun w h => h.allNil) ?_
 refine hwNB ?_
 refine HL.one (H1.boxAgg (cs := [.slice a l.length c, .slice a2 D.length c2]) rfl rfl (fun b3 => ?_))
 refine hwNB ?_
 refine HL.one (H1.alloc (cs := [.slice none 0 0, .slice none 0 0]) rfl rfl (fun b6 => ?_))
 refine hwNB ?_
 refine HC.loop (α := Nat × List NdZ × (Option Addr × Nat) × (Option Addr × Nat)) (fun q => [(1, .map (some bg)), (2, .bool b), (3, .pointer (some ⟨b3, 0, none⟩)), (6, .pointer (some ⟨b6, 0, none⟩)), (10, .slice a l.length c), (11, zv (l.length : Int)), (12, zv (q.1 : Int))])
  (fun q => [A.blk b3 [.slice a l.length c, .slice a2 D.length c2] 80, A.blk b6 [.slice q.2.2.1.1 q.2.1.length q.2.2.1.2, .slice q.2.2.2.1 q.2.1.length q.2.2.2.2] 80, A.grow 39 4 q.2.2.1.1 q.2.2.1.2 q.2.1.length (ndsV q.2.1), A.grow 9 1 q.2.2.2.1 q.2.2.2.2 q.2.1.length (strs (digP (prK l D m b q.1))), A.all (rowsA q.2.1)])
  (fun q => q.1 ≤ l.length ∧ ndsZ q.2.1 = ndsP (prK l D m b q.1)) (fun q => l.length - q.1) (0, [], (none, 0), (none, 0)) ⟨Nat.zero_le _, rfl⟩ esA (by repeat (first | exact Hs.nil _ | (refine Hs.cons pickA ?_))) ?_
 rintro ⟨k, z, ⟨an, cn⟩, ad, cd⟩ ⟨hk, hz⟩
 dsimp only at hk hz ⊢
 have hzl := congrArg List.length hz
 rw [ndsZ_len, ndsP_len] at hzl
 have hkl := prK_len l D m b k
 by_cases hlt : k < l.length
 rotate_left
 ·have hn : ¬ ((k : Nat) : Int) < (l.length : Int) := by omega
  obtain rfl : k = l.length := by omega
  rw [prK_all hlD] at hz ⊢
  refine hwNB ?_
  refine HL.one (H1.ldAgg (b := b6) (vs := [.slice an z.length cn, .slice ad z.length cd]) rfl memA rfl (fun i v h => by rwa [Nat.zero_add]) rfl ?_)
  refine hwNB ?_
  refine HL.one (H1.stAgg (b := b6) (cs := [.slice an z.length cn, .slice ad z.length cd]) (vs := [.slice an z.length cn, .slice ad z.length cd]) rfl rfl rfl (by intro v hv; simp only [List.mem_cons, List.not_mem_nil, or_false] at hv; rcases hv with rfl | rfl <;> rfl) rplA rfl ?_)
  refine hwNB ?_
  exact HX.retc1 (b := b6) (cs := [.slice an z.length cn, .slice ad z.length cd]) rfl rfl memA rfl fun w' hM => ⟨(z, (an, cn), ad, cd), hz, rfl, hM.sub (by repeat (first | exact Hs.nil _ | (refine Hs.cons pickA ?_)))⟩
 have hn : ((k : Nat) : Int) < (l.length : Int) := by omega
 obtain ⟨b0, off0, rfl, hb⟩ := hR.cell hlt
 have hx := hb k hlt
 have hsx := hR.src k hlt
 have hlx := hls k hlt
 obtain ⟨bd, offd, rfl⟩ := rd_addr hS (j := k) (by omega)
 have hdc := hS.cell (strs_getB (l := D) (i := k) (by omega))
 have hyes := prK_yes hlD (g := m) (b := b) hlt
 have hno := prK_no hlD (g := m) (b := b) hlt
 have hUk := rd_one hsx
 generalize ndAt l k = n at hx hsx hlx hyes hno
 generalize getB D k = d at hdc hyes
 generalize U k = u at hx hsx hUk
 refine hwNB ?_
 refine HL.one (H1.ldAggw (b := b0) (off := off0 + k * 4) (vs := ndC n u) rfl rfl (fun w' hM j u hu => cell_ext hM.ext (hx j u hu)) rfl ?_)
 refine hwNB ?_
 refine HL.one (H1.alloc (cs := ndC ⟨0, 0, 0, []⟩ (.slice none 0 0)) rfl rfl (fun b8 => ?_))
 refine hwNB ?_
 refine HL.one (H1.stAgg (b := b8) (cs := ndC ⟨0, 0, 0, []⟩ (.slice none 0 0)) (vs := ndC n u) rfl rfl rfl (nd_one hUk) rplA rfl ?_)
 refine hwNB ?_
 refine HL.one (H1.callx (vs := [_, _]) rfl rfl (fun w' hM => setHas_fn n.id w' (hm.ext hM.ext)) ?_)
 cases hq : (decide (n.id ∈ m) == b) with
 | false =>
  have hpk := hno hq
  rw [← hpk] at hz ⊢
  refine hwNB ?_
  exact HX.again (k + 1, z, (an, cn), ad, cd) ⟨hlt, hz⟩ (by show l.length - (k + 1) < l.length - k; omega) esA (by repeat (first | exact Hs.nil _ | (refine Hs.cons pickA ?_)))
 | true =>
  have hpk := hyes hq
  have hdg : strs (digP (prK l D m b k)) ++ [.string d] = strs (digP (prK l D m b (k + 1))) := by rw [hpk, strs_snoc]; unfold digP; rw [List.map_append]; rfl
  refine hwNB ?_
  refine HL.one (H1.callz (vs := [u]) rfl rfl (fun w' hM => clone_fn u n.src hlx w' (hsx.ext hM.ext)) ?_)
  rintro ⟨az, cz⟩ -
  dsimp only
  refine hwNB ?_
  refine HL.one (H1.st (b := b8) (i := 3) rfl rfl (by intro _ h; cases h) (by intro _ h; cases h) rplA (by show 3 < 4; decide) ?_)
  rw [show (ndC n u).set 3 (.slice az n.src.length cz) = ndC n (vZ (n, az, cz)) from rfl]
  refine hbDE ?_
  have hnv : ndsV z ++ ndC n (vZ (n, az, cz)) = ndsV (z ++ [(n, az, cz)]) := (ndsV_snoc z (n, az, cz)).symm
  have hzn : ndsZ (z ++ [(n, az, cz)]) = ndsP (prK l D m b (k + 1)) := by
   rw [hpk]
   unfold ndsZ ndsP at hz ⊢
   rw [List.map_append, List.map_append, hz]; rfl
  have hz1 : (z ++ [(n, az, cz)]).length = z.length + 1 := by rw [List.length_append]; rfl
  refine HC.anyU ([(15, ⟨b6, 0, none⟩, .slice an z.length cn), (17, ⟨b6, 1, none⟩, .slice ad z.length cd), (17, ⟨b3, 1, none⟩, .slice (some ⟨bd, offd, none⟩) D.length c2), (17, ⟨bd, offd + k, none⟩, .string d)]) rfl ?_
  refine HU.pa 0 rfl ?_
  refine HU.ld 1 rfl rfl memD ?_
  refine HU.pa 5 rfl ?_
  refine HU.ld 6 rfl rfl memD ?_
  refine HU.pa 7 rfl ?_
  refine HU.ld 8 rfl rfl memD ?_
  refine HU.pa 9 rfl ?_
  refine HU.pa 10 rfl ?_
  refine HU.ld 11 rfl rfl memD ?_
  refine HU.all (kU (kU (kU (kU KeepU.nil)))) [2, 12] (by kernel_rfl) rfl ⟨⟨_, rfl, ?_⟩, ⟨_, rfl, ?_⟩, trivial⟩
  ·refine HV.one ?_
   refine H1.ldAgg (b := b8) (vs := ndC n (vZ (n, az, cz))) rfl memA rfl (fun i v hv => by rw [Nat.zero_add]; exact hv) rfl ?_
   apply HU.fold
   refine HU.all (kU (kU (kU (kU KeepU.nil)))) [3, 12] (by kernel_rfl) rfl ⟨⟨_, rfl, ?_⟩, ⟨_, rfl, ?_⟩, trivial⟩
   ·refine HV.one ?_
    refine H1.lit (cs := ndC n (vZ (n, az, cz))) rfl rfl rfl rfl rfl rfl (fun b9 => ?_)
    apply HU.fold
    refine HU.all (kU (kU (kU (kU KeepU.nil)))) [4, 12] (by kernel_rfl) rfl ⟨⟨_, rfl, ?_⟩, ⟨_, rfl, ?_⟩, trivial⟩
    ·refine HV.one ?_
     refine H1.app (sz := 4) (m := 1) (news := ndC n (vZ (n, az, cz))) rfl (by decide) rfl rfl (fun _ _ => by first | ((repeat (first | with_reducible exact Rpl.here | with_reducible apply Rpl.there)); done) | (repeat (first | exact Rpl.here | apply Rpl.there))) rfl (fun w' hM j u hj => by rw [add_lit, Nat.zero_add]; exact (hM.blk (b := b9) memA).cell hj) (nd_one rfl) (by omega) (by decide) rfl (fun an2 cn2 _ => ?_)
     rw [hnv]
     apply HU.fold
     refine HU.pa 14 rfl ?_
     refine HU.all (kU (kU (kU (kU KeepU.nil)))) [12] (by kernel_rfl) rfl ⟨⟨_, rfl, ?_⟩, trivial⟩
     refine HV.one ?_
     refine H1.lit (cs := [.string d]) rfl rfl rfl rfl rfl rfl (fun b10 => ?_)
     apply HU.fold
     refine HU.all (kU (kU (kU (kU KeepU.nil)))) [13] (by kernel_rfl) rfl ⟨⟨_, rfl, ?_⟩, trivial⟩
     refine HV.one ?_
     refine H1.app1 (u := .string d) rfl rfl (fun _ _ => by first | ((repeat (first | with_reducible exact Rpl.here | with_reducible apply Rpl.there)); done) | (repeat (first | exact Rpl.here | apply Rpl.there))) memA rfl rfl (by omega) rfl rfl (fun ad2 cd2 => ?_)
     rw [hdg]
     apply HU.fold
     refine HU.all (kU (kU (kU (kU KeepU.nil)))) [15] (by kernel_rfl) rfl ⟨⟨_, rfl, ?_⟩, trivial⟩
     refine HV.one ?_
     refine H1.st (b := b6) (i := 0) rfl rfl (by intro _ h; cases h) (by intro _ h; cases h) rplA (by show 0 < 2; decide) ?_
     apply HU.fold
     refine HU.pa 16 rfl ?_
     refine HU.all (KeepU.skip (by kernel_rfl) (kU (kU (kU KeepU.nil)))) [17] (by kernel_rfl) rfl ⟨⟨_, rfl, ?_⟩, trivial⟩
     refine HV.one ?_
     refine H1.st (b := b6) (i := 1) rfl rfl (by intro _ h; cases h) (by intro _ h; cases h) rplA (by show 1 < 2; decide) ?_
     apply HU.fold
     refine HU.done (KeepU.skip (by kernel_rfl) (KeepU.skip (by kernel_rfl) (KeepU.skip (by kernel_rfl) (KeepU.skip (by kernel_rfl) KeepU.nil)))) (by kernel_rfl) ?_
     refine HX.conv (H2 := A.all (rowsA (z ++ [(n, az, cz)])) :: [A.blk b3 [.slice (some ⟨b0, off0, none⟩) l.length c, .slice (some ⟨bd, offd, none⟩) D.length c2] 80, A.blk b6 [.slice an2 (z.length + 1) cn2, .slice (some ⟨ad2, 0, none⟩) (z.length + 1) cd2] 80, A.grow 39 4 an2 cn2 (z.length + 1) (ndsV (z ++ [(n, az, cz)])), A.grow 9 1 (some ⟨ad2, 0, none⟩) cd2 (z.length + 1) (strs (digP (prK l D m b (k + 1))))]) (fun w h => by
      rw [rowsA_snoc]
      exact Mm.allAdd (h.sub (Hs.cons (a := A.grow 3 1 az cz n.src.length (ints n.src)) pickA (Hs.cons (a := A.all (rowsA z)) pickA (by repeat (first | exact Hs.nil _ | (refine Hs.cons pickA ?_))))))) ?_
     refine hwNB ?_
     exact HX.again (k + 1, z ++ [(n, az, cz)], (an2, cn2), some ⟨ad2, 0, none⟩, cd2) ⟨hlt, hzn⟩ (by show l.length - (k + 1) < l.length - k; omega) esA (by dsimp only; rw [hz1]; repeat (first | exact Hs.nil _ | (refine Hs.cons pickA ?_)))
    ·refine HV.one ?_
     refine H1.lit (cs := [.string d]) rfl rfl rfl rfl rfl rfl (fun b10 => ?_)
     apply HU.fold
     refine HU.all (kU (kU (kU (kU KeepU.nil)))) [4] (by kernel_rfl) rfl ⟨⟨_, rfl, ?_⟩, trivial⟩
     refine HV.one ?_
     refine H1.app (sz := 4) (m := 1) (news := ndC n (vZ (n, az, cz))) rfl (by decide) rfl rfl (fun _ _ => by first | ((repeat (first | with_reducible exact Rpl.here | with_reducible apply Rpl.there)); done) | (repeat (first | exact Rpl.here | apply Rpl.there))) rfl (fun w' hM j u hj => by rw [add_lit, Nat.zero_add]; exact (hM.blk (b := b9) memA).cell hj) (nd_one rfl) (by omega) (by decide) rfl (fun an2 cn2 _ => ?_)
     rw [hnv]
     apply HU.fold
     refine HU.pa 14 rfl ?_
     refine HU.all (kU (kU (kU (kU KeepU.nil)))) [13] (by kernel_rfl) rfl ⟨⟨_, rfl, ?_⟩, trivial⟩
     refine HV.one ?_
     refine H1.app1 (u := .string d) rfl rfl (fun _ _ => by first | ((repeat (first | with_reducible exact Rpl.here | with_reducible apply Rpl.there)); done) | (repeat (first | exact Rpl.here | apply Rpl.there))) memA rfl rfl (by omega) rfl rfl (fun ad2 cd2 => ?_)
     rw [hdg]
     apply HU.fold
     refine HU.all (kU (kU (kU (kU KeepU.nil)))) [15] (by kernel_rfl) rfl ⟨⟨_, rfl, ?_⟩, trivial⟩
     refine HV.one ?_
     refine H1.st (b := b6) (i := 0) rfl rfl (by intro _ h; cases h) (by intro _ h; cases h) rplA (by show 0 < 2; decide) ?_
     apply HU.fold
     refine HU.pa 16 rfl ?_
     refine HU.all (KeepU.skip (by kernel_rfl) (kU (kU (kU KeepU.nil)))) [17] (by kernel_rfl) rfl ⟨⟨_, rfl, ?_⟩, trivial⟩
     refine HV.one ?_
     refine H1.st (b := b6) (i := 1) rfl rfl (by intro _ h; cases h) (by intro _ h; cases h) rplA (by show 1 < 2; decide) ?_
     apply HU.fold
     refine HU.done (KeepU.skip (by kernel_rfl) (KeepU.skip (by kernel_rfl) (KeepU.skip (by kernel_rfl) (KeepU.skip (by kernel_rfl) KeepU.nil)))) (by kernel_rfl) ?_
     refine HX.conv (H2 := A.all (rowsA (z ++ [(n, az, cz)])) :: [A.blk b3 [.slice (some ⟨b0, off0, none⟩) l.length c, .slice (some ⟨bd, offd, none⟩) D.length c2] 80, A.blk b6 [.slice an2 (z.length + 1) cn2, .slice (some ⟨ad2, 0, none⟩) (z.length + 1) cd2] 80, A.grow 39 4 an2 cn2 (z.length + 1) (ndsV (z ++ [(n, az, cz)])), A.grow 9 1 (some ⟨ad2, 0, none⟩) cd2 (z.length + 1) (strs (digP (prK l D m b (k + 1))))]) (fun w h => by
      rw [rowsA_snoc]
      exact Mm.allAdd (h.sub (Hs.cons (a := A.grow 3 1 az cz n.src.length (ints n.src)) pickA (Hs.cons (a := A.all (rowsA z)) pickA (by repeat (first | exact Hs.nil _ | (refine Hs.cons pickA ?_))))))) ?_
     refine hwNB ?_
     exact HX.again (k + 1, z ++ [(n, az, cz)], (an2, cn2), some ⟨ad2, 0, none⟩, cd2) ⟨hlt, hzn⟩ (by show l.length - (k + 1) < l.length - k; omega) esA (by dsimp only; rw [hz1]; repeat (first | exact Hs.nil _ | (refine Hs.cons pickA ?_)))
   ·refine HV.one ?_
    refine H1.lit (cs := [.string d]) rfl rfl rfl rfl rfl rfl (fun b10 => ?_)
    apply HU.fold
    refine HU.all (kU (kU (kU (kU KeepU.nil)))) [3] (by kernel_rfl) rfl ⟨⟨_, rfl, ?_⟩, trivial⟩
    refine HV.one ?_
    refine H1.lit (cs := ndC n (vZ (n, az, cz))) rfl rfl rfl rfl rfl rfl (fun b9 => ?_)
    apply HU.fold
    refine HU.all (kU (kU (kU (kU KeepU.nil)))) [4] (by kernel_rfl) rfl ⟨⟨_, rfl, ?_⟩, trivial⟩
    refine HV.one ?_
    refine H1.app (sz := 4) (m := 1) (news := ndC n (vZ (n, az, cz))) rfl (by decide) rfl rfl (fun _ _ => by first | ((repeat (first | with_reducible exact Rpl.here | with_reducible apply Rpl.there)); done) | (repeat (first | exact Rpl.here | apply Rpl.there))) rfl (fun w' hM j u hj => by rw [add_lit, Nat.zero_add]; exact (hM.blk (b := b9) memA).cell hj) (nd_one rfl) (by omega) (by decide) rfl (fun an2 cn2 _ => ?_)
    rw [hnv]
    apply HU.fold
    refine HU.pa 14 rfl ?_
    refine HU.all (kU (kU (kU (kU KeepU.nil)))) [13] (by kernel_rfl) rfl ⟨⟨_, rfl, ?_⟩, trivial⟩
    refine HV.one ?_
    refine H1.app1 (u := .string d) rfl rfl (fun _ _ => by first | ((repeat (first | with_reducible exact Rpl.here | with_reducible apply Rpl.there)); done) | (repeat (first | exact Rpl.here | apply Rpl.there))) memA rfl rfl (by omega) rfl rfl (fun ad2 cd2 => ?_)
    rw [hdg]
    apply HU.fold
    refine HU.all (kU (kU (kU (kU KeepU.nil)))) [15] (by kernel_rfl) rfl ⟨⟨_, rfl, ?_⟩, trivial⟩
    refine HV.one ?_
    refine H1.st (b := b6) (i := 0) rfl rfl (by intro _ h; cases h) (by intro _ h; cases h) rplA (by show 0 < 2; decide) ?_
    apply HU.fold
    refine HU.pa 16 rfl ?_
    refine HU.all (KeepU.skip (by kernel_rfl) (kU (kU (kU KeepU.nil)))) [17] (by kernel_rfl) rfl ⟨⟨_, rfl, ?_⟩, trivial⟩
    refine HV.one ?_
    refine H1.st (b := b6) (i := 1) rfl rfl (by intro _ h; cases h) (by intro _ h; cases h) rplA (by show 1 < 2; decide) ?_
    apply HU.fold
    refine HU.done (KeepU.skip (by kernel_rfl) (KeepU.skip (by kernel_rfl) (KeepU.skip (by kernel_rfl) (KeepU.skip (by kernel_rfl) KeepU.nil)))) (by kernel_rfl) ?_
    refine HX.conv (H2 := A.all (rowsA (z ++ [(n, az, cz)])) :: [A.blk b3 [.slice (some ⟨b0, off0, none⟩) l.length c, .slice (some ⟨bd, offd, none⟩) D.length c2] 80, A.blk b6 [.slice an2 (z.length + 1) cn2, .slice (some ⟨ad2, 0, none⟩) (z.length + 1) cd2] 80, A.grow 39 4 an2 cn2 (z.length + 1) (ndsV (z ++ [(n, az, cz)])), A.grow 9 1 (some ⟨ad2, 0, none⟩) cd2 (z.length + 1) (strs (digP (prK l D m b (k + 1))))]) (fun w h => by
     rw [rowsA_snoc]
     exact Mm.allAdd (h.sub (Hs.cons (a := A.grow 3 1 az cz n.src.length (ints n.src)) pickA (Hs.cons (a := A.all (rowsA z)) pickA (by repeat (first | exact Hs.nil _ | (refine Hs.cons pickA ?_))))))) ?_
    refine hwNB ?_
    exact HX.again (k + 1, z ++ [(n, az, cz)], (an2, cn2), some ⟨ad2, 0, none⟩, cd2) ⟨hlt, hzn⟩ (by show l.length - (k + 1) < l.length - k; omega) esA (by dsimp only; rw [hz1]; repeat (first | exact Hs.nil _ | (refine Hs.cons pickA ?_)))
  ·refine HV.one ?_
   refine H1.lit (cs := [.string d]) rfl rfl rfl rfl rfl rfl (fun b10 => ?_)
   apply HU.fold
   refine HU.all (kU (kU (kU (kU KeepU.nil)))) [2] (by kernel_rfl) rfl ⟨⟨_, rfl, ?_⟩, trivial⟩
   refine HV.one ?_
   refine H1.ldAgg (b := b8) (vs := ndC n (vZ (n, az, cz))) rfl memA rfl (fun i v hv => by rw [Nat.zero_add]; exact hv) rfl ?_
   apply HU.fold
   refine HU.all (kU (kU (kU (kU KeepU.nil)))) [3] (by kernel_rfl) rfl ⟨⟨_, rfl, ?_⟩, trivial⟩
   refine HV.one ?_
   refine H1.lit (cs := ndC n (vZ (n, az, cz))) rfl rfl rfl rfl rfl rfl (fun b9 => ?_)
   apply HU.fold
   refine HU.all (kU (kU (kU (kU KeepU.nil)))) [4] (by kernel_rfl) rfl ⟨⟨_, rfl, ?_⟩, trivial⟩
   refine HV.one ?_
   refine H1.app (sz := 4) (m := 1) (news := ndC n (vZ (n, az, cz))) rfl (by decide) rfl rfl (fun _ _ => by first | ((repeat (first | with_reducible exact Rpl.here | with_reducible apply Rpl.there)); done) | (repeat (first | exact Rpl.here | apply Rpl.there))) rfl (fun w' hM j u hj => by rw [add_lit, Nat.zero_add]; exact (hM.blk (b := b9) memA).cell hj) (nd_one rfl) (by omega) (by decide) rfl (fun an2 cn2 _ => ?_)
   rw [hnv]
   apply HU.fold
   refine HU.pa 14 rfl ?_
   refine HU.all (kU (kU (kU (kU KeepU.nil)))) [13] (by kernel_rfl) rfl ⟨⟨_, rfl, ?_⟩, trivial⟩
   refine HV.one ?_
   refine H1.app1 (u := .string d) rfl rfl (fun _ _ => by first | ((repeat (first | with_reducible exact Rpl.here | with_reducible apply Rpl.there)); done) | (repeat (first | exact Rpl.here | apply Rpl.there))) memA rfl rfl (by omega) rfl rfl (fun ad2 cd2 => ?_)
   rw [hdg]
   apply HU.fold
   refine HU.all (kU (kU (kU (kU KeepU.nil)))) [15] (by kernel_rfl) rfl ⟨⟨_, rfl, ?_⟩, trivial⟩
   refine HV.one ?_
   refine H1.st (b := b6) (i := 0) rfl rfl (by intro _ h; cases h) (by intro _ h; cases h) rplA (by show 0 < 2; decide) ?_
   apply HU.fold
   refine HU.pa 16 rfl ?_
   refine HU.all (KeepU.skip (by kernel_rfl) (kU (kU (kU KeepU.nil)))) [17] (by kernel_rfl) rfl ⟨⟨_, rfl, ?_⟩, trivial⟩
   refine HV.one ?_
   refine H1.st (b := b6) (i := 1) rfl rfl (by intro _ h; cases h) (by intro _ h; cases h) rplA (by show 1 < 2; decide) ?_
   apply HU.fold
   refine HU.done (KeepU.skip (by kernel_rfl) (KeepU.skip (by kernel_rfl) (KeepU.skip (by kernel_rfl) (KeepU.skip (by kernel_rfl) KeepU.nil)))) (by kernel_rfl) ?_
   refine HX.conv (H2 := A.all (rowsA (z ++ [(n, az, cz)])) :: [A.blk b3 [.slice (some ⟨b0, off0, none⟩) l.length c, .slice (some ⟨bd, offd, none⟩) D.length c2] 80, A.blk b6 [.slice an2 (z.length + 1) cn2, .slice (some ⟨ad2, 0, none⟩) (z.length + 1) cd2] 80, A.grow 39 4 an2 cn2 (z.length + 1) (ndsV (z ++ [(n, az, cz)])), A.grow 9 1 (some ⟨ad2, 0, none⟩) cd2 (z.length + 1) (strs (digP (prK l D m b (k + 1))))]) (fun w h => by
    rw [rowsA_snoc]
    exact Mm.allAdd (h.sub (Hs.cons (a := A.grow 3 1 az cz n.src.length (ints n.src)) pickA (Hs.cons (a := A.all (rowsA z)) pickA (by repeat (first | exact Hs.nil _ | (refine Hs.cons pickA ?_))))))) ?_
   refine hwNB ?_
   exact HX.again (k + 1, z ++ [(n, az, cz)], (an2, cn2), some ⟨ad2, 0, none⟩, cd2) ⟨hlt, hzn⟩ (by show l.length - (k + 1) < l.length - k; omega) esA (by dsimp only; rw [hz1]; repeat (first | exact Hs.nil _ | (refine Hs.cons pickA ?_)))
end Go.Sx
/- Chapter 20: Key, Encode. -/
namespace Go.Sx
open Go Go.Proofs Go.RowKit
noncomputable def keyS (r : Rc) : ByteArray := if validB r = true then ⟨(keyR r).toArray⟩ else ⟨#[]⟩
noncomputable def encS (r : Rc) : ByteArray := if validB r = true then ⟨(encR r).toArray⟩ else ⟨#[]⟩
theorem keyF_ok (k : Int) : keyF k < 10 ∧ keyF k ≠ 8 := by
 unfold keyF
 repeat' split
 all_goals decide
theorem key_field {k : Int} (h : 1 ≤ k ∧ k ≤ 8) : (keyF k, 1, 1000000) ∈ specF k := by
 rcases (show k = 1 ∨ k = 2 ∨ k = 3 ∨ k = 4 ∨ k = 5 ∨ k = 6 ∨ k = 7 ∨ k = 8 by omega) with rfl | rfl | rfl | rfl | rfl | rfl | rfl | rfl <;> decide
theorem num_lim {r : Rc} (h : ValidR r) : 1 ≤ r.get (keyF r.kind) ∧ r.get (keyF r.kind) ≤ 1000000 := h.lim _ (key_field h.kind)
theorem keyR_put (r : Rc) : [] ++ putL [r.kind, r.get (keyF r.kind)] = keyR r := by
 unfold putL keyR
 simp
theorem putN_ne (n : Nat) : 0 < (putN n).length := vint_pos _
theorem keyR_ne (r : Rc) : keyR r ≠ [] := fun e => by
 have h1 := putN_ne r.kind.toNat
 have h2 := congrArg List.length e
 unfold keyR at h2
 rw [List.length_append, List.length_nil] at h2
 omega
theorem shapeC_one (z : Option Addr × Nat) (k : Int) : ∀ v ∈ shapeC z k, v.oneCell' = true := by
 unfold shapeC; intro v hv; simp only [List.mem_cons, List.not_mem_nil, or_false] at hv; rcases hv with rfl | rfl | rfl | rfl | rfl <;> rfl
attribute [local irreducible] WC WL WX POp Then Again Fn NX W1 WA WO QL RP RA Yld LoopAt HC HL HX HN H1 HA HO HQ HB HP A.blk A.grow A.rd A.obj A.mp AgainH CutH
attribute [local irreducible] specF keyF
set_option maxHeartbeats 2000000 in
theorem key_fn (r : Rc) (hr : RcOk r) (w : World) : Fn Tryz.prog 55 #[recV r] w fun v w' => v = .string (keyS r) ∧ Ext w w' := by
 refine enterH (l := [_]) rfl Tryz.ntmps55 rfl ?_
 refine hwXG ?_
 refine HL.one (H1.boxAgg (cs := rcells r) rfl rfl (fun b1 => ?_))
 refine hwXG ?_
 refine HL.one (H1.ldAgg (vs := rcells r) rfl memA rfl (fun i v hv => by rw [Nat.zero_add]; exact hv) rfl ?_)
 refine hwXG ?_
 refine HL.one (H1.callx (vs := [recV r]) rfl rfl (fun w' _ => valid_fn r hr w') ?_)
 by_cases hv : ValidR r
 rotate_left
 ·rw [validB_no hv]
  refine hwXG ?_
  exact HX.ret1 rfl rfl fun w' hM => ⟨by unfold keyS; rw [validB_no hv]; rfl, hM.ext⟩
 rw [validB_yes hv]
 refine hwXG ?_
 refine HL.one (H1.callz1 (vs := [zv r.kind]) rfl rfl (fun w' _ => shapeOf_fn r.kind hv.kind w') ?_)
 rintro ⟨a, c⟩ -
 refine hwXG ?_
 refine HL.one (H1.alloc (cs := [.slice none 0 0, .nilFunc, zv 0, zv 0, .nilFunc]) rfl rfl (fun b3 => ?_))
 refine hwXG ?_
 refine HL.one (H1.stAgg (cs := [.slice none 0 0, .nilFunc, zv 0, zv 0, .nilFunc]) (vs := shapeC (a, c) r.kind) rfl rfl rfl (shapeC_one _ _) rplA rfl ?_)
 simp only [shapeC]
 refine hwXG ?_
 refine HL.one (H1.alloc (cs := [.pointer none, .slice none 0 0]) rfl rfl (fun b5 => ?_))
 refine hwXG ?_
 refine HC.grow0 5 1 ?_
 have hkf := keyF_ok r.kind
 have hnum := num_lim hv
 have hkind := hv.kind
 have hkR := keyR_put r
 obtain ⟨go, hgf⟩ := getter_ok hkf.1 hkf.2
 have hcell := cells_get r hkf.1 hkf.2
 have hok : ∀ x ∈ [r.kind, r.get (keyF r.kind)], 0 ≤ x ∧ x ≤ 1099511627776 := by
  intro x hx
  simp only [List.mem_cons, List.not_mem_nil, or_false] at hx
  rcases hx with rfl | rfl <;> omega
 refine HC.anyC ([(⟨b1, 0, none⟩, zv r.kind), (⟨b3, 1, none⟩, fnV (fid (keyF r.kind)))]) rfl ?_
 refine HB.pa 0 rfl ?_
 refine HB.ld 1 rfl rfl memD ?_
 refine HB.pa 2 rfl ?_
 refine HB.pa 3 rfl ?_
 refine HB.ld 4 rfl rfl memD ?_
 refine HB.all keepA [5] (by kernel_rfl) rfl ⟨⟨_, rfl, ?_⟩, trivial⟩
 refine HP.one ?_
 refine H1.callv0 (hf := go) (f := fid (keyF r.kind)) (cap := []) (vs := [.pointer (some ⟨b1, 0, none⟩)]) rfl rfl rfl (fun w' _ => call1w (hgf b1 w')) ?_
 apply HB.fold
 refine HB.pa 6 rfl ?_ (POp.nilCheck rfl)
 refine HB.all keepA [7] (by kernel_rfl) rfl ⟨⟨_, rfl, ?_⟩, trivial⟩
 refine HP.one ?_
 refine H1.ldb (v := zv (r.get (keyF r.kind))) rfl memA hcell rfl ?_
 apply HB.fold
 refine HB.all keepA [8] (by kernel_rfl) rfl ⟨⟨_, rfl, ?_⟩, trivial⟩
 refine HP.one ?_
 refine H1.lit (cs := [zv r.kind, zv (r.get (keyF r.kind))]) rfl rfl rfl rfl rfl rfl (fun b8 => ?_)
 apply HB.fold
 refine HB.all keepA [9] (by kernel_rfl) rfl ⟨⟨_, rfl, ?_⟩, trivial⟩
 refine HP.one ?_
 refine H1.callk (α := Option Addr × Option Addr × Nat) (V := fun _ => .tuple #[]) (I := fun q => q.1 = none ∨ q.1 = some ⟨b5, 0, none⟩) (H' := fun q => bldH b5 q.1 q.2.1 q.2.2 ([] ++ putL [r.kind, r.get (keyF r.kind)]) [A.blk b3 [.slice a (specF r.kind).length c, fnV (fid (keyF r.kind)), zv 1, zv 1000000, fnV (rid r.kind)] 188, A.blk b1 (rcells r) 33]) (vs := [.pointer (some ⟨b5, 0, none⟩), .slice (some ⟨b8, 0, none⟩) 2 2]) rfl rfl (fun w' hM => put_fn (ys := []) (p := none) (a := none) (c := 0) [r.kind, r.get (keyF r.kind)] (hM.sub (by show Hs _ [A.blk b5 [.pointer none, .slice none 0 0] 193, A.grow 5 1 none 0 0 [], A.blk b8 [zv r.kind, zv (r.get (keyF r.kind))] 3, A.blk b3 _ _, A.blk b1 _ _]; repeat (first | exact Hs.nil _ | (refine Hs.cons pickA ?_)))) (.inl rfl) hok (by show 0 + 9 * 2 ≤ 1000000; decide)) ?_
 rintro ⟨p', a', c'⟩ hp'
 rw [hkR]
 apply HB.fold
 refine HB.done keepA (by kernel_rfl) ?_
 refine hwXG ?_
 refine HL.one (H1.callk (α := Unit) (V := fun _ => .string ⟨(keyR r).toArray⟩) (I := fun _ => True) (H' := fun _ => []) (vs := [.pointer (some ⟨b5, 0, none⟩)]) rfl rfl (fun w' hM => (builderString_fn (hM.sub (Hs.cons Pick.here (Hs.cons Pick.here (Hs.nil _)))) (keyR_ne r)).mono fun v w' h => ⟨(), trivial, h⟩) ?_)
 rintro - -
 refine hwXG ?_
 exact HX.ret1 rfl rfl fun w' hM => ⟨by unfold keyS; rw [validB_yes hv]; rfl, hM.ext⟩
end Go.Sx
/- Chapter 20: Encode. -/
namespace Go.Sx
open Go Go.Proofs Go.RowKit
def headL (r : Rc) : List Int := [r.kind, r.version, r.day, b01 r.gone]
def fldL (r : Rc) (l : List (Nat × Int × Int)) : List Int := l.map fun p => r.get p.1
theorem putL_app (l m : List Int) : putL (l ++ m) = putL l ++ putL m := by unfold putL; rw [List.map_append, List.flatten_append]
theorem encR_put (r : Rc) : encR r = putL (headL r) ++ putL (fldL r (specF r.kind)) ++ putN r.text.size ++ r.text.data.toList := by
 unfold encR encF headL fldL putL
 simp only [List.map_cons, List.map_nil, List.flatten_cons, List.flatten_nil, List.map_map, List.append_assoc]
 rfl
theorem encR_ne (r : Rc) : encR r ≠ [] := fun e => by
 have h1 := putN_ne r.kind.toNat
 have h2 := congrArg List.length e
 unfold encR at h2
 rw [List.length_append, List.length_nil] at h2
 omega
theorem b01_lim (b : Bool) : 0 ≤ b01 b ∧ b01 b ≤ 1 := by cases b <;> decide
theorem headL_ok {r : Rc} (h : ValidR r) : ∀ x ∈ headL r, 0 ≤ x ∧ x ≤ 1099511627776 := by
 intro x hx
 have h1 := h.kind
 have h2 := h.ver
 have h3 := h.day
 have h4 := b01_lim r.gone
 simp only [headL, List.mem_cons, List.not_mem_nil, or_false] at hx
 rcases hx with rfl | rfl | rfl | rfl <;> omega
theorem fldL_ok {r : Rc} (h : ValidR r) : ∀ p ∈ specF r.kind, 0 ≤ r.get p.1 ∧ r.get p.1 ≤ 1099511627776 := fun p hp => by
 have h1 := h.lim p hp
 have h2 := spec_hi hp
 have h3 := (spec_lo hp).1
 omega
attribute [local irreducible] WC WL WX POp Then Again Fn NX W1 WA WO QL RP RA Yld LoopAt HC HL HX HN H1 HA HO HQ HB HP A.blk A.grow A.rd A.obj A.mp AgainH CutH
attribute [local irreducible] specF keyF
set_option maxHeartbeats 4000000 in
theorem encode_fn (r : Rc) (hr : RcOk r) (w : World) : Fn Tryz.prog 123 #[recV r] w fun v w' => v = .tuple #[.string (encS r), zv (if validB r = true then 0 else 200)] ∧ Ext w w' := by
 refine enterH (l := [_]) rfl Tryz.ntmps123 rfl ?_
 refine hwXG ?_
 refine HL.one (H1.boxAgg (cs := rcells r) rfl rfl (fun b1 => ?_))
 refine hwXG ?_
 refine HL.one (H1.ldAgg (vs := rcells r) rfl memA rfl (fun i v hv => by rw [Nat.zero_add]; exact hv) rfl ?_)
 refine hwXG ?_
 refine HL.one (H1.callx (vs := [recV r]) rfl rfl (fun w' _ => valid_fn r hr w') ?_)
 by_cases hv : ValidR r
 rotate_left
 ·rw [validB_no hv]
  refine hwXG ?_
  exact HX.ret2 rfl rfl rfl fun w' hM => ⟨by unfold encS; rw [validB_no hv]; rfl, hM.ext⟩
 rw [validB_yes hv]
 refine hwXG ?_
 refine HL.one (H1.callz1 (vs := [zv r.kind]) rfl rfl (fun w' _ => shapeOf_fn r.kind hv.kind w') ?_)
 rintro ⟨a, c⟩ -
 have hlen := spec_len r.kind
 have hpos := spec_pos hv.kind
 refine hwXG ?_
 refine HL.openg (e := 186) (a := a) (xs := fcl (specF r.kind)) memA (by omega) ?_
 rintro bz rfl
 refine HL.one (H1.alloc (cs := [.slice none 0 0, .nilFunc, zv 0, zv 0, .nilFunc]) rfl rfl (fun b4 => ?_))
 refine hwXG ?_
 refine HL.one (H1.stAgg (cs := [.slice none 0 0, .nilFunc, zv 0, zv 0, .nilFunc]) (vs := shapeC (some ⟨bz, 0, none⟩, c) r.kind) rfl rfl rfl (shapeC_one _ _) rplA rfl ?_)
 simp only [shapeC]
 refine hwXG ?_
 refine HL.one (H1.alloc (cs := [.pointer none, .slice none 0 0]) rfl rfl (fun b6 => ?_))
 refine hwXG ?_
 refine HC.grow0 5 1 ?_
 have hhl := headL_ok hv
 have hfl := fldL_ok hv
 have hhz := putL_len hhl
 have hhz' : (headL r).length = 4 := rfl
 refine HC.cut (α := Option Addr × Option Addr × Nat) (fun q => [(1, .pointer (some ⟨b1, 0, none⟩)), (4, .pointer (some ⟨b4, 0, none⟩)), (6, .pointer (some ⟨b6, 0, none⟩))])
  (fun q => bldH b6 q.1 q.2.1 q.2.2 (putL (headL r)) [A.blk b4 [.slice (some ⟨bz, 0, none⟩) (specF r.kind).length c, fnV (fid (keyF r.kind)), zv 1, zv 1000000, fnV (rid r.kind)] 188, A.grow 186 3 (some ⟨bz, 0, none⟩) c (specF r.kind).length (fcl (specF r.kind)), A.blk b1 (rcells r) 33]) (fun q => q.1 = none ∨ q.1 = some ⟨b6, 0, none⟩) ?_ ?_
 ·refine HC.anyC ([(⟨b1, 0, none⟩, zv r.kind), (⟨b1, 2, none⟩, zv r.version), (⟨b1, 3, none⟩, zv r.day), (⟨b1, 4, none⟩, .bool r.gone)]) rfl ?_
  refine HB.pa 0 rfl ?_
  refine HB.ld 1 rfl rfl memD ?_
  refine HB.pa 2 rfl ?_
  refine HB.ld 3 rfl rfl memD ?_
  refine HB.pa 4 rfl ?_
  refine HB.ld 5 rfl rfl memD ?_
  refine HB.pa 6 rfl ?_
  refine HB.ld 7 rfl rfl memD ?_
  refine HB.all keepA [8] (by kernel_rfl) rfl ⟨⟨_, rfl, ?_⟩, trivial⟩
  refine HP.one ?_
  refine H1.call0 (vs := [.bool r.gone]) rfl rfl (fun w' _ => flag_fn r.gone w') ?_
  apply HB.fold
  refine HB.all keepA [9] (by kernel_rfl) rfl ⟨⟨_, rfl, ?_⟩, trivial⟩
  refine HP.one ?_
  refine H1.lit (cs := [zv r.kind, zv r.version, zv r.day, zv (b01 r.gone)]) rfl rfl rfl rfl rfl rfl (fun b8 => ?_)
  apply HB.fold
  refine HB.all keepA [10] (by kernel_rfl) rfl ⟨⟨_, rfl, ?_⟩, trivial⟩
  refine HP.one ?_
  refine H1.callk (α := Option Addr × Option Addr × Nat) (V := fun _ => .tuple #[]) (I := fun q => q.1 = none ∨ q.1 = some ⟨b6, 0, none⟩) (H' := fun q => bldH b6 q.1 q.2.1 q.2.2 ([] ++ putL (headL r)) [A.blk b4 [.slice (some ⟨bz, 0, none⟩) (specF r.kind).length c, fnV (fid (keyF r.kind)), zv 1, zv 1000000, fnV (rid r.kind)] 188, A.grow 186 3 (some ⟨bz, 0, none⟩) c (specF r.kind).length (fcl (specF r.kind)), A.blk b1 (rcells r) 33]) (vs := [.pointer (some ⟨b6, 0, none⟩), .slice (some ⟨b8, 0, none⟩) 4 4]) rfl rfl (fun w' hM => put_fn (ys := []) (p := none) (a := none) (c := 0) (headL r) (hM.sub (by show Hs _ [A.blk b6 [.pointer none, .slice none 0 0] 193, A.grow 5 1 none 0 0 [], A.blk b8 [zv r.kind, zv r.version, zv r.day, zv (b01 r.gone)] 3, A.blk b4 _ _, A.grow _ _ _ _ _ _, A.blk b1 _ _]; repeat (first | exact Hs.nil _ | (refine Hs.cons pickA ?_)))) (.inl rfl) hhl (by show 0 + 9 * 4 ≤ 1000000; decide)) ?_
  rintro ⟨p', a', c'⟩ hp'
  rw [List.nil_append]
  apply HB.fold
  refine HB.done keepA (by kernel_rfl) ?_
  exact HX.cut (p', a', c') hp' esA (by repeat (first | exact Hs.nil _ | (refine Hs.cons pickA ?_)))
 rintro ⟨p0, a0, c0⟩ hp0
 dsimp only at hp0 ⊢
 refine hwXG ?_
 obtain ⟨L, hL⟩ : ∃ L, L = specF r.kind := ⟨_, rfl⟩
 have hl10 : ∀ p ∈ L, p.1 < 10 := fun p hp => (spec_lo (hL ▸ hp)).2
 have hl8 : ∀ p ∈ L, p.1 = 8 → p.2.1 = 0 ∧ p.2.2 = 1 := fun p hp => spec8 (hL ▸ hp)
 rw [← hL] at hlen hpos hfl ⊢
 have hfx : ∀ j, ∀ x ∈ fldL r (L.take j), 0 ≤ x ∧ x ≤ 1099511627776 := fun j x hx => by
  obtain ⟨p, hp, rfl⟩ := List.mem_map.1 hx
  exact hfl p (List.mem_of_mem_take hp)
 have hfz : ∀ j, (putL (headL r) ++ putL (fldL r (L.take j))).length ≤ 120 := fun j => by
  have h1 := putL_len (hfx j)
  have h2 : (fldL r (L.take j)).length ≤ 8 := by
   unfold fldL
   rw [List.length_map, List.length_take]; omega
  rw [List.length_append]; omega
 refine HC.loop (α := Nat × Option Addr × Option Addr × Nat) (fun z => [(1, .pointer (some ⟨b1, 0, none⟩)), (6, .pointer (some ⟨b6, 0, none⟩)), (32, .slice (some ⟨bz, 0, none⟩) L.length c), (33, zv (L.length : Int)), (34, zv (z.1 : Int))])
  (fun z => bldH b6 z.2.1 z.2.2.1 z.2.2.2 (putL (headL r) ++ putL (fldL r (L.take z.1))) [A.grow 186 3 (some ⟨bz, 0, none⟩) c L.length (fcl L), A.blk b1 (rcells r) 33]) (fun z => z.1 ≤ L.length ∧ (z.2.1 = none ∨ z.2.1 = some ⟨b6, 0, none⟩)) (fun z => L.length - z.1) (0, p0, a0, c0) ⟨Nat.zero_le _, hp0⟩ esA
  (by show Hs _ (bldH b6 p0 a0 c0 (putL (headL r) ++ putL (fldL r (L.take 0))) _); rw [List.take_zero, show putL (fldL r []) = [] from rfl, List.append_nil]; repeat (first | exact Hs.nil _ | (refine Hs.cons pickA ?_))) ?_
 rintro ⟨j, p1, a1, c1⟩ ⟨hj, hp1⟩
 dsimp only at hj hp1 ⊢
 by_cases hlt : j < L.length
 ·obtain ⟨p, hp⟩ : ∃ p, L[j]? = some p := ⟨_, List.getElem?_eq_getElem hlt⟩
  have hpm := List.mem_of_getElem? hp
  have htk : L.take (j + 1) = L.take j ++ [p] := by rw [List.take_add_one, hp]; rfl
  have hp10 := hl10 p hpm
  have hfg := fcl_get hp
  have h8 := hl8 p hpm
  have hpl := hfl p hpm
  have hzz := hfz j
  have hpt : putL (headL r) ++ putL (fldL r (L.take j)) ++ putL [r.get p.1] = putL (headL r) ++ putL (fldL r (L.take (j + 1))) := by
   rw [htk, List.append_assoc, ← putL_app]
   unfold fldL
   rw [List.map_append]; rfl
  have h1ok : ∀ x ∈ [r.get p.1], 0 ≤ x ∧ x ≤ 1099511627776 := fun x hx => by
   obtain rfl := List.mem_singleton.1 hx; exact hpl
  obtain ⟨i, lo, hi⟩ := p
  dsimp only at hp10 h8 hpt h1ok
  refine hwXG ?_
  by_cases e8 : i = 8
  ·subst e8
   obtain ⟨rfl, rfl⟩ := h8 rfl
   refine HL.one (H1.ldAggw (vs := [.nilFunc, zv 0, zv 0]) rfl rfl (fun w' hM i v hv => ownsRow_cell (hM.own memA) (hfg i v hv)) rfl ?_)
   refine hwXG ?_
   refine HL.one (H1.alloc (cs := [.nilFunc, zv 0, zv 0]) rfl rfl (fun b7 => ?_))
   refine hwXG ?_
   refine HL.one (H1.stAgg (cs := [.nilFunc, zv 0, zv 0]) (vs := [.nilFunc, zv 0, zv 0]) rfl rfl rfl (by intro v hv; simp only [List.mem_cons, List.not_mem_nil, or_false] at hv; rcases hv with rfl | rfl | rfl <;> rfl) rplA rfl ?_)
   refine hwXG ?_
   refine HL.one (H1.call0 (vs := [.bool r.adm]) rfl rfl (fun w' _ => flag_fn r.adm w') ?_)
   refine hwXG ?_
   refine HL.one (H1.lit (cs := [zv (b01 r.adm)]) rfl rfl rfl rfl rfl rfl (fun b8 => ?_))
   refine hwXG ?_
   refine HL.one (H1.callk (α := Option Addr × Option Addr × Nat) (V := fun _ => .tuple #[]) (I := fun q => q.1 = none ∨ q.1 = some ⟨b6, 0, none⟩) (H' := fun q => bldH b6 q.1 q.2.1 q.2.2 (putL (headL r) ++ putL (fldL r (L.take j)) ++ putL [r.get 8]) [A.grow 186 3 (some ⟨bz, 0, none⟩) c L.length (fcl L), A.blk b1 (rcells r) 33]) (vs := [.pointer (some ⟨b6, 0, none⟩), .slice (some ⟨b8, 0, none⟩) 1 1]) rfl rfl (fun w' hM => put_fn [r.get 8] (hM.sub (by show Hs _ (bldH b6 p1 a1 c1 (putL (headL r) ++ putL (fldL r (L.take j))) [A.blk b8 [zv (b01 r.adm)] 3, A.grow _ _ _ _ _ _, A.blk b1 _ _]); repeat (first | exact Hs.nil _ | (refine Hs.cons pickA ?_)))) hp1 h1ok (by show _ + 9 * 1 ≤ 1000000; omega)) ?_)
   rintro ⟨p2, a2, c2⟩ hp2
   dsimp only
   rw [hpt]
   refine hwXG ?_
   exact HX.again (j + 1, p2, a2, c2) ⟨hlt, hp2⟩ (by show L.length - (j + 1) < L.length - j; omega) esA (Hs.refl _)
  ·have hfc : fcells (i, lo, hi) = [fnV (fid i), zv lo, zv hi] := if_neg e8
   rw [hfc] at hfg
   obtain ⟨go, hgf⟩ := getter_ok hp10 e8
   have hcell := cells_get r hp10 e8
   refine HL.one (H1.ldAggw (vs := [fnV (fid i), zv lo, zv hi]) rfl rfl (fun w' hM i v hv => ownsRow_cell (hM.own memA) (hfg i v hv)) rfl ?_)
   refine hwXG ?_
   refine HL.one (H1.alloc (cs := [.nilFunc, zv 0, zv 0]) rfl rfl (fun b7 => ?_))
   refine hwXG ?_
   refine HL.one (H1.stAgg (cs := [.nilFunc, zv 0, zv 0]) (vs := [fnV (fid i), zv lo, zv hi]) rfl rfl rfl (by intro v hv; simp only [List.mem_cons, List.not_mem_nil, or_false] at hv; rcases hv with rfl | rfl | rfl <;> rfl) rplA rfl ?_)
   refine hwXG ?_
   refine HL.one (H1.callv0 (hf := go) (f := fid i) (cap := []) (vs := [.pointer (some ⟨b1, 0, none⟩)]) rfl rfl rfl (fun w' _ => call1w (hgf b1 w')) ?_)
   generalize r.get i = x at *
   refine hwXG ?_
   refine HL.one (H1.ldb (v := zv x) rfl memA hcell rfl ?_)
   refine hwXG ?_
   refine HL.one (H1.lit (cs := [zv x]) rfl rfl rfl rfl rfl rfl (fun b8 => ?_))
   refine hwXG ?_
   refine HL.one (H1.callk (α := Option Addr × Option Addr × Nat) (V := fun _ => .tuple #[]) (I := fun q => q.1 = none ∨ q.1 = some ⟨b6, 0, none⟩) (H' := fun q => bldH b6 q.1 q.2.1 q.2.2 (putL (headL r) ++ putL (fldL r (L.take j)) ++ putL [x]) [A.grow 186 3 (some ⟨bz, 0, none⟩) c L.length (fcl L), A.blk b1 (rcells r) 33]) (vs := [.pointer (some ⟨b6, 0, none⟩), .slice (some ⟨b8, 0, none⟩) 1 1]) rfl rfl (fun w' hM => put_fn [x] (hM.sub (by show Hs _ (bldH b6 p1 a1 c1 (putL (headL r) ++ putL (fldL r (L.take j))) [A.blk b8 [zv x] 3, A.grow _ _ _ _ _ _, A.blk b1 _ _]); repeat (first | exact Hs.nil _ | (refine Hs.cons pickA ?_)))) hp1 h1ok (by show _ + 9 * 1 ≤ 1000000; omega)) ?_)
   rintro ⟨p2, a2, c2⟩ hp2
   dsimp only
   rw [hpt]
   refine hwXG ?_
   exact HX.again (j + 1, p2, a2, c2) ⟨hlt, hp2⟩ (by show L.length - (j + 1) < L.length - j; omega) esA (Hs.refl _)
 obtain rfl : j = L.length := by omega
 rw [List.take_length]
 have hzz := hfz L.length
 rw [List.take_length] at hzz
 have htx := hv.text
 have hsz := strN_size (n := r.text.size) (by omega)
 have hss : (strN r.text.size ++ r.text).size ≤ 209 := by rw [ByteArray.size_append]; omega
 have hfin : putL (headL r) ++ putL (fldL r L) ++ (strN r.text.size ++ r.text).data.toList = encR r := by
  rw [encR_put, hL, ByteArray.data_append, Array.toList_append, List.append_assoc, List.append_assoc, List.append_assoc]
  rfl
 refine hwXG ?_
 refine HL.one (H1.callx (vs := [.string r.text]) rfl rfl (fun w' _ => putString_fn r.text (by omega) w') ?_)
 generalize strN r.text.size ++ r.text = st at hss hfin ⊢
 refine hwXG ?_
 refine HL.one (H1.callk (α := Option Addr × Nat) (V := fun _ => .tuple #[zv (st.size : Int), .nilIface]) (I := fun _ => True) (H' := fun q => bldH b6 (some ⟨b6, 0, none⟩) q.1 q.2 (putL (headL r) ++ putL (fldL r L) ++ st.data.toList) []) (vs := [.pointer (some ⟨b6, 0, none⟩), .string st]) rfl rfl
  (fun w' hM => writeString_fn st (hM.sub (Hs.cons Pick.here (Hs.cons Pick.here (Hs.nil _)))) hp1 (by omega)) ?_)
 rintro ⟨a2, c2⟩ -
 dsimp only
 rw [hfin]
 refine hwXG ?_
 refine HL.one (H1.callk (α := Unit) (V := fun _ => .string ⟨(encR r).toArray⟩) (I := fun _ => True) (H' := fun _ => []) (vs := [.pointer (some ⟨b6, 0, none⟩)]) rfl rfl (fun w' hM => (builderString_fn hM (encR_ne r)).mono fun v w' h => ⟨(), trivial, h⟩) ?_)
 rintro - -
 refine hwXG ?_
 exact HX.ret2 rfl rfl rfl fun w' hM => ⟨by unfold encS; rw [validB_yes hv]; rfl, hM.ext⟩
end Go.Sx
/- Chapter 20: Prevails. -/
namespace Go.Sx
open Go Go.Proofs Go.RowKit
noncomputable def prevB (a b : Rc) : Bool := @decide (Prev a b) (Classical.propDecidable _)
theorem prevB_yes {a b : Rc} (h : Prev a b) : prevB a b = true := by unfold prevB; exact @decide_eq_true _ (Classical.propDecidable _) h
theorem prevB_no {a b : Rc} (h : ¬ Prev a b) : prevB a b = false := by unfold prevB; exact @decide_eq_false _ (Classical.propDecidable _) h
theorem prevB_iff {a b : Rc} : prevB a b = true ↔ Prev a b := by unfold prevB; exact @decide_eq_true_iff _ (Classical.propDecidable _)
theorem keyS_yes {r : Rc} (h : ValidR r) : keyS r = ⟨(keyR r).toArray⟩ := by unfold keyS; rw [validB_yes h]; rfl
theorem encS_yes {r : Rc} (h : ValidR r) : encS r = ⟨(encR r).toArray⟩ := by unfold encS; rw [validB_yes h]; rfl
theorem keyS_inj {a b : Rc} (ha : ValidR a) (hb : ValidR b) : keyS a = keyS b ↔ keyR a = keyR b := by
 rw [keyS_yes ha, keyS_yes hb]
 constructor
 ·intro h
  injection h with h
  exact List.toArray_inj h
 ·intro h; rw [h]
attribute [local irreducible] WC WL WX POp Then Again Fn NX W1 WA WO QL RP RA Yld LoopAt HC HL HX HN H1 HA HO HQ HB HP A.blk A.grow A.rd A.obj A.mp AgainH CutH
set_option maxHeartbeats 4000000 in
theorem prevails_fn (r s : Rc) (hr : RcOk r) (hs : RcOk s) (w : World) : Fn Tryz.prog 56 #[recV r, recV s] w fun v w' => v = .bool (prevB r s) ∧ Ext w w' := by
 refine enterH (l := [_, _]) rfl Tryz.ntmps56 rfl ?_
 refine hwNE ?_
 refine HL.one (H1.boxAgg (cs := rcells r) rfl rfl (fun b2 => ?_))
 refine hwNE ?_
 refine HL.one (H1.boxAgg (cs := rcells s) rfl rfl (fun b3 => ?_))
 refine hwNE ?_
 refine HL.one (H1.ldAgg (vs := rcells r) rfl memA rfl (fun i v hv => by rw [Nat.zero_add]; exact hv) rfl ?_)
 refine hwNE ?_
 refine HL.one (H1.callx (vs := [recV r]) rfl rfl (fun w' _ => encode_fn r hr w') ?_)
 refine hwNE ?_
 refine HL.one (H1.ldAgg (vs := rcells s) rfl memA rfl (fun i v hv => by rw [Nat.zero_add]; exact hv) rfl ?_)
 refine hwNE ?_
 refine HL.one (H1.callx (vs := [recV s]) rfl rfl (fun w' _ => encode_fn s hs w') ?_)
 refine hwNE ?_
 by_cases h1 : ValidR r
 rotate_left
 ·rw [validB_no h1, if_neg Bool.false_ne_true]
  refine HC.any rfl ?_
  refine HA.pa 0 rfl ?_
  refine HA.pa 1 rfl ?_
  refine HA.pa 2 rfl ?_
  first | refine HA.ga 3 rfl rfl ?_ | refine HA.na 3 rfl rfl ?_ | refine HA.nu 3 rfl rfl ?_
  first | refine HA.ga 4 rfl rfl ?_ | refine HA.na 4 rfl rfl ?_ | refine HA.nu 4 rfl rfl ?_
  refine HA.pa 5 rfl ?_
  refine HA.pa 6 rfl ?_
  refine HA.all [7, 9] (by kernel_rfl) rfl ⟨⟨_, rfl, ?_⟩, ⟨_, rfl, ?_⟩, trivial⟩
  ·refine HO.drop_a rfl ?_
   refine HA.all [8, 9] (by kernel_rfl) rfl ⟨⟨_, rfl, ?_⟩, ⟨_, rfl, ?_⟩, trivial⟩
   ·refine HO.drop_a rfl ?_
    refine HA.all [9] (by kernel_rfl) rfl ⟨⟨_, rfl, ?_⟩, trivial⟩
    refine HO.drop_a rfl ?_
    refine HA.all [10] (by kernel_rfl) rfl ⟨⟨_, rfl, ?_⟩, trivial⟩
    refine HO.drop_a rfl ?_
    first | refine HA.ga 11 rfl rfl ?_ | refine HA.na 11 rfl rfl ?_ | refine HA.nu 11 rfl rfl ?_
    refine HA.pa 12 rfl ?_
    refine HA.done (by kernel_rfl) ?_
    refine hwNE ?_
    exact HX.ret1 rfl rfl fun w' hM => ⟨by rw [prevB_no fun h => h1 h.1.1], hM.ext⟩
   ·refine HO.drop_a rfl ?_
    refine HA.all [8] (by kernel_rfl) rfl ⟨⟨_, rfl, ?_⟩, trivial⟩
    refine HO.drop_a rfl ?_
    refine HA.all [10] (by kernel_rfl) rfl ⟨⟨_, rfl, ?_⟩, trivial⟩
    refine HO.drop_a rfl ?_
    first | refine HA.ga 11 rfl rfl ?_ | refine HA.na 11 rfl rfl ?_ | refine HA.nu 11 rfl rfl ?_
    refine HA.pa 12 rfl ?_
    refine HA.done (by kernel_rfl) ?_
    refine hwNE ?_
    exact HX.ret1 rfl rfl fun w' hM => ⟨by rw [prevB_no fun h => h1 h.1.1], hM.ext⟩
  ·refine HO.drop_a rfl ?_
   refine HA.all [7] (by kernel_rfl) rfl ⟨⟨_, rfl, ?_⟩, trivial⟩
   refine HO.drop_a rfl ?_
   refine HA.all [8] (by kernel_rfl) rfl ⟨⟨_, rfl, ?_⟩, trivial⟩
   refine HO.drop_a rfl ?_
   refine HA.all [10] (by kernel_rfl) rfl ⟨⟨_, rfl, ?_⟩, trivial⟩
   refine HO.drop_a rfl ?_
   first | refine HA.ga 11 rfl rfl ?_ | refine HA.na 11 rfl rfl ?_ | refine HA.nu 11 rfl rfl ?_
   refine HA.pa 12 rfl ?_
   refine HA.done (by kernel_rfl) ?_
   refine hwNE ?_
   exact HX.ret1 rfl rfl fun w' hM => ⟨by rw [prevB_no fun h => h1 h.1.1], hM.ext⟩
 by_cases h2 : ValidR s
 rotate_left
 ·rw [validB_no h2, validB_yes h1, if_neg Bool.false_ne_true, if_pos rfl]
  refine HC.any rfl ?_
  refine HA.pa 0 rfl ?_
  refine HA.pa 1 rfl ?_
  refine HA.pa 2 rfl ?_
  first | refine HA.ga 3 rfl rfl ?_ | refine HA.na 3 rfl rfl ?_ | refine HA.nu 3 rfl rfl ?_
  first | refine HA.ga 4 rfl rfl ?_ | refine HA.na 4 rfl rfl ?_ | refine HA.nu 4 rfl rfl ?_
  refine HA.pa 5 rfl ?_
  refine HA.pa 6 rfl ?_
  refine HA.all [7, 9] (by kernel_rfl) rfl ⟨⟨_, rfl, ?_⟩, ⟨_, rfl, ?_⟩, trivial⟩
  ·refine HO.drop_a rfl ?_
   refine HA.all [8, 9] (by kernel_rfl) rfl ⟨⟨_, rfl, ?_⟩, ⟨_, rfl, ?_⟩, trivial⟩
   ·refine HO.drop_a rfl ?_
    refine HA.all [9] (by kernel_rfl) rfl ⟨⟨_, rfl, ?_⟩, trivial⟩
    refine HO.drop_a rfl ?_
    refine HA.all [10] (by kernel_rfl) rfl ⟨⟨_, rfl, ?_⟩, trivial⟩
    refine HO.drop_a rfl ?_
    first | refine HA.ga 11 rfl rfl ?_ | refine HA.na 11 rfl rfl ?_ | refine HA.nu 11 rfl rfl ?_
    refine HA.pa 12 rfl ?_
    refine HA.done (by kernel_rfl) ?_
    refine hwNE ?_
    exact HX.ret1 rfl rfl fun w' hM => ⟨by rw [prevB_no fun h => h2 h.1.2.1], hM.ext⟩
   ·refine HO.drop_a rfl ?_
    refine HA.all [8] (by kernel_rfl) rfl ⟨⟨_, rfl, ?_⟩, trivial⟩
    refine HO.drop_a rfl ?_
    refine HA.all [10] (by kernel_rfl) rfl ⟨⟨_, rfl, ?_⟩, trivial⟩
    refine HO.drop_a rfl ?_
    first | refine HA.ga 11 rfl rfl ?_ | refine HA.na 11 rfl rfl ?_ | refine HA.nu 11 rfl rfl ?_
    refine HA.pa 12 rfl ?_
    refine HA.done (by kernel_rfl) ?_
    refine hwNE ?_
    exact HX.ret1 rfl rfl fun w' hM => ⟨by rw [prevB_no fun h => h2 h.1.2.1], hM.ext⟩
  ·refine HO.drop_a rfl ?_
   refine HA.all [7] (by kernel_rfl) rfl ⟨⟨_, rfl, ?_⟩, trivial⟩
   refine HO.drop_a rfl ?_
   refine HA.all [8] (by kernel_rfl) rfl ⟨⟨_, rfl, ?_⟩, trivial⟩
   refine HO.drop_a rfl ?_
   refine HA.all [10] (by kernel_rfl) rfl ⟨⟨_, rfl, ?_⟩, trivial⟩
   refine HO.drop_a rfl ?_
   first | refine HA.ga 11 rfl rfl ?_ | refine HA.na 11 rfl rfl ?_ | refine HA.nu 11 rfl rfl ?_
   refine HA.pa 12 rfl ?_
   refine HA.done (by kernel_rfl) ?_
   refine hwNE ?_
   exact HX.ret1 rfl rfl fun w' hM => ⟨by rw [prevB_no fun h => h2 h.1.2.1], hM.ext⟩
 rw [validB_yes h1, validB_yes h2, if_pos rfl]
 have e1 := encS_yes h1
 have e2 := encS_yes h2
 have ek := keyS_inj h1 h2
 have hP : Prev r s ↔ keyS r = keyS s ∧ (s.version < r.version ∨ r.version = s.version ∧ Op.bytesLess (encS s).data.toList (encS r).data.toList = true) := by
  rw [ek, e1, e2]
  exact ⟨fun h => ⟨h.1.2.2, h.2⟩, fun h => ⟨⟨h1, h2, h.1⟩, h.2⟩⟩
 clear e1 e2 ek
 refine HC.cut (α := Unit) (fun _ => [(2, .pointer (some ⟨b2, 0, none⟩)), (3, .pointer (some ⟨b3, 0, none⟩)), (5, .string (encS r)), (7, .string (encS s)), (31, .bool (decide (¬ keyS r = keyS s)))])
  (fun _ => [A.blk b2 (rcells r) 33, A.blk b3 (rcells s) 33]) (fun _ => True) ?_ ?_
 ·refine HC.any rfl ?_
  refine HA.pa 0 rfl ?_
  refine HA.pa 1 rfl ?_
  refine HA.pa 2 rfl ?_
  first | refine HA.ga 3 rfl rfl ?_ | refine HA.na 3 rfl rfl ?_ | refine HA.nu 3 rfl rfl ?_
  first | refine HA.ga 4 rfl rfl ?_ | refine HA.na 4 rfl rfl ?_ | refine HA.nu 4 rfl rfl ?_
  refine HA.pa 5 rfl ?_
  refine HA.pa 6 rfl ?_
  refine HA.all [7, 9] (by kernel_rfl) rfl ⟨⟨_, rfl, ?_⟩, ⟨_, rfl, ?_⟩, trivial⟩
  ·refine HO.one_a rfl ?_
   refine H1.ldAgg (vs := rcells r) rfl memA rfl (fun i v hv => by rw [Nat.zero_add]; exact hv) rfl ?_
   apply HA.fold
   refine HA.all [8, 9] (by kernel_rfl) rfl ⟨⟨_, rfl, ?_⟩, ⟨_, rfl, ?_⟩, trivial⟩
   ·refine HO.one_a rfl ?_
    refine H1.callx (vs := [recV r]) rfl rfl (fun w' _ => key_fn r hr w') ?_
    apply HA.fold
    refine HA.all [9] (by kernel_rfl) rfl ⟨⟨_, rfl, ?_⟩, trivial⟩
    refine HO.one_a rfl ?_
    refine H1.ldAgg (vs := rcells s) rfl memA rfl (fun i v hv => by rw [Nat.zero_add]; exact hv) rfl ?_
    apply HA.fold
    refine HA.all [10] (by kernel_rfl) rfl ⟨⟨_, rfl, ?_⟩, trivial⟩
    refine HO.one_a rfl ?_
    refine H1.callx (vs := [recV s]) rfl rfl (fun w' _ => key_fn s hs w') ?_
    apply HA.fold
    first | refine HA.ga 11 rfl rfl ?_ | refine HA.na 11 rfl rfl ?_ | refine HA.nu 11 rfl rfl ?_
    refine HA.pa 12 rfl ?_
    refine HA.done (by kernel_rfl) ?_
    exact HX.cut () trivial esA (by repeat (first | exact Hs.nil _ | (refine Hs.cons pickA ?_)))
   ·refine HO.one_a rfl ?_
    refine H1.ldAgg (vs := rcells s) rfl memA rfl (fun i v hv => by rw [Nat.zero_add]; exact hv) rfl ?_
    apply HA.fold
    refine HA.all [8] (by kernel_rfl) rfl ⟨⟨_, rfl, ?_⟩, trivial⟩
    refine HO.one_a rfl ?_
    refine H1.callx (vs := [recV r]) rfl rfl (fun w' _ => key_fn r hr w') ?_
    apply HA.fold
    refine HA.all [10] (by kernel_rfl) rfl ⟨⟨_, rfl, ?_⟩, trivial⟩
    refine HO.one_a rfl ?_
    refine H1.callx (vs := [recV s]) rfl rfl (fun w' _ => key_fn s hs w') ?_
    apply HA.fold
    first | refine HA.ga 11 rfl rfl ?_ | refine HA.na 11 rfl rfl ?_ | refine HA.nu 11 rfl rfl ?_
    refine HA.pa 12 rfl ?_
    refine HA.done (by kernel_rfl) ?_
    exact HX.cut () trivial esA (by repeat (first | exact Hs.nil _ | (refine Hs.cons pickA ?_)))
  ·refine HO.one_a rfl ?_
   refine H1.ldAgg (vs := rcells s) rfl memA rfl (fun i v hv => by rw [Nat.zero_add]; exact hv) rfl ?_
   apply HA.fold
   refine HA.all [7] (by kernel_rfl) rfl ⟨⟨_, rfl, ?_⟩, trivial⟩
   refine HO.one_a rfl ?_
   refine H1.ldAgg (vs := rcells r) rfl memA rfl (fun i v hv => by rw [Nat.zero_add]; exact hv) rfl ?_
   apply HA.fold
   refine HA.all [8] (by kernel_rfl) rfl ⟨⟨_, rfl, ?_⟩, trivial⟩
   refine HO.one_a rfl ?_
   refine H1.callx (vs := [recV r]) rfl rfl (fun w' _ => key_fn r hr w') ?_
   apply HA.fold
   refine HA.all [10] (by kernel_rfl) rfl ⟨⟨_, rfl, ?_⟩, trivial⟩
   refine HO.one_a rfl ?_
   refine H1.callx (vs := [recV s]) rfl rfl (fun w' _ => key_fn s hs w') ?_
   apply HA.fold
   first | refine HA.ga 11 rfl rfl ?_ | refine HA.na 11 rfl rfl ?_ | refine HA.nu 11 rfl rfl ?_
   refine HA.pa 12 rfl ?_
   refine HA.done (by kernel_rfl) ?_
   exact HX.cut () trivial esA (by repeat (first | exact Hs.nil _ | (refine Hs.cons pickA ?_)))
 rintro - -
 generalize keyS r = k1 at *
 generalize keyS s = k2 at *
 generalize encS r = s1 at *
 generalize encS s = s2 at *
 have hR : ∀ x : Bool, (x = true ↔ Prev r s) → x = prevB r s := fun x h => by rw [Bool.eq_iff_iff, prevB_iff]; exact h
 by_cases c1 : k1 = k2
 rotate_left
 ·have c1' : (decide (¬ k1 = k2)) = true := decide_eq_true c1
  rw [c1']
  refine hwNE ?_
  exact HX.ret1 rfl rfl fun w' hM => ⟨congrArg Value.bool (hR _ (by rw [hP]; simp [c1])), hM.ext⟩
 have c1' : (decide (¬ k1 = k2)) = false := decide_eq_false (fun h => h c1)
 rw [c1']
 by_cases c2 : s.version < r.version
 ·refine hwNE ?_
  exact HX.ret1 rfl rfl fun w' hM => ⟨congrArg Value.bool (hR _ (by rw [hP]; simp [c1, c2])), hM.ext⟩
 by_cases c3 : r.version = s.version
 ·refine hwNE ?_
  refine HL.pa ?_ (POp.sgtr rfl rfl)
  refine hwNE ?_
  exact HX.ret1 rfl rfl fun w' hM => ⟨congrArg Value.bool (hR _ (by rw [hP]; simp [c1, c3])), hM.ext⟩
 ·refine hwNE ?_
  exact HX.ret1 rfl rfl fun w' hM => ⟨congrArg Value.bool (hR _ (by rw [hP]; simp [c2, c3])), hM.ext⟩
end Go.Sx
/- Chapter 21: what is in effect: a map by keys; maps.DeleteFunc. -/
namespace Go.Sx
open Go Go.Proofs Go.RowKit
theorem Mm.mxms {w0 w : World} {b clk : Nat} {es : Array MapEntry} {L : List (ByteArray × Value)} {H : List Atom} (h : Mm w0 (A.mx b es clk :: H) w) (hl : MS L es clk) : Mm w0 (A.ms b L :: H) w := h.head rfl (by
 obtain ⟨o, h1, rfl⟩ : ∃ o, w.heap[b]? = some o ∧ o = .map es clk := h.all _ (List.Mem.head _)
 exact ⟨_, h1, es, clk, rfl, hl⟩)
theorem MS.erase {L : List (ByteArray × Value)} {es : Array MapEntry} {clk : Nat} (h : MS L es clk) (i : Nat) : MS (L.eraseIdx i) (es.eraseIdxIfInBounds i) clk := by
 refine ⟨?_, fun e he => ?_, ?_⟩
 ·rw [Array.toList_eraseIdxIfInBounds, ← map_eraseIdx, h.ents, map_eraseIdx]
 ·rw [Array.toList_eraseIdxIfInBounds] at he
  exact h.born e (List.mem_of_mem_eraseIdx he)
 ·rw [Array.toList_eraseIdxIfInBounds]
  exact List.Nodup.sublist ((List.eraseIdx_sublist _ i).map _) h.nd
def liftM (m : List (List UInt8 × Rc)) : List (ByteArray × Value) := m.map fun p => ((⟨p.1.toArray⟩ : ByteArray), recV p.2)
theorem ba_inj {x y : List UInt8} (h : (⟨x.toArray⟩ : ByteArray) = ⟨y.toArray⟩) : x = y := by
 injection h with h
 exact List.toArray_inj h
theorem midxS_no {l : List (ByteArray × Value)} {x : ByteArray} (h : midxS l x = none) : ∀ p ∈ l, p.1 ≠ x := by
 induction l with
 | nil => intro p hp; simp at hp
 | cons q l ih =>
  obtain ⟨y, u⟩ := q
  simp only [midxS] at h
  by_cases hxy : x = y
  ·rw [if_pos hxy] at h; cases h
  ·rw [if_neg hxy, Option.map_eq_none_iff] at h
   intro p hp
   rcases List.mem_cons.1 hp with rfl | hp
   ·exact fun e => hxy e.symm
   ·exact ih h p hp
theorem midx_lift_no {m : List (List UInt8 × Rc)} {x : List UInt8} (h : midxS (liftM m) ⟨x.toArray⟩ = none) : ∀ p ∈ m, p.1 ≠ x := fun p hp e =>
 midxS_no h _ (List.mem_map.2 ⟨p, hp, rfl⟩) (by rw [e])
theorem liftM_get {m : List (List UInt8 × Rc)} {i : Nat} {x : List UInt8} {u : Value} (h : (liftM m)[i]? = some (⟨x.toArray⟩, u)) : ∃ s, u = recV s ∧ m[i]? = some (x, s) := by
 unfold liftM at h
 rw [List.getElem?_map, Option.map_eq_some_iff] at h
 obtain ⟨⟨y, s⟩, h1, h2⟩ := h
 injection h2 with h2 h3
 have := ba_inj h2
 subst this
 exact ⟨s, h3.symm, h1⟩
theorem midx_lift_some {m : List (List UInt8 × Rc)} {x : List UInt8} {i : Nat} {u : Value} (h : midxS (liftM m) ⟨x.toArray⟩ = some (i, u)) : ∃ s, u = recV s ∧ m[i]? = some (x, s) :=
 liftM_get (midxS_some u h).2.2
theorem midx_lift {m : List (List UInt8 × Rc)} (hk : (m.map Prod.fst).Nodup) {p : List UInt8 × Rc} (hp : p ∈ m) : ∃ i, m[i]? = some p ∧ midxS (liftM m) ⟨p.1.toArray⟩ = some (i, recV p.2) := by
 cases h : midxS (liftM m) ⟨p.1.toArray⟩ with
 | none => exact absurd rfl (midx_lift_no h p hp)
 | some q =>
  obtain ⟨i, u⟩ := q
  obtain ⟨s, rfl, h2⟩ := midx_lift_some h
  obtain ⟨j, hj⟩ := List.mem_iff_getElem?.1 hp
  have n1 : (m.map Prod.fst)[i]? = some p.1 := by simp [h2]
  have n2 : (m.map Prod.fst)[j]? = some p.1 := by simp [hj]
  have hlt : i < (m.map Prod.fst).length := (List.getElem?_eq_some_iff.1 n1).1
  have e := (List.getElem?_inj hlt hk).1 (n1.trans n2.symm)
  subst e
  rw [hj] at h2
  have e2 := Option.some.inj h2
  refine ⟨i, hj, ?_⟩
  rw [e2]
theorem mem_erase_at {m : List (List UInt8 × Rc)} (hk : (m.map Prod.fst).Nodup) {i : Nat} {p : List UInt8 × Rc} (hi : m[i]? = some p) (q : List UInt8 × Rc) : q ∈ m.eraseIdx i ↔ q ∈ m ∧ q ≠ p := by
 rw [List.mem_eraseIdx_iff_getElem?]
 constructor
 ·rintro ⟨j, hne, hj⟩
  refine ⟨List.mem_of_getElem? hj, fun e => hne ?_⟩
  subst e
  have n1 : (m.map Prod.fst)[i]? = some q.1 := by simp [hi]
  have n2 : (m.map Prod.fst)[j]? = some q.1 := by simp [hj]
  have hlt : j < (m.map Prod.fst).length := (List.getElem?_eq_some_iff.1 n2).1
  exact (List.getElem?_inj hlt hk).1 (n2.trans n1.symm)
 ·rintro ⟨hq, hne⟩
  obtain ⟨j, hj⟩ := List.mem_iff_getElem?.1 hq
  refine ⟨j, fun e => hne ?_, hj⟩
  subst e
  rw [hi] at hj
  exact (Option.some.inj hj).symm
section
variable {P : Program} {r : Option Nat} {N : Nat} {ds : List Deferred} {Q : Post} {E : Env} {w0 : World} {H : List Atom} {next : Act → World → Prop} {g : Option (Nat × Bool)}
variable {t ty k e : TypeId} {pos : String} {af : Array Edge} {x y : Operand}
theorem HL.openms {ol l : List Oper} {b : Nat} {L : List (ByteArray × Value)} (h : ∀ es clk, MS L es clk → HL P r N ds ol l Q E w0 (A.mx b es clk :: H)) : HL P r N ds ol l Q E w0 (A.ms b L :: H) := fun w hM => by
 obtain ⟨o, h1, es, clk, rfl, h2⟩ : ∃ o, w.heap[b]? = some o ∧ msP L o := hM.all _ (List.Mem.head _)
 exact h es clk h2 w (hM.head rfl ⟨_, h1, rfl⟩)
theorem H1.msdel {u : TypeId} {b clk i : Nat} {es : Array MapEntry} {L : List (ByteArray × Value)} {n : ByteArray} {v : Value} {H' : List Atom} [ht : UTy P t (.map k e)] [hk : UTy P k .string] (hx : Env.ev E x = some (.map (some b))) (hy : Env.ev E y = some (.string n))
  (hl : MS L es clk) (hi : midxS L n = some (i, v)) (hr : Rpl (A.mx b es clk) (A.mx b (es.eraseIdxIfInBounds i) clk) H H') (h : HN N ds next E w0 H') :
  H1 P r N ds next ⟨none, .call ⟨.builtin .delete, #[x, y], #[t, u]⟩, ty, pos, af, g⟩ Q E w0 H := fun w hM => by
 have hb := hM.mx hr.mem
 have hlt := (Array.getElem?_eq_some_iff.1 hb).1
 have hf := run_findKey_str (P := P) (w := w) hk.is n es.toList L hl.ents
 rw [hi] at hf
 have hrun : (Builtin.delete_ #[t, u] ty #[.map (some b), .string n]).run P w = .ok (.tuple #[]) (w.putObj b (.map (es.eraseIdxIfInBounds i) clk)) := by
  unfold Builtin.delete_
  simp [Sem.run_bind, run_underlying ht.is, Result.andThen, run_getMap hb, run_checkKey_str hk.is _ 9999 n, hf, run_setMap _ hb]
 refine W1.run (v := .tuple #[]) (w' := w.putObj b (.map (es.eraseIdxIfInBounds i) clk)) (fun a ha => ?_) rfl rfl (h _ (hM.turn hr rfl rfl rfl (by simp) (fun k _ hk' => ?_) ⟨_, World.putObj_heap_same hlt, rfl⟩ (by simp [A.mx, A.obj]) fun b' hb' => .inl hb'))
 ·simp only [execOp, resolve, invoke, Go.builtin, Sem.run_bind, Sem.run_pure, Result.andThen, List.map_toArray, List.map_cons, List.map_nil, ha.ev hx, ha.ev hy, hrun]
 ·exact World.putObj_heap_other (by simpa [A.mx, A.obj] using hk')
end
attribute [local irreducible] WC WL WX POp Then Again Fn NX W1 WA WO QL RP RA Yld LoopAt HC HL HX HN H1 HA HO HQ HB HP A.blk A.grow A.rd A.obj A.mp AgainH CutH
attribute [local irreducible] A.ms A.mx A.mit
theorem effect1_fn (k : ByteArray) (r : Rc) (w : World) : Fn Tryz.prog 58 #[.string k, recV r] w fun v w' => v = .bool r.gone ∧ Ext w w' := by
 refine enterH (l := [_, _]) rfl Tryz.ntmps58 rfl ?_
 refine hwNE ?_
 refine HL.one (H1.boxAgg (cs := rcells r) rfl rfl (fun b1 => ?_))
 refine hwNE ?_
 exact HX.ret1 rfl rfl fun w' hM => ⟨rfl, hM.ext⟩
set_option maxHeartbeats 1000000 in
theorem deleteFunc_fn {w0 w : World} {H : List Atom} {b : Nat} {m : List (List UInt8 × Rc)} (hM : Mm w0 (A.ms b (liftM m) :: H) w) (hk : (m.map Prod.fst).Nodup) :
  Fn Tryz.prog 57 #[.map (some b), fnV 58] w fun v w' => ∃ m', ((m'.map Prod.fst).Nodup ∧ ∀ p, p ∈ m' ↔ p ∈ m ∧ p.2.gone = false) ∧ v = .tuple #[] ∧ Mm w0 (A.ms b (liftM m') :: H) w' := by
 refine enterK (l := [_, _]) hM rfl Tryz.ntmps57 rfl ?_
 refine hwNE ?_
 refine HL.openms fun es clk hms => ?_
 refine HL.one (H1.mqrange (es := es) (clk := clk) rfl (fun w' hM => hM.mx (.head _)) rfl (fun it => ?_))
 refine hwNE ?_
 refine HC.loop (α := Array MapEntry × Array Nat × List (List UInt8 × Rc)) (fun _ => [(0, .map (some b)), (1, fnV 58), (7, .pointer (some ⟨it, 0, none⟩))])
  (fun z => A.mit it b clk z.2.1 :: A.mx b z.1 clk :: H)
  (fun z => MS (liftM z.2.2) z.1 clk ∧ (z.2.2.map Prod.fst).Nodup ∧ (∀ p ∈ z.2.2, p ∈ m) ∧ (∀ p ∈ m, p.2.gone = false → p ∈ z.2.2) ∧ ∀ e ∈ z.1.toList, e.born ∈ z.2.1 → ∀ p ∈ z.2.2, e.key = .string ⟨p.1.toArray⟩ → p.2.gone = false)
  (fun z => mleft z.1 z.2.1) (es, #[], m) ⟨hms, hk, fun _ h => h, fun _ h _ => h, fun e _ hs => absurd hs (by simp)⟩ esA (Hs.refl _) ?_
 rintro ⟨es', seen, m'⟩ ⟨hI, hk', hs1, hs2, hsn⟩
 dsimp only at hI hk' hs1 hs2 hsn ⊢
 refine hwNE ?_
 refine HL.one (H1.mqnext (H' := fun s => A.mit it b clk s :: A.mx b es' clk :: H) rfl (fun w' hM => hM.mx (.tail _ (.head _))) hI.born (fun s => Rpl.here) rfl (fun hall => ?_) (fun e he hne => ?_))
 ·refine hwNE ?_
  refine HX.end0 rfl fun w' hM => ⟨m', ⟨hk', fun p => ⟨fun hp => ⟨hs1 p hp, ?_⟩, fun hp => hs2 p hp.1 hp.2⟩⟩, rfl, hM.tail.mxms hI⟩
  obtain ⟨e, he, h1, -⟩ := hI.of (List.mem_map.2 ⟨p, hp, rfl⟩)
  exact hsn e he (hall e he) p hp h1
 obtain ⟨q, hq, hkey, hval⟩ := hI.ent he
 obtain ⟨p, hp, rfl⟩ := List.mem_map.1 hq
 dsimp only at hkey hval
 have hkp : ∀ p' ∈ m', e.key = .string ⟨p'.1.toArray⟩ → p' = p := fun p' hp' h => by
  rw [hkey] at h
  injection h with h
  have h2 := ba_inj h
  obtain ⟨i, hi, -⟩ := midx_lift hk' hp
  obtain ⟨j, hj, -⟩ := midx_lift hk' hp'
  have n1 : (m'.map Prod.fst)[i]? = some p.1 := by simp [hi]
  have n2 : (m'.map Prod.fst)[j]? = some p.1 := by simp [hj, h2]
  have hlt : i < (m'.map Prod.fst).length := (List.getElem?_eq_some_iff.1 n1).1
  have e2 := (List.getElem?_inj hlt hk').1 (n1.trans n2.symm)
  subst e2
  rw [hi] at hj
  exact (Option.some.inj hj).symm
 rw [hkey, hval]
 refine hwNE ?_
 refine HL.one (H1.mqentry (e := e) rfl (fun w' hM => hM.mx (.tail _ (.head _))) he hI.nd (.head _) rfl ?_)
 rw [hkey, hval]
 refine hwNE ?_
 refine HL.one (H1.alloc (cs := rcells rcZ) rfl rfl (fun b5 => ?_))
 refine hwNE ?_
 refine HL.one (H1.stAgg (cs := rcells rcZ) (vs := rcells p.2) rfl rfl rfl (rcells_one _) rplA rfl ?_)
 refine hwNE ?_
 refine HL.one (H1.ldAgg (vs := rcells p.2) rfl memA rfl (fun i v hv => by rw [Nat.zero_add]; exact hv) rfl ?_)
 refine hwNE ?_
 refine HL.one (H1.callv0 (f := 58) (cap := []) (vs := [.string ⟨p.1.toArray⟩, recV p.2]) rfl rfl rfl (fun w' _ => effect1_fn _ p.2 w') ?_)
 have hlt := mleft_lt he hne
 cases hg : p.2.gone
 ·refine hwNE ?_
  refine HX.again (es', seen.push e.born, m') ⟨hI, hk', hs1, hs2, fun e' he' hs' p' hp' h => ?_⟩ hlt esA (Hs.refl _).skip
  rcases Array.mem_push.1 hs' with h1 | h1
  ·exact hsn e' he' h1 p' hp' h
  ·have e1 : e' = e := stamp_inj hI.nd he' he h1
   subst e1
   rw [hkp p' hp' h]; exact hg
 ·obtain ⟨i, hi, hmi⟩ := midx_lift hk' hp
  have hme := mem_erase_at hk' hi
  refine hwNE ?_
  refine HL.one (H1.msdel rfl rfl hI hmi rplA ?_)
  refine hwNE ?_
  refine HX.again (es'.eraseIdxIfInBounds i, seen.push e.born, m'.eraseIdx i) ⟨?_, ?_, fun q hq => hs1 q (List.mem_of_mem_eraseIdx hq), fun q hq h => (hme q).2 ⟨hs2 q hq h, fun e1 => ?_⟩, fun e' he' hs' p' hp' h => ?_⟩ (Nat.lt_of_le_of_lt (mleft_erase _ _ _) hlt) esA (Hs.refl _).skip
  ·have := hI.erase i
   rwa [show (liftM m').eraseIdx i = liftM (m'.eraseIdx i) from map_eraseIdx _ _ _] at this
  ·exact List.Nodup.sublist ((List.eraseIdx_sublist _ i).map _) hk'
  ·rw [e1, hg] at h; cases h
  ·dsimp only at he' hs' hp'
   rw [Array.toList_eraseIdxIfInBounds] at he'
   have he2 := List.mem_of_mem_eraseIdx he'
   have hp2 := (hme p').1 hp'
   rcases Array.mem_push.1 hs' with h1 | h1
   ·exact hsn e' he2 h1 p' hp2.1 h
   ·have e1 : e' = e := stamp_inj hI.nd he2 he h1
    subst e1
    exact absurd (hkp p' hp2.1 h) hp2.2
end Go.Sx

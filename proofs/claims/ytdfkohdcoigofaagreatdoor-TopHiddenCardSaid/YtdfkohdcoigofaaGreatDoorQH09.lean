/- Chapter 2: Leaf, Node and Root of digest: the walks. -/
import Derived.Test.YtdfkohdcoigofaaGreatDoorQH08
import Derived.Laws.RangeString
import Derived.Lib.SlTrimSet
import Derived.Shelf.Strings.SlTrimAscii
import Derived.Ground.NamesProg
import Derived.Test.YtdfkohdcoigofaaGreatDoorProg
namespace Go.Sx
open Go Go.Proofs Go.RowKit
theorem hwNL {G G2 : Prop} (x : G2) (hwq : Hold G2 → G := by
    intro hQq
    repeat' (first | refine HL.pa ?_ (POp.nilCheck rfl) | apply HL.fold | apply HA.fold | apply HL.nil | apply HX.n_then | apply HC.seq | apply HC.region | refine HL.pa ?_ | refine HL.ga rfl ?_ | refine HL.na rfl ?_ | refine HL.nu rfl rfl ?_ | apply HC.block | apply HC.skip | apply HC.exit | apply HC.ret | apply HX.e_block | refine HX.e_other rfl ?_ | apply HX.e_then | apply HX.e_again | apply HX.n_block | apply HX.r_then | apply HX.r_block | apply HX.r_again | refine HC.cond_yes rfl ?_ | refine HC.cond_no rfl ?_ | refine HL.one (H1.ldb rfl memA rfl rfl ?_) | refine HC.cond rfl (fun hc => ?_) (fun hc => ?_) | refine HC.cond_b rfl (fun hc => ?_) (fun hc => ?_))
    exact hQq.get) : G := hwq ⟨x⟩
theorem hbNL {G G2 : Prop} (x : G2) (hwq : Hold G2 → G := by
    intro hQq
    repeat' (first | refine HL.pa ?_ (POp.nilCheck rfl) | apply HL.fold | apply HA.fold | apply HL.nil | apply HX.n_then | apply HC.seq | apply HC.region | refine HL.pa ?_ | refine HL.ga rfl ?_ | refine HL.na rfl ?_ | refine HL.nu rfl rfl ?_ | apply HC.skip | apply HC.exit | apply HC.ret | apply HX.e_block | refine HX.e_other rfl ?_ | apply HX.e_then | apply HX.e_again | apply HX.n_block | apply HX.r_then | apply HX.r_block | apply HX.r_again | refine HC.cond_yes rfl ?_ | refine HC.cond_no rfl ?_ | refine HL.one (H1.ldb rfl memA rfl rfl ?_) | refine HC.cond rfl (fun hc => ?_) (fun hc => ?_) | refine HC.cond_b rfl (fun hc => ?_) (fun hc => ?_))
    exact hQq.get) : G := hwq ⟨x⟩
section
variable {P : Program} {r : Option Nat} {N : Nat} {ds : List Deferred} {ol : List Oper} {Q : Post} {E : Env} {w0 : World} {H H2 : List Atom}
theorem H1.conv2 {next : Act → World → Prop} {o : Oper} (hh : ∀ w, Mm w0 H w → Mm w0 H2 w) (h : H1 P r N ds next o Q E w0 H2) : H1 P r N ds next o Q E w0 H := fun w hM => h w (hh w hM)
theorem own_pre2 {w : World} {base c n i : Nat} {e : TypeId} {a : Option Addr} {xs : List Value} (h : w.ownsRow base e 1 (.slice a n c) n xs) (hi : i ≤ n) (h0 : n ≠ 0) : w.ownsRow base e 1 (.slice a i c) i (xs.take i) := by
  have hl := h.1
  rcases h.2 with ⟨hv, hz⟩ | ⟨g, cap, cur, hv, hb, hg, hnc, hcm, hcs, htk⟩
  · exact absurd hz h0
  · cases hv
    exact ⟨by rw [List.length_take]; omega, .inr ⟨g, c, cur, rfl, hb, hg, by omega, hcm, hcs, by rw [← htk, List.take_take]; congr 1; omega⟩⟩
theorem Mm.growPre2 {e : TypeId} {c n i : Nat} {a : Option Addr} {xs : List Value} {w : World} (hM : Mm w0 H w) (hr : Rpl (A.grow e 1 a c n xs) (A.grow e 1 a c i (xs.take i)) H H2) (hi : i ≤ n) (h0 : n ≠ 0) : Mm w0 H2 w :=
  hM.turn hr rfl rfl rfl (Nat.le_refl _) (fun _ _ _ => rfl) (own_pre2 (hM.own hr.mem) hi h0) (by cases a <;> simp [A.grow, Value.ownBlock]) (fun b hb => .inl (by cases a <;> exact hb))
theorem HC.capOfN {e : TypeId} {co : Code} {n c : Nat} {a : Option Addr} {xs : List Value} (hm : A.grow e 1 a c n xs ∈ H) (h : n ≤ c → HC P r N ds co Q E w0 H) : HC P r N ds co Q E w0 H := fun w hM => by
  refine h ?_ w hM
  rcases (hM.own hm).2 with ⟨h1, rfl⟩ | ⟨g, cap, cur, hv, -, -, hnc, -⟩
  · exact Nat.zero_le _
  · cases hv; exact hnc
end
/-- The roots and the sizes of the parts, the largest one first. -/
def stW (st : List (Nat × ByteArray)) : List ByteArray := (st.map Prod.snd).reverse
def stS (st : List (Nat × ByteArray)) : List Int := (st.map fun x => (x.1 : Int)).reverse
theorem stW_len (st : List (Nat × ByteArray)) : (stW st).length = st.length := by simp [stW]
theorem stS_len (st : List (Nat × ByteArray)) : (stS st).length = st.length := by simp [stS]
theorem stW_cons (x : Nat × ByteArray) (st : List (Nat × ByteArray)) : stW (x :: st) = stW st ++ [x.2] := by simp [stW]
theorem stS_cons (x : Nat × ByteArray) (st : List (Nat × ByteArray)) : stS (x :: st) = stS st ++ [(x.1 : Int)] := by simp [stS]
theorem strs_snoc (l : List ByteArray) (s : ByteArray) : strs l ++ [.string s] = strs (l ++ [s]) := by simp [strs]
theorem strs_len (l : List ByteArray) : (strs l).length = l.length := by simp [strs]
theorem mergeR_two (x y : Nat × ByteArray) (r : List (Nat × ByteArray)) : mergeR (x :: y :: r) = if y.1 = x.1 then mergeR ((2 * x.1, nodeS y.2 x.2) :: r) else x :: y :: r := by rw [mergeR]
theorem mergeR_one (x : Nat × ByteArray) : mergeR [x] = [x] := by rw [mergeR]
theorem topR_snoc (out : ByteArray) (r : List (Nat × ByteArray)) (y : Nat × ByteArray) : topR out (r ++ [y]) = nodeS y.2 (topR out r) := by unfold topR; rw [List.foldl_append]; rfl
theorem ints_snocL (l : List Int) (x : Int) : ints l ++ [zv x] = ints (l ++ [x]) := by simp [ints]
theorem stW_get0 (st : List (Nat × ByteArray)) (x y : Nat × ByteArray) : (strs (stW (x :: y :: st)))[st.length]? = some (.string y.2) := by
  rw [stW_cons, stW_cons, List.append_assoc]
  unfold strs
  rw [List.map_append, List.getElem?_append_right (by simp [stW_len])]
  simp [stW_len]
theorem stW_get1 (st : List (Nat × ByteArray)) (x y : Nat × ByteArray) : (strs (stW (x :: y :: st)))[st.length + 1]? = some (.string x.2) := by
  rw [stW_cons, stW_cons, List.append_assoc]
  unfold strs
  rw [List.map_append, List.getElem?_append_right (by simp [stW_len])]
  simp [stW_len]
theorem stS_get0 (st : List (Nat × ByteArray)) (x y : Nat × ByteArray) : (ints (stS (x :: y :: st)))[st.length]? = some (zv (y.1 : Int)) := by
  rw [stS_cons, stS_cons, List.append_assoc]
  unfold ints
  rw [List.map_append, List.getElem?_append_right (by simp [stS_len])]
  simp [stS_len]
theorem stS_get1 (st : List (Nat × ByteArray)) (x y : Nat × ByteArray) : (ints (stS (x :: y :: st)))[st.length + 1]? = some (zv (x.1 : Int)) := by
  rw [stS_cons, stS_cons, List.append_assoc]
  unfold ints
  rw [List.map_append, List.getElem?_append_right (by simp [stS_len])]
  simp [stS_len]
theorem stW_cut (st : List (Nat × ByteArray)) (x y : Nat × ByteArray) : (strs (stW (x :: y :: st))).take st.length = strs (stW st) := by
  rw [stW_cons, stW_cons, List.append_assoc]
  unfold strs
  rw [List.map_append, List.take_left' (by simp [stW_len])]
theorem stS_cut (st : List (Nat × ByteArray)) (x y : Nat × ByteArray) : (ints (stS (x :: y :: st))).take st.length = ints (stS st) := by
  rw [stS_cons, stS_cons, List.append_assoc]
  unfold ints
  rw [List.map_append, List.take_left' (by simp [stS_len])]
theorem sumR_le {x : Nat × ByteArray} {st : List (Nat × ByteArray)} (h : x ∈ st) : x.1 ≤ sumR st := by
  induction st with
  | nil => cases h
  | cons y st ih =>
    have e : sumR (y :: st) = y.1 + sumR st := by simp [sumR]
    rcases List.mem_cons.1 h with rfl | h
    · omega
    · have := ih h; omega
/-- What the stack is while equal parts become one. -/
structure StkI (l : List ByteArray) (k : Nat) (st : List (Nat × ByteArray)) : Prop where
  tos : mergeR st = stkR (l.take (k + 1))
  ne : st ≠ []
  sum : sumR st = k + 1
  sz : ∀ x ∈ st, x.2.size = 32
  len : st.length ≤ k + 1
theorem stk_sz {l : List ByteArray} : ∀ x ∈ stkR l, x.2.size = 32 := by
  have key : ∀ (n : Nat) (st : List (Nat × ByteArray)), st.length = n → (∀ x ∈ st, x.2.size = 32) → ∀ x ∈ mergeR st, x.2.size = 32 := by
    intro n
    induction n using Nat.strongRecOn with
    | ind n ih =>
      intro st hn h
      match st, hn, h with
      | [], _, h => rw [mergeR]; exact h
      | [x], _, h => rw [mergeR]; exact h
      | x :: y :: r, hn, h =>
        rw [mergeR_two]
        split
        · refine ih (r.length + 1) (by rw [← hn]; simp) _ (by simp) fun z hz => ?_
          rcases List.mem_cons.1 hz with rfl | hz
          · exact nodeS_size _ _
          · exact h z (.tail _ (.tail _ hz))
        · exact h
  refine snocI (p := fun l => ∀ x ∈ stkR l, x.2.size = 32) (by intro x hx; cases hx) (fun l s ih => ?_) l
  rw [stkR_snoc]
  refine key _ _ rfl fun x hx => ?_
  rcases List.mem_cons.1 hx with rfl | hx
  · exact leafS_size s
  · exact ih x hx
theorem stk_le (l : List ByteArray) : (stkR l).length ≤ l.length := by
  have key : ∀ (n : Nat) (st : List (Nat × ByteArray)), st.length = n → (mergeR st).length ≤ st.length := by
    intro n
    induction n using Nat.strongRecOn with
    | ind n ih =>
      intro st hn
      match st, hn with
      | [], _ => rw [mergeR]; exact Nat.le_refl _
      | [x], _ => rw [mergeR]; exact Nat.le_refl _
      | x :: y :: r, hn =>
        rw [mergeR_two]
        split
        · have := ih (r.length + 1) (by rw [← hn]; simp) ((2 * x.1, nodeS y.2 x.2) :: r) (by simp)
          simp only [List.length_cons] at this ⊢
          omega
        · exact Nat.le_refl _
  refine snocI (p := fun l => (stkR l).length ≤ l.length) (Nat.le_refl _) (fun l s ih => ?_) l
  rw [stkR_snoc, List.length_append]
  have := key _ ((1, leafS s) :: stkR l) rfl
  simp only [List.length_cons, List.length_nil] at this ⊢
  omega
theorem StkI.begin (l : List ByteArray) {k : Nat} {s : ByteArray} (hs : l.take (k + 1) = l.take k ++ [s]) (hk : k < l.length) : StkI l k ((1, leafS s) :: stkR (l.take k)) := by
  have h1 := sumR_stk (l.take k)
  have h2 := stk_le (l.take k)
  rw [List.length_take] at h1 h2
  refine ⟨by rw [hs, stkR_snoc], by simp, ?_, fun x hx => ?_, by rw [List.length_cons]; omega⟩
  · have : sumR ((1, leafS s) :: stkR (l.take k)) = 1 + sumR (stkR (l.take k)) := by simp [sumR]
    omega
  · rcases List.mem_cons.1 hx with rfl | hx
    · exact leafS_size s
    · exact stk_sz x hx
theorem StkI.next {l : List ByteArray} {k : Nat} {x y : Nat × ByteArray} {r : List (Nat × ByteArray)} (h : StkI l k (x :: y :: r)) (e : y.1 = x.1) : StkI l k ((2 * x.1, nodeS y.2 x.2) :: r) := by
  have h1 := h.tos
  rw [mergeR_two, if_pos e] at h1
  have h2 := h.sum
  have h3 := h.len
  refine ⟨h1, by simp, ?_, fun z hz => ?_, by simp only [List.length_cons] at h3 ⊢; omega⟩
  · simp only [sumR, List.map_cons, List.sum_cons] at h2 ⊢
    omega
  · rcases List.mem_cons.1 hz with rfl | hz
    · exact nodeS_size _ _
    · exact h.sz z (.tail _ (.tail _ hz))
attribute [local irreducible] WC WL WX POp Then Again Fn NX W1 WA WO QL RP RA Yld LoopAt HC HL HX HN H1 HA HO HQ HB HP A.blk A.grow A.rd A.obj A.mp AgainH CutH
attribute [local irreducible] sumS A.dfr A.loop
theorem digLeaf_fn (s : ByteArray) (hs : s.size ≤ 800000) (w : World) (hG : RoundG w) : Fn Tryz.prog 52 #[.string s] w fun v w' => v = .string (leafS s) ∧ Ext w w' := by
  have hc := catS_1 s
  refine enterH (l := [_]) rfl Tryz.ntmps52 rfl ?_
  refine hwNL ?_
  refine HL.one (H1.callz1 (vs := [.string (mkB 0)]) rfl rfl (fun w' _ => marked_fn (mkB 0) w') ?_)
  rintro b1 -
  refine hwNL ?_
  refine HL.one (H1.lit (cs := strs [s]) rfl rfl rfl rfl rfl rfl (fun b2 => ?_))
  refine hwNL ?_
  refine HL.one (H1.callv0 (f := 186) (u := .string (leafS s)) (cap := [.pointer (some ⟨b1, 0, none⟩)]) (vs := [.slice (some ⟨b2, 0, none⟩) 1 1]) rfl rfl rfl (fun w' hM => ?_) ?_)
  · have hb2 : Blk w' b2 (strs [s]) 9 := hM.blk memA
    exact marked1_fn 0 [s] w' (hG.ext hM.ext) ((hM.blk (e := 9) (cs := [.string (mkB 0)]) memA).cell rfl) (blk_rd hb2 rfl) (Array.getElem?_eq_some_iff.1 hb2).1 (by simp) (by omega)
  refine hwNL ?_
  exact HX.ret1 rfl rfl fun w' hM => ⟨rfl, hM.ext⟩
theorem digNode_fn (h r : ByteArray) (hs : h.size + r.size ≤ 800000) (w : World) (hG : RoundG w) : Fn Tryz.prog 51 #[.string h, .string r] w fun v w' => v = .string (nodeS h r) ∧ Ext w w' := by
  have hc := catS_2 h r
  refine enterH (l := [_, _]) rfl Tryz.ntmps51 rfl ?_
  refine hwNL ?_
  refine HL.one (H1.callz1 (vs := [.string (mkB 1)]) rfl rfl (fun w' _ => marked_fn (mkB 1) w') ?_)
  rintro b1 -
  refine hwNL ?_
  refine HL.one (H1.lit (cs := strs [h, r]) rfl rfl rfl rfl rfl rfl (fun b2 => ?_))
  refine hwNL ?_
  refine HL.one (H1.callv0 (f := 186) (u := .string (nodeS h r)) (cap := [.pointer (some ⟨b1, 0, none⟩)]) (vs := [.slice (some ⟨b2, 0, none⟩) 2 2]) rfl rfl rfl (fun w' hM => ?_) ?_)
  · have hb2 : Blk w' b2 (strs [h, r]) 9 := hM.blk memA
    exact marked1_fn 1 [h, r] w' (hG.ext hM.ext) ((hM.blk (e := 9) (cs := [.string (mkB 1)]) memA).cell rfl) (blk_rd hb2 rfl) (Array.getElem?_eq_some_iff.1 hb2).1 (by simp) (by omega)
  refine hwNL ?_
  exact HX.ret1 rfl rfl fun w' hM => ⟨rfl, hM.ext⟩
theorem backward_fn (a : Option Addr) (n c : Nat) (w : World) : Fn Tryz.prog 112 #[.slice a n c] w fun u w' => ∃ b : Nat, True ∧ u = .func (.func 189) #[] #[.pointer (some ⟨b, 0, none⟩)] ∧ Mm w [A.blk b [.slice a n c] 109] w' := by
  refine enterH (l := [_]) rfl Tryz.ntmps112 rfl ?_
  refine hwNL ?_
  refine HL.one (H1.box rfl rfl rfl (fun b1 => ?_))
  refine hwNL ?_
  exact HX.ret1 rfl rfl fun w' hM => ⟨b1, trivial, rfl, hM⟩
/-- The elements of the first part of a slice of the call's own, the last one first. -/
theorem backward1_fn {w0 : World} {K0 K1 : Atom} {Hq : Nat → List Atom} {b1 bw c n m lp : Nat} {W : List ByteArray} (hn : m ≤ n) (hW : W.length = n) (hm : m ≤ 1000000)
    (hy : ∀ q y, q < m → W[m - 1 - q]? = some y → ∀ w, Mm w0 (K0 :: K1 :: A.blk b1 [.slice (some ⟨bw, 0, none⟩) m c] 109 :: A.grow 9 1 (some ⟨bw, 0, none⟩) c n (strs W) :: Hq q) w →
      Yld Tryz.prog lp [zv ((m - 1 - q : Nat) : Int), .string y] w fun b w' => b = true ∧ ∃ _z : Unit, True ∧ Mm w0 (K0 :: K1 :: A.blk b1 [.slice (some ⟨bw, 0, none⟩) m c] 109 :: A.grow 9 1 (some ⟨bw, 0, none⟩) c n (strs W) :: Hq (q + 1)) w') :
    ∀ w, Mm w0 (K0 :: K1 :: A.blk b1 [.slice (some ⟨bw, 0, none⟩) m c] 109 :: A.grow 9 1 (some ⟨bw, 0, none⟩) c n (strs W) :: Hq 0) w →
      Fn Tryz.prog 189 (.func (.yield lp) #[] #[] :: [.pointer (some ⟨b1, 0, none⟩)]).toArray w fun _ w' => ∃ _z : Unit, True ∧ Mm w0 (K0 :: K1 :: A.blk b1 [.slice (some ⟨bw, 0, none⟩) m c] 109 :: A.grow 9 1 (some ⟨bw, 0, none⟩) c n (strs W) :: Hq m) w' := by
  intro w hM
  refine enterK (l := [_, _]) hM rfl Tryz.ntmps189 rfl ?_
  refine hwNL ?_
  refine HC.loop (α := Nat) (fun q => [(0, .func (.yield lp) #[] #[]), (1, .pointer (some ⟨b1, 0, none⟩)), (3, zv ((m : Int) - 1 - (q : Int)))]) (fun q => K0 :: K1 :: A.blk b1 [.slice (some ⟨bw, 0, none⟩) m c] 109 :: A.grow 9 1 (some ⟨bw, 0, none⟩) c n (strs W) :: Hq q)
    (fun q => q ≤ m) (fun q => m - q) 0 (Nat.zero_le _) (by refine ⟨rfl, rfl, ?_, trivial⟩; show some (zv _) = some (zv _); congr 2; omega) (Hs.refl _) ?_
  rintro q hq
  by_cases hlt : q < m
  rotate_left
  · obtain rfl : q = m := by omega
    have hn : ¬ (0 : Int) ≤ (q : Int) - 1 - (q : Int) := by omega
    refine hwNL ?_
    exact HX.end0 rfl fun w' hM => ⟨(), trivial, hM⟩
  have hp : (0 : Int) ≤ (m : Int) - 1 - (q : Int) := by omega
  obtain ⟨i, hi⟩ : ∃ i, i = m - 1 - q := ⟨_, rfl⟩
  have e1 : (m : Int) - 1 - (q : Int) = (i : Int) := by omega
  obtain ⟨y, hyq⟩ : ∃ y, W[i]? = some y := ⟨_, List.getElem?_eq_getElem (by omega)⟩
  have hys : (strs W)[i]? = some (.string y) := by unfold strs; rw [List.getElem?_map, hyq]; rfl
  have hyy := hy q y hlt (by rw [← hi]; exact hyq)
  rw [← hi] at hyy
  rw [e1]
  refine hwNL ?_
  refine HL.one (H1.ldg (c := c) (n := n) (sz := 1) (e := 9) (vs := strs W) (i := i) rfl memA hys rfl ?_)
  refine hwNL ?_
  refine HL.one (H1.yield (vs := [zv (i : Int), .string y]) rfl rfl rfl hyy ?_)
  rintro - -
  refine hwNL ?_
  exact HX.again (q + 1) hlt (by show m - (q + 1) < m - q; omega) (by refine ⟨rfl, rfl, ?_, trivial⟩; show some (zv _) = some (zv _); congr 2; omega) (Hs.refl _)
set_option maxHeartbeats 2000000 in
theorem digRoot_fn {v : Value} {l : List ByteArray} (hl : l.length ≤ 400000) (hs : ∀ s ∈ l, s.size ≤ 700000) (w : World) (hG : RoundG w) (hR : Rd w v (strs l)) :
    Fn Tryz.prog 54 #[v] w fun u w' => u = .string (rootS l) ∧ Ext w w' := by
  have topR_take : ∀ (out : ByteArray) (r : List (Nat × ByteArray)) (q : Nat) (y : Nat × ByteArray), r[q]? = some y → topR out (r.take (q + 1)) = nodeS y.2 (topR out (r.take q)) := fun out r q y hy => by
    rw [List.take_add_one, hy]; exact topR_snoc _ _ _
  obtain ⟨a0, c0, rfl, hc0⟩ : ∃ a c, v = .slice a l.length c ∧ l.length ≤ c := by
    obtain ⟨a, c, h1, h2, -⟩ := id hR
    rw [strs_len] at h1 h2
    exact ⟨a, c, h1, h2⟩
  refine enterN (l := [_]) (Mm.refl w) rfl Tryz.ntmps54 rfl ?_
  refine hwNL ?_
  refine HC.grow0 9 1 ?_
  refine HC.grow0 3 1 ?_
  refine HC.loop (α := Nat × (Option Addr × Nat) × (Option Addr × Nat)) (fun q => [(3, .slice q.2.1.1 (stkR (l.take q.1)).length q.2.1.2), (4, .slice q.2.2.1 (stkR (l.take q.1)).length q.2.2.2), (11, .slice a0 l.length c0), (12, zv (l.length : Int)), (13, zv (q.1 : Int))])
    (fun q => [A.grow 9 1 q.2.1.1 q.2.1.2 (stkR (l.take q.1)).length (strs (stW (stkR (l.take q.1)))), A.grow 3 1 q.2.2.1 q.2.2.2 (stkR (l.take q.1)).length (ints (stS (stkR (l.take q.1))))]) (fun q => q.1 ≤ l.length) (fun q => l.length - q.1) (0, (none, 0), (none, 0)) (Nat.zero_le _) esA (Hs.cons (Pick.there Pick.here) (Hs.cons Pick.here (Hs.refl _))) ?_
  rintro ⟨k, ⟨aw, cw⟩, ai, ci⟩ hk
  dsimp only at hk ⊢
  by_cases hlt : k < l.length
  · have hn : ((k : Nat) : Int) < (l.length : Int) := by omega
    obtain ⟨b0, off0, rfl⟩ := rd_addr hR (j := k) hlt
    have hcell := hR.cell (strs_getB hlt)
    have htk : l.take (k + 1) = l.take k ++ [getB l k] := by
      rw [List.take_add_one, List.getElem?_eq_getElem hlt]
      simp [getB, hlt]
    have hsk := hs (getB l k) (by unfold getB; simp [hlt])
    have hbeg := StkI.begin l htk hlt
    have hle := stk_le (l.take k)
    rw [List.length_take] at hle
    generalize getB l k = s at hcell htk hsk hbeg
    have hw1 := stW_cons (1, leafS s) (stkR (l.take k))
    have hs1 : stS ((1, leafS s) :: stkR (l.take k)) = stS (stkR (l.take k)) ++ [(1 : Int)] := stS_cons (1, leafS s) (stkR (l.take k))
    have hl1 : ((1, leafS s) :: stkR (l.take k)).length = (stkR (l.take k)).length + 1 := rfl
    generalize stkR (l.take k) = st at hbeg hw1 hs1 hl1 hle
    refine hwNL ?_
    refine HL.one (H1.ld0 rfl hcell rfl ?_)
    refine hwNL ?_
    refine HL.one (H1.callx (vs := [_]) rfl rfl (fun w' hM => digLeaf_fn s (by omega) w' (hG.ext hM.ext)) ?_)
    refine hwNL ?_
    refine HL.one (H1.lit (cs := [.string (leafS s)]) rfl rfl rfl rfl rfl rfl (fun b8 => ?_))
    refine hwNL ?_
    refine HL.one (H1.app1 (u := .string (leafS s)) rfl rfl (fun _ _ => by first | ((repeat (first | with_reducible exact Rpl.here | with_reducible apply Rpl.there)); done) | (repeat (first | exact Rpl.here | apply Rpl.there))) memA rfl rfl (by omega) rfl rfl (fun aw2 cw2 => ?_))
    refine hwNL ?_
    refine HL.one (H1.lit (cs := [zv 1]) rfl rfl rfl rfl rfl rfl (fun b9 => ?_))
    refine hwNL ?_
    refine HL.one (H1.app1 (u := zv 1) rfl rfl (fun _ _ => by first | ((repeat (first | with_reducible exact Rpl.here | with_reducible apply Rpl.there)); done) | (repeat (first | exact Rpl.here | apply Rpl.there))) memA rfl rfl (by omega) rfl rfl (fun as2 cs2 => ?_))
    rw [strs_snoc, ints_snocL, ← hw1, ← hs1, ← hl1]
    refine hbNL ?_
    refine HC.block ?_
    refine HC.loop (α := List (Nat × ByteArray) × (Option Addr × Nat) × (Option Addr × Nat)) (fun q => [(3, .slice q.2.1.1 q.1.length q.2.1.2), (4, .slice q.2.2.1 q.1.length q.2.2.2), (7, zv (q.1.length : Int)), (11, .slice (some ⟨b0, off0, none⟩) l.length c0), (12, zv (l.length : Int)), (13, zv (k : Int))])
      (fun q => [A.grow 9 1 q.2.1.1 q.2.1.2 q.1.length (strs (stW q.1)), A.grow 3 1 q.2.2.1 q.2.2.2 q.1.length (ints (stS q.1))]) (fun q => StkI l k q.1) (fun q => q.1.length) ((1, leafS s) :: st, (some ⟨aw2, 0, none⟩, cw2), (some ⟨as2, 0, none⟩, cs2)) hbeg esA (by repeat (first | exact Hs.nil _ | (refine Hs.cons pickA ?_))) ?_
    rintro ⟨st2, ⟨aw3, cw3⟩, ai3, ci3⟩ hI
    dsimp only at hI ⊢
    have hIl := hI.len
    match st2, hI with
    | [], hI => exact absurd rfl hI.ne
    | [x], hI =>
      have h1 : ¬ (1 : Int) < ((1 : Nat) : Int) := by decide
      have hto := hI.tos
      rw [mergeR_one] at hto
      repeat refine HC.seq ?_
      refine HC.quietS [(some 27, [7], []), (some 28, [27], [0]), (some 29, [28], [1]), (some 30, [4, 29], [2]), (some 31, [7, 29], [2]), (some 32, [31, 29], [4, 2]), (some 33, [30, 32, 29], [3, 5, 2]), (some 34, [33, 29], [6, 2]), (some 35, [4, 29], [2]), (some 36, [7, 29], [2]), (some 37, [36, 29], [9, 2]), (some 38, [35, 37, 29], [8, 10, 2]), (some 39, [38, 29], [11, 2]), (some 40, [34, 39, 29], [7, 12, 2]), (some 41, [29, 40], [2, 13])] (by kernel_rfl) (by kernel_rfl) (by kernel_rfl) ?_
      repeat' (first | refine HQ.pa ?_ | refine HQ.ga rfl ?_ | refine HQ.na rfl ?_ | refine HQ.nu rfl ?_ | refine HQ.ldb rfl memA rfl rfl ?_)
      refine HQ.nil ?_
      refine hwNL ?_
      exact HX.again (k + 1, (aw3, cw3), ai3, ci3) hlt (by show l.length - (k + 1) < l.length - k; omega) (by dsimp only; rw [← hto]; repeat (first | exact trivial | refine ⟨rfl, ?_⟩)) (by dsimp only; rw [← hto]; exact Hs.refl _)
    | x :: y :: r, hI =>
      have hlr : (x :: y :: r).length = r.length + 2 := rfl
      have h1 : (1 : Int) < ((r.length + 2 : Nat) : Int) := by omega
      have hg0 := stS_get0 r x y
      have hg1 := stS_get1 r x y
      have hw0 := stW_get0 r x y
      have hw1' := stW_get1 r x y
      have hx1 := sumR_le (x := x) (st := x :: y :: r) (.head _)
      have hsum := hI.sum
      have hszx := hI.sz x (.head _)
      have hszy := hI.sz y (.tail _ (.head _))
      rw [hlr] at hIl ⊢
      have hm0 : ((r.length + 2 : Nat) : Int) - 2 = (r.length : Int) := by omega
      have hm1 : ((r.length + 2 : Nat) : Int) - 1 = ((r.length + 1 : Nat) : Int) := by omega
      refine HC.openg (e := 9) (sz := 1) (a := aw3) (c := cw3) (n := r.length + 2) (xs := strs (stW (x :: y :: r))) memA (by omega) ?_
      rintro bw rfl
      refine HC.openg (e := 3) (sz := 1) (a := ai3) (c := ci3) (n := r.length + 2) (xs := ints (stS (x :: y :: r))) memA (by omega) ?_
      rintro bi rfl
      have hn0 : (((r.length + 2 : Nat) : Int) - 2).toNat = r.length := by omega
      have hn1 : (((r.length + 2 : Nat) : Int) - 1).toNat = r.length + 1 := by omega
      by_cases hxy : y.1 = x.1
      · have hxy' : (y.1 : Int) = (x.1 : Int) := by omega
        repeat refine HC.seq ?_
        refine HC.quietS [(some 27, [7], []), (some 28, [27], [0]), (some 29, [28], [1]), (some 30, [4, 29], [2]), (some 31, [7, 29], [2]), (some 32, [31, 29], [4, 2]), (some 33, [30, 32, 29], [3, 5, 2]), (some 34, [33, 29], [6, 2]), (some 35, [4, 29], [2]), (some 36, [7, 29], [2]), (some 37, [36, 29], [9, 2]), (some 38, [35, 37, 29], [8, 10, 2]), (some 39, [38, 29], [11, 2]), (some 40, [34, 39, 29], [7, 12, 2]), (some 41, [29, 40], [2, 13])] (by kernel_rfl) (by kernel_rfl) (by kernel_rfl) ?_
        repeat' (first | refine HQ.pa ?_ | refine HQ.ga rfl ?_ | refine HQ.na rfl ?_ | refine HQ.nu rfl ?_ | refine HQ.ldb rfl memA rfl rfl ?_)
        refine HQ.ld (a := ⟨bi, r.length, none⟩) (by show some (Value.pointer (some ⟨bi, (((r.length + 2 : Nat) : Int) - 2).toNat, none⟩)) = _; rw [hn0]) (fun w' hM => ownsRow_cell (hM.own (e := 3) (sz := 1) (a := some ⟨bi, 0, none⟩) (c := ci3) (n := r.length + 2) (xs := ints (stS (x :: y :: r))) memA) hg0) rfl ?_
        repeat' (first | refine HQ.pa ?_ | refine HQ.ga rfl ?_ | refine HQ.na rfl ?_ | refine HQ.nu rfl ?_ | refine HQ.ldb rfl memA rfl rfl ?_)
        refine HQ.ld (a := ⟨bi, r.length + 1, none⟩) (by show some (Value.pointer (some ⟨bi, (((r.length + 2 : Nat) : Int) - 1).toNat, none⟩)) = _; rw [hn1]) (fun w' hM => ownsRow_cell (hM.own (e := 3) (sz := 1) (a := some ⟨bi, 0, none⟩) (c := ci3) (n := r.length + 2) (xs := ints (stS (x :: y :: r))) memA) hg1) rfl ?_
        repeat' (first | refine HQ.pa ?_ | refine HQ.ga rfl ?_ | refine HQ.na rfl ?_ | refine HQ.nu rfl ?_ | refine HQ.ldb rfl memA rfl rfl ?_)
        refine HQ.nil ?_
        refine hwNL ?_
        have hnx := hI.next hxy
        refine HC.capOfN (e := 9) (a := some ⟨bw, 0, none⟩) (c := cw3) (n := r.length + 2) (xs := strs (stW (x :: y :: r))) memA fun hcw => ?_
        refine HC.capOfN (e := 3) (a := some ⟨bi, 0, none⟩) (c := ci3) (n := r.length + 2) (xs := ints (stS (x :: y :: r))) memA fun hci => ?_
        have hwc := stW_cut r x y
        have hsc := stS_cut r x y
        have hwn : strs (stW r) ++ [.string (nodeS y.2 x.2)] = strs (stW ((2 * x.1, nodeS y.2 x.2) :: r)) := by rw [strs_snoc, stW_cons]
        have hsn : ints (stS r) ++ [zv (2 * (x.1 : Int))] = ints (stS ((2 * x.1, nodeS y.2 x.2) :: r)) := by rw [ints_snocL, stS_cons]; rw [show ((2 * x.1 : Nat) : Int) = 2 * (x.1 : Int) by omega]
        refine HC.cut (α := Nat × Nat) (fun q => [(3, .slice (some ⟨q.1, 0, none⟩) (r.length + 1) q.2), (4, .slice (some ⟨bi, 0, none⟩) (r.length + 2) ci3), (7, zv ((r.length + 2 : Nat) : Int)), (11, .slice (some ⟨b0, off0, none⟩) l.length c0), (12, zv (l.length : Int)), (13, zv (k : Int))])
          (fun q => [A.grow 9 1 (some ⟨q.1, 0, none⟩) q.2 (r.length + 1) (strs (stW ((2 * x.1, nodeS y.2 x.2) :: r))), A.grow 3 1 (some ⟨bi, 0, none⟩) ci3 (r.length + 2) (ints (stS (x :: y :: r)))]) (fun _ => True) ?_ ?_
        · refine HC.any rfl ?_
          refine HA.pa 0 rfl ?_
          refine HA.pa 1 rfl ?_
          refine HA.pa 2 rfl ?_ ((POp.sub rfl rfl (by omega) (by omega)).of (congrArg zv hm0))
          refine HA.pa 3 rfl ?_
          refine HA.pa 4 rfl ?_
          refine HA.pa 5 rfl ?_
          refine HA.pa 6 rfl ?_ ((POp.sub rfl rfl (by omega) (by omega)).of (congrArg zv hm0))
          refine HA.pa 7 rfl ?_
          refine HA.pa 9 rfl ?_
          refine HA.pa 10 rfl ?_
          refine HA.pa 11 rfl ?_ ((POp.sub rfl rfl (by omega) (by omega)).of (congrArg zv hm1))
          refine HA.pa 12 rfl ?_
          refine HA.all [8, 13] (by kernel_rfl) rfl ⟨⟨_, rfl, ?_⟩, ⟨_, rfl, ?_⟩, trivial⟩
          · refine HO.one ?_
            refine H1.ldg (c := cw3) (n := r.length + 2) (sz := 1) (e := 9) (vs := strs (stW (x :: y :: r))) (i := r.length) rfl memA hw0 rfl ?_
            apply HA.fold
            refine HA.all [13] (by kernel_rfl) rfl ⟨⟨_, rfl, ?_⟩, trivial⟩
            refine HO.one ?_
            refine H1.ldg (c := cw3) (n := r.length + 2) (sz := 1) (e := 9) (vs := strs (stW (x :: y :: r))) (i := r.length + 1) rfl memA hw1' rfl ?_
            apply HA.fold
            refine HA.all [14] (by kernel_rfl) rfl ⟨⟨_, rfl, ?_⟩, trivial⟩
            refine HO.one ?_
            refine H1.callx (vs := [.string y.2, .string x.2]) rfl rfl (fun w' hM => digNode_fn y.2 x.2 (by omega) w' (hG.ext hM.ext)) ?_
            apply HA.fold
            refine HA.all [15] (by kernel_rfl) rfl ⟨⟨_, rfl, ?_⟩, trivial⟩
            refine HO.one ?_
            refine H1.lit (cs := [.string (nodeS y.2 x.2)]) rfl rfl rfl rfl rfl rfl (fun b8 => ?_)
            apply HA.fold
            refine HA.all [16] (by kernel_rfl) rfl ⟨⟨_, rfl, ?_⟩, trivial⟩
            refine HO.one ?_
            refine H1.conv2 (H2 := [A.blk b8 [.string (nodeS y.2 x.2)] 9, A.grow 9 1 (some ⟨bw, 0, none⟩) cw3 r.length (strs (stW r)), A.grow 3 1 (some ⟨bi, 0, none⟩) ci3 (r.length + 2) (ints (stS (x :: y :: r)))]) (fun w hM => hM.growPre2 (i := r.length) (n := r.length + 2) (xs := strs (stW (x :: y :: r))) (by rw [hwc]; exact .there .here) (by omega) (by omega)) ?_
            refine H1.app1 (u := .string (nodeS y.2 x.2)) rfl rfl (fun _ _ => by first | ((repeat (first | with_reducible exact Rpl.here | with_reducible apply Rpl.there)); done) | (repeat (first | exact Rpl.here | apply Rpl.there))) memA rfl rfl (by omega) rfl rfl (fun aw4 cw4 => ?_)
            rw [hwn]
            apply HA.fold
            refine HA.pa 17 rfl ?_
            refine HA.done (by kernel_rfl) ?_
            exact HX.cut (aw4, cw4) trivial esA (by repeat (first | exact Hs.nil _ | (refine Hs.cons pickA ?_)))
          · refine HO.one ?_
            refine H1.ldg (c := cw3) (n := r.length + 2) (sz := 1) (e := 9) (vs := strs (stW (x :: y :: r))) (i := r.length + 1) rfl memA hw1' rfl ?_
            apply HA.fold
            refine HA.all [8] (by kernel_rfl) rfl ⟨⟨_, rfl, ?_⟩, trivial⟩
            refine HO.one ?_
            refine H1.ldg (c := cw3) (n := r.length + 2) (sz := 1) (e := 9) (vs := strs (stW (x :: y :: r))) (i := r.length) rfl memA hw0 rfl ?_
            apply HA.fold
            refine HA.all [14] (by kernel_rfl) rfl ⟨⟨_, rfl, ?_⟩, trivial⟩
            refine HO.one ?_
            refine H1.callx (vs := [.string y.2, .string x.2]) rfl rfl (fun w' hM => digNode_fn y.2 x.2 (by omega) w' (hG.ext hM.ext)) ?_
            apply HA.fold
            refine HA.all [15] (by kernel_rfl) rfl ⟨⟨_, rfl, ?_⟩, trivial⟩
            refine HO.one ?_
            refine H1.lit (cs := [.string (nodeS y.2 x.2)]) rfl rfl rfl rfl rfl rfl (fun b8 => ?_)
            apply HA.fold
            refine HA.all [16] (by kernel_rfl) rfl ⟨⟨_, rfl, ?_⟩, trivial⟩
            refine HO.one ?_
            refine H1.conv2 (H2 := [A.blk b8 [.string (nodeS y.2 x.2)] 9, A.grow 9 1 (some ⟨bw, 0, none⟩) cw3 r.length (strs (stW r)), A.grow 3 1 (some ⟨bi, 0, none⟩) ci3 (r.length + 2) (ints (stS (x :: y :: r)))]) (fun w hM => hM.growPre2 (i := r.length) (n := r.length + 2) (xs := strs (stW (x :: y :: r))) (by rw [hwc]; exact .there .here) (by omega) (by omega)) ?_
            refine H1.app1 (u := .string (nodeS y.2 x.2)) rfl rfl (fun _ _ => by first | ((repeat (first | with_reducible exact Rpl.here | with_reducible apply Rpl.there)); done) | (repeat (first | exact Rpl.here | apply Rpl.there))) memA rfl rfl (by omega) rfl rfl (fun aw4 cw4 => ?_)
            rw [hwn]
            apply HA.fold
            refine HA.pa 17 rfl ?_
            refine HA.done (by kernel_rfl) ?_
            exact HX.cut (aw4, cw4) trivial esA (by repeat (first | exact Hs.nil _ | (refine Hs.cons pickA ?_)))
        rintro ⟨aw4, cw4⟩ -
        dsimp only
        refine HC.any rfl ?_
        refine HA.pa 0 rfl ?_
        refine HA.pa 1 rfl ?_
        refine HA.pa 2 rfl ?_ ((POp.sub rfl rfl (by omega) (by omega)).of (congrArg zv hm0))
        refine HA.pa 3 rfl ?_
        refine HA.pa 4 rfl ?_
        refine HA.pa 5 rfl ?_
        refine HA.pa 6 rfl ?_ ((POp.sub rfl rfl (by omega) (by omega)).of (congrArg zv hm1))
        refine HA.pa 7 rfl ?_
        refine HA.all [8] (by kernel_rfl) rfl ⟨⟨_, rfl, ?_⟩, trivial⟩
        refine HO.one ?_
        refine H1.ldg (c := ci3) (n := r.length + 2) (sz := 1) (e := 3) (vs := ints (stS (x :: y :: r))) (i := r.length + 1) rfl memA hg1 rfl ?_
        apply HA.fold
        refine HA.pa 9 rfl ?_
        refine HA.all [10] (by kernel_rfl) rfl ⟨⟨_, rfl, ?_⟩, trivial⟩
        refine HO.one ?_
        refine H1.lit (cs := [zv (2 * (x.1 : Int))]) rfl rfl rfl rfl rfl rfl (fun b8 => ?_)
        apply HA.fold
        refine HA.all [11] (by kernel_rfl) rfl ⟨⟨_, rfl, ?_⟩, trivial⟩
        refine HO.one ?_
        refine H1.conv2 (H2 := [A.blk b8 [zv (2 * (x.1 : Int))] 3, A.grow 9 1 (some ⟨aw4, 0, none⟩) cw4 (r.length + 1) (strs (stW ((2 * x.1, nodeS y.2 x.2) :: r))), A.grow 3 1 (some ⟨bi, 0, none⟩) ci3 r.length (ints (stS r))]) (fun w hM => hM.growPre2 (i := r.length) (n := r.length + 2) (xs := ints (stS (x :: y :: r))) (by rw [hsc]; exact .there (.there .here)) (by omega) (by omega)) ?_
        refine H1.app1 (u := zv (2 * (x.1 : Int))) rfl rfl (fun _ _ => by first | ((repeat (first | with_reducible exact Rpl.here | with_reducible apply Rpl.there)); done) | (repeat (first | exact Rpl.here | apply Rpl.there))) memA rfl rfl (by omega) rfl rfl (fun ai4 ci4 => ?_)
        rw [hsn]
        apply HA.fold
        refine HA.pa 12 rfl ?_
        refine HA.done (by kernel_rfl) ?_
        refine hwNL ?_
        exact HX.again ((2 * x.1, nodeS y.2 x.2) :: r, (some ⟨aw4, 0, none⟩, cw4), some ⟨ai4, 0, none⟩, ci4) hnx (by show r.length + 1 < r.length + 2; omega) (by refine ⟨rfl, rfl, ?_, rfl, rfl, rfl, trivial⟩; show some (zv _) = some (zv _); rw [hm1]; rfl) (by repeat (first | exact Hs.nil _ | (refine Hs.cons pickA ?_)))
      · have hxy' : ¬ (y.1 : Int) = (x.1 : Int) := by omega
        have hto := hI.tos
        rw [mergeR_two, if_neg hxy] at hto
        repeat refine HC.seq ?_
        refine HC.quietS [(some 27, [7], []), (some 28, [27], [0]), (some 29, [28], [1]), (some 30, [4, 29], [2]), (some 31, [7, 29], [2]), (some 32, [31, 29], [4, 2]), (some 33, [30, 32, 29], [3, 5, 2]), (some 34, [33, 29], [6, 2]), (some 35, [4, 29], [2]), (some 36, [7, 29], [2]), (some 37, [36, 29], [9, 2]), (some 38, [35, 37, 29], [8, 10, 2]), (some 39, [38, 29], [11, 2]), (some 40, [34, 39, 29], [7, 12, 2]), (some 41, [29, 40], [2, 13])] (by kernel_rfl) (by kernel_rfl) (by kernel_rfl) ?_
        repeat' (first | refine HQ.pa ?_ | refine HQ.ga rfl ?_ | refine HQ.na rfl ?_ | refine HQ.nu rfl ?_ | refine HQ.ldb rfl memA rfl rfl ?_)
        refine HQ.ld (a := ⟨bi, r.length, none⟩) (by show some (Value.pointer (some ⟨bi, (((r.length + 2 : Nat) : Int) - 2).toNat, none⟩)) = _; rw [hn0]) (fun w' hM => ownsRow_cell (hM.own (e := 3) (sz := 1) (a := some ⟨bi, 0, none⟩) (c := ci3) (n := r.length + 2) (xs := ints (stS (x :: y :: r))) memA) hg0) rfl ?_
        repeat' (first | refine HQ.pa ?_ | refine HQ.ga rfl ?_ | refine HQ.na rfl ?_ | refine HQ.nu rfl ?_ | refine HQ.ldb rfl memA rfl rfl ?_)
        refine HQ.ld (a := ⟨bi, r.length + 1, none⟩) (by show some (Value.pointer (some ⟨bi, (((r.length + 2 : Nat) : Int) - 1).toNat, none⟩)) = _; rw [hn1]) (fun w' hM => ownsRow_cell (hM.own (e := 3) (sz := 1) (a := some ⟨bi, 0, none⟩) (c := ci3) (n := r.length + 2) (xs := ints (stS (x :: y :: r))) memA) hg1) rfl ?_
        repeat' (first | refine HQ.pa ?_ | refine HQ.ga rfl ?_ | refine HQ.na rfl ?_ | refine HQ.nu rfl ?_ | refine HQ.ldb rfl memA rfl rfl ?_)
        refine HQ.nil ?_
        refine hwNL ?_
        exact HX.again (k + 1, (some ⟨bw, 0, none⟩, cw3), some ⟨bi, 0, none⟩, ci3) hlt (by show l.length - (k + 1) < l.length - k; omega) (by dsimp only; rw [← hto]; repeat (first | exact trivial | refine ⟨rfl, ?_⟩)) (by dsimp only; rw [← hto]; exact Hs.refl _)
  have hn : ¬ ((k : Nat) : Int) < (l.length : Int) := by omega
  obtain rfl : k = l.length := by omega
  rw [List.take_length]
  have hroot : rootS l = topS (stkR l) := rfl
  have hle := stk_le l
  have hsz := stk_sz (l := l)
  rw [hroot]
  generalize stkR l = st at hle hsz
  match st, hle, hsz with
  | [], _, _ =>
    have h0 : ((0 : Nat) : Int) = 0 := rfl
    refine hwNL ?_
    refine HL.one (H1.callx (vs := [_]) rfl rfl (fun w' hM => sum_fn ⟨#[]⟩ (by decide) w' (hG.ext hM.ext)) ?_)
    refine hwNL ?_
    refine HX.conv (fun w h => h.dfrs0) ?_
    exact HX.retMs1 (Ds := []) rfl rfl Pick.here fun w' hM => ⟨rfl, hM.ext⟩
  | x :: r, hle, hsz =>
    have hlr : (x :: r).length = r.length + 1 := rfl
    rw [hlr] at hle ⊢
    have h0 : ¬ ((r.length + 1 : Nat) : Int) = 0 := by omega
    have hm1 : ((r.length + 1 : Nat) : Int) - 1 = (r.length : Int) := by omega
    refine HC.openg (e := 9) (sz := 1) (a := aw) (c := cw) (n := r.length + 1) (xs := strs (stW (x :: r))) memA (by omega) ?_
    rintro bw rfl
    refine HC.capOfN (e := 9) (a := some ⟨bw, 0, none⟩) (c := cw) (n := r.length + 1) (xs := strs (stW (x :: r))) memA fun hcw => ?_
    have hget : (strs (stW (x :: r)))[r.length]? = some (.string x.2) := by
      rw [stW_cons]
      unfold strs
      rw [List.map_append, List.getElem?_append_right (by simp [stW_len])]
      simp [stW_len]
    refine hwNL ?_
    refine HL.one (H1.ldg (c := cw) (n := r.length + 1) (sz := 1) (e := 9) (vs := strs (stW (x :: r))) (i := r.length) (by show some (Value.pointer (some ⟨bw, (((r.length + 1 : Nat) : Int) - 1).toNat, none⟩)) = _; rw [show (((r.length + 1 : Nat) : Int) - 1).toNat = r.length by omega]) memA hget rfl ?_)
    refine hwNL ?_
    refine HL.one (H1.alloc (cs := [.string ⟨#[]⟩]) rfl rfl (fun b8 => ?_))
    refine hwNL ?_
    refine HL.one (H1.st (b := b8) rfl rfl (by intro _ h; cases h) (by intro _ h; cases h) rplA (by exact Nat.zero_lt_one) ?_)
    refine hwNL ?_
    rw [show (((r.length + 1 : Nat) : Int) - 1).toNat = r.length by omega]
    refine HL.one (H1.callz (vs := [.slice (some ⟨bw, 0, none⟩) r.length cw]) rfl rfl (fun w' hM => backward_fn (some ⟨bw, 0, none⟩) r.length cw w') ?_)
    rintro b1 -
    refine hwNL ?_
    refine HC.sub [(8, .pointer (some ⟨b8, 0, none⟩)), (89, .func (.func 189) #[] #[.pointer (some ⟨b1, 0, none⟩)])] (A.blk b1 [.slice (some ⟨bw, 0, none⟩) r.length cw] 109 :: A.grow 9 1 (some ⟨bw, 0, none⟩) cw (r.length + 1) (strs (stW (x :: r))) :: [A.blk b8 [.string (topR x.2 (r.take 0))] 9]) ?_ esA (by repeat (first | exact Hs.nil _ | (refine Hs.cons pickA ?_)))
    refine HC.rangeFunc (α := Unit) (lb := [.pointer (some ⟨b1, 0, none⟩)]) (fun _ => A.blk b1 [.slice (some ⟨bw, 0, none⟩) r.length cw] 109 :: A.grow 9 1 (some ⟨bw, 0, none⟩) cw (r.length + 1) (strs (stW (x :: r))) :: [A.blk b8 [.string (topR x.2 (r.take r.length))] 9]) (fun _ => True) rfl ?_ ?_
    · intro D lp L hL w1 hM1
      refine backward1_fn (Hq := fun q => [A.blk b8 [.string (topR x.2 (r.take q))] 9]) (by omega) (by rw [stW_len]; rfl) (by omega) ?_ w1 hM1
      intro q y hq hy
      have hrq : ∃ z, r[q]? = some z ∧ z.2 = y := by
        rw [stW_cons, List.getElem?_append_left (by rw [stW_len]; omega)] at hy
        unfold stW at hy
        rw [List.getElem?_reverse (by rw [List.length_map]; omega), List.length_map, show r.length - 1 - (r.length - 1 - q) = q by omega, List.getElem?_map] at hy
        cases hz : r[q]? with
        | none => rw [hz] at hy; cases hy
        | some z => rw [hz] at hy; cases hy; exact ⟨z, rfl, rfl⟩
      obtain ⟨z, hz, rfl⟩ := hrq
      have hst := topR_take x.2 r q z hz
      have hzs := hsz z (.tail _ (List.mem_of_getElem? hz))
      have hts : (topR x.2 (r.take q)).size = 32 := by
        have hx := hsz x (.head _)
        have key : ∀ (m : List (Nat × ByteArray)) (o : ByteArray), o.size = 32 → (topR o m).size = 32 := by
          intro m
          induction m with
          | nil => exact fun o ho => ho
          | cons y m ih => exact fun o ho => ih _ (nodeS_size _ _)
        exact key _ _ hx
      refine Yld.ofH hL memA rfl rfl ?_
      dsimp only [List.zip_cons_cons, List.zip_nil_right, putAll]
      refine hwNL ?_
      refine HX.ra hL rplA ?_
      refine hwNL ?_
      refine HL.one (H1.callx (vs := [.string z.2, .string (topR x.2 (r.take q))]) rfl rfl (fun w' hM => digNode_fn _ _ (by omega) w' (hG.ext hM.ext)) ?_)
      rw [← hst]
      refine hwNL ?_
      refine HL.one (H1.st (b := b8) rfl rfl (by intro _ h; cases h) (by intro _ h; cases h) rplA (by exact Nat.zero_lt_one) ?_)
      refine hwNL ?_
      exact HX.rp_n hL rplA fun w' hM => ⟨rfl, (), trivial, hM⟩
    · rintro D - -
      rw [List.take_length]
      refine hwNL ?_
      refine HX.conv (fun w h => (h.dfrs0.perm (List.Perm.swap _ _ _)).dfrs1) ?_
      exact HX.retMs1 (Ds := [D]) rfl rfl Pick.here fun w' hM => ⟨rfl, hM.ext⟩
end Go.Sx
/- TopHidden: slices of the call's own whose elements take several cells; plain words of redacted copies. -/
namespace Go.Sx
open Go Go.Proofs Go.RowKit
/-- The cells of the first n elements. -/
def flatC (f : Nat → List Value) : Nat → List Value
  | 0 => []
  | n + 1 => flatC f n ++ f n
section
variable {f g : Nat → List Value} {sz : Nat}
theorem flatC_len (hf : ∀ i, (f i).length = sz) : ∀ n, (flatC f n).length = n * sz
  | 0 => by rw [Nat.zero_mul]; rfl
  | n + 1 => by rw [flatC, List.length_append, flatC_len hf n, hf, Nat.succ_mul]
theorem flatC_get (hf : ∀ i, (f i).length = sz) : ∀ {n i j : Nat}, i < n → j < sz → (flatC f n)[i * sz + j]? = (f i)[j]?
  | n + 1, i, j, hi, hj => by
    have hl := flatC_len hf n
    rw [flatC]
    by_cases e : i = n
    · subst e
      rw [List.getElem?_append_right (by omega), hl, Nat.add_sub_cancel_left]
    · have hin : i < n := by omega
      have h1 : i * sz + sz ≤ n * sz := by rw [← Nat.succ_mul]; exact Nat.mul_le_mul_right sz hin
      rw [List.getElem?_append_left (by omega)]
      exact flatC_get hf hin hj
theorem flatC_congr : ∀ {n : Nat}, (∀ i, i < n → f i = g i) → flatC f n = flatC g n
  | 0, _ => rfl
  | n + 1, h => by rw [flatC, flatC, flatC_congr fun i hi => h i (by omega), h n (by omega)]
theorem flatC_one (h : ∀ i, ∀ v ∈ f i, v.oneCell' = true) : ∀ n, ∀ v ∈ flatC f n, v.oneCell' = true
  | 0, v, hv => by cases hv
  | n + 1, v, hv => by
    rcases List.mem_append.1 hv with hv | hv
    · exact flatC_one h n v hv
    · exact h n v hv
/-- One element is written. -/
theorem flatC_set (hf : ∀ i, (f i).length = sz) (hg : ∀ i, (g i).length = sz) : ∀ {n i : Nat}, i < n → (∀ k, k < n → k ≠ i → f k = g k) → (flatC f n).take (i * sz) ++ g i ++ (flatC f n).drop (i * sz + sz) = flatC g n
  | n + 1, i, hi, h => by
    have hl := flatC_len hf n
    rw [flatC, flatC]
    by_cases e : i = n
    · subst e
      rw [List.take_append_of_le_length (by omega), List.take_of_length_le (by omega), List.drop_eq_nil_of_le (by rw [List.length_append, hl, hf]; exact Nat.le_refl _), List.append_nil]
      rw [flatC_congr fun k hk => h k (by omega) (by omega)]
    · have hin : i < n := by omega
      have h1 : i * sz + sz ≤ n * sz := by rw [← Nat.succ_mul]; exact Nat.mul_le_mul_right sz hin
      rw [List.take_append_of_le_length (by omega), List.drop_append_of_le_length (by omega), ← List.append_assoc, flatC_set hf hg hin fun k hk => h k (by omega), h n (by omega) (by omega)]
theorem Mm.rdK {w0 w : World} {H : List Atom} {e : TypeId} {a : Option Addr} {c n : Nat} (h : Mm w0 H w) (hm : A.grow e sz a c n (flatC f n) ∈ H) (hf : ∀ i, (f i).length = sz) : RdK w (.slice a n c) n sz f := by
  have hown := h.own hm
  rcases hown.2 with ⟨hv, h2⟩ | ⟨g, cap, cur, hv, hb, hg, hnc, hcm, hcs, ht⟩
  · injection hv with e1 e2 e3
    subst e3
    exact ⟨a, 0, rfl, by omega, .inl h2⟩
  · cases hv
    refine ⟨_, _, rfl, hnc, .inr ⟨g, 0, rfl, fun i hi j u hu => ?_⟩⟩
    rw [Nat.zero_add]
    have hj : j < sz := by have := (List.getElem?_eq_some_iff.1 hu).1; rwa [hf] at this
    exact ownsRow_cell hown (by rw [flatC_get hf hi hj]; exact hu)
end
section
variable {P : Program} {r : Option Nat} {N : Nat} {ds : List Deferred} {Q : Post} {E : Env} {w0 : World} {H : List Atom} {next : Act → World → Prop} {gg : Option (Nat × Bool)}
variable {t ty : TypeId} {pos : String} {af : Array Edge} {x y : Operand}
/-- A store of an element of several cells. -/
theorem H1.stgAgg {b o c n sz : Nat} {xs xs' vs : List Value} {e : TypeId} {z : Value} {m bb : Nat} {H' : List Atom} [hi : ITy P t z m bb] (hx : Env.ev E x = some (.pointer (some ⟨b, o, none⟩))) (hy : Env.ev E y = some (.agg vs.toArray))
    (hn : vs.length = m) (h1 : ∀ v ∈ vs, v.oneCell' = true) (hl : o + vs.length ≤ xs.length) (he : xs.take o ++ vs ++ xs.drop (o + vs.length) = xs') (hr : Rpl (A.grow e sz (some ⟨b, 0, none⟩) c n xs) (A.grow e sz (some ⟨b, 0, none⟩) c n xs') H H')
    (h : HN N ds next E w0 H') : H1 P r N ds next ⟨none, .store t x y, ty, pos, af, gg⟩ Q E w0 H := fun w hM => by
  subst he
  have hown := hM.own hr.mem
  have hxl := hown.1
  rcases hown.2 with ⟨hv, -⟩ | ⟨g', cap, cur, hv, hbg, hg, hnc, hcm, hcs, htake⟩
  · cases hv
  · cases hv
    obtain ⟨rest, hrest⟩ : ∃ rest, cur.toList = xs ++ rest := ⟨_, by rw [← htake]; exact (List.take_append_drop _ _).symm⟩
    have hll : o + vs.length ≤ cur.toList.length := by rw [hrest, List.length_append]; omega
    have hcurl : cur.toList.length = cur.size := Array.length_toList
    have hs := run_storeCells_at P b o e vs 0 cur w hg (by omega) h1
    simp only [Nat.add_zero] at hs
    have hnew : cur.toList.take o ++ vs ++ cur.toList.drop (o + vs.length) = (xs.take o ++ vs ++ xs.drop (o + vs.length)) ++ rest := by
      rw [hrest, List.take_append_of_le_length (by omega), List.drop_append_of_le_length (by omega)]
      simp only [List.append_assoc]
    have hxl' : (xs.take o ++ vs ++ xs.drop (o + vs.length)).length = xs.length := by
      simp only [List.length_append, List.length_take, List.length_drop]; omega
    refine W1.skip (w' := w.setRow b ((cur.toList.take o ++ vs ++ cur.toList.drop (o + vs.length)).toArray)) (fun a ha => ?_) rfl rfl (h _ (hM.turn hr rfl rfl rfl (by simp [World.setRow]) (fun q hq hq' => ?_) ?_ (by simp [A.grow, Value.ownBlock]) fun b' hb' => .inl (by simpa [A.grow, Value.ownBlock] using hb')))
    · simp only [execOp, ha.ev hx, ha.ev hy, Instr.storeAt, Instr.sureAddr, storeVar, Sem.run_bind, Sem.run_pure, Result.andThen]
      subst hn
      simp only [run_sizeOf, Value.cells, List.size_toArray, ne_eq, not_true, if_false]
      simp only [hs]
    · have hne : ¬ b = q := fun e => hq' (by simp [A.grow, Value.ownBlock, e])
      simp [World.setRow, Array.getElem?_modify, hne]
    · refine ⟨by rw [hxl']; exact hxl, .inr ⟨b, c, ((cur.toList.take o ++ vs ++ cur.toList.drop (o + vs.length)).toArray), rfl, hbg, ?_, hnc, hcm, ?_, ?_⟩⟩
      · simp [World.setRow, Array.getElem?_modify, hg]
      · rw [hnew, List.size_toArray, List.length_append, hxl', ← List.length_append, ← hrest, hcurl]; exact hcs
      · rw [hnew, List.toList_toArray, List.take_append_of_le_length (by rw [hxl', hxl]; exact Nat.le_refl _), List.take_of_length_le (by rw [hxl', hxl]; exact Nat.le_refl _)]
end
section
variable {P : Program} {N : Nat} {ds : List Deferred} {E : Env} {t t' ty e : TypeId} {x y : Operand}
theorem run_equalIn_snil [h : UTy P t (.slice e)] (w : World) (d : Nat) (a : Option Addr) (n c : Nat) : (Op.equalIn (d + 1) t (.slice a n c) (.slice none 0 0)).run P w = .ok a.isNone w := by
  cases a <;> simp [Op.equalIn, Sem.run_bind, run_underlying h.is, Result.andThen]
theorem POp.snil [h : UTy P t (.slice e)] {a : Option Addr} {n c : Nat} {b : Bool} (hx : Env.ev E x = some (.slice a n c)) (hy : Env.ev E y = some (.slice none 0 0)) (hb : a.isNone = b) : POp P N ds E (.binOp .eql t x y t') ty (.bool b) :=
  POp.bin hx hy (fun w => by rw [eqGuard_at_slice]; rfl) fun w => by
    have e1 := run_equalIn_snil (P := P) (t := t) w 9999 a n c
    show ((Op.equalIn (9999 + 1) t (.slice a n c) (.slice none 0 0)) >>= fun r => pure (Value.bool r)).run P w = _
    rw [Sem.run_bind, e1, hb]; rfl
end
/- texts -/
theorem idxFrom_asc {p : Nat → Bool} {s : ByteArray} (h : ∀ (i : Nat) (hi : i < s.size), (s[i]'hi).toNat < 128 ∧ p (s[i]'hi).toNat = false) : ∀ f pos, Lib.idxFuncFrom p true s f pos = -1
  | 0, _ => rfl
  | f + 1, pos => by
    unfold Lib.idxFuncFrom
    split
    · rename_i hp
      rw [decode_ascii s pos hp (h pos hp).1]
      dsimp only
      rw [(h pos hp).2, if_neg (by decide)]
      exact idxFrom_asc h f _
    · rfl
/-- Bytes that can be printed. -/
def TxB (s : ByteArray) : Prop := ∀ b ∈ s.data.toList, 32 ≤ b.toNat ∧ b.toNat ≤ 126
theorem TxB.idx {s : ByteArray} (h : TxB s) : Lib.idxFunc notText true s = -1 := by
  refine idxFrom_asc (fun i hi => ?_) _ _
  have hm : s[i]'hi ∈ s.data.toList := by
    have : s[i]'hi = s.data[i]'hi := rfl
    rw [this]; exact Array.getElem_mem_toList _
  have h1 := h _ hm
  refine ⟨by omega, ?_⟩
  unfold notText
  rw [decide_eq_false (by omega), decide_eq_false (by omega)]; rfl
theorem TxB.nil : TxB ⟨#[]⟩ := fun b hb => by cases hb
theorem TxB.cat {s u : ByteArray} (h : TxB s) (k : TxB u) : TxB (s ++ u) := fun b hb => by
  rw [ByteArray.data_append, Array.toList_append] at hb
  rcases List.mem_append.1 hb with hb | hb
  · exact h b hb
  · exact k b hb
/- leaves -/
/-- A leaf of a redacted copy. -/
structure Lf where
  shown : Bool
  text : ByteArray
  mark : Int
  salt : ByteArray
  dig : ByteArray
def lfC (x : Lf) : List Value := [.bool x.shown, .string x.text, zv x.mark, .string x.salt, .string x.dig]
def lfZ : Lf := ⟨false, ⟨#[]⟩, 0, ⟨#[]⟩, ⟨#[]⟩⟩
theorem lfC_one (x : Lf) : ∀ v ∈ lfC x, v.oneCell' = true := by
  intro v hv
  simp only [lfC, List.mem_cons, List.not_mem_nil, or_false] at hv
  rcases hv with rfl | rfl | rfl | rfl | rfl <;> rfl
theorem lfC_len (L : Nat → Lf) : ∀ i, (lfC (L i)).length = 5 := fun _ => rfl
theorem lnC_one (x : ByteArray × Int) : ∀ v ∈ lnC x, v.oneCell' = true := by
  intro v hv
  simp only [lnC, List.mem_cons, List.not_mem_nil, or_false] at hv
  rcases hv with rfl | rfl <;> rfl
/-- A leaf that shows its line. -/
structure LfS (x : Lf) : Prop where
  sh : x.shown = true
  dig : x.dig = ⟨#[]⟩
  salt : x.salt.size = 16
  line : LnOk (x.text, x.mark)
/-- A leaf that hides its line. -/
structure LfH (x : Lf) : Prop where
  eq : x = ⟨false, ⟨#[]⟩, 0, ⟨#[]⟩, x.dig⟩
  dig : x.dig.size = 32
def LfOk (x : Lf) : Prop := LfS x ∨ LfH x
/-- What a leaf is worth. -/
def valX (x : Lf) : ByteArray := if x.shown = true then sumS (mkB 3 ++ x.salt ++ strN x.mark.toNat ++ x.text) else x.dig
/-- A leaf, hidden if it is to be. -/
def hideX (g : Bool) (x : Lf) : Lf := if g = true then ⟨false, ⟨#[]⟩, 0, ⟨#[]⟩, valX x⟩ else x
theorem valX_size {x : Lf} (h : LfOk x) : (valX x).size = 32 := by
  unfold valX
  rcases h with h | h
  · rw [if_pos h.sh]; exact sumS_size _
  · rw [if_neg (by intro e; rw [h.eq] at e; cases e)]; exact h.dig
theorem hideX_ok {g : Bool} {x : Lf} (h : LfOk x) : LfOk (hideX g x) := by
  unfold hideX
  cases g with
  | true => exact .inr ⟨rfl, valX_size h⟩
  | false => exact h
theorem hideX_val {g : Bool} {x : Lf} : valX (hideX g x) = valX x := by
  unfold hideX
  cases g <;> rfl
/-- So many of the first leaves are shown. -/
def shownN (L : Nat → Lf) : Nat → Nat
  | 0 => 0
  | n + 1 => shownN L n + if (L n).shown = true then 1 else 0
theorem shownN_le (L : Nat → Lf) : ∀ n, shownN L n ≤ n
  | 0 => Nat.le_refl 0
  | n + 1 => by have := shownN_le L n; unfold shownN; split <;> omega
/-- What the first leaves are worth. -/
def valsX (L : Nat → Lf) (n : Nat) : List ByteArray := (List.range n).map fun i => valX (L i)
theorem valsX_succ (L : Nat → Lf) (n : Nat) : valsX L (n + 1) = valsX L n ++ [valX (L n)] := by unfold valsX; rw [List.range_succ, List.map_append]; rfl
theorem valsX_len (L : Nat → Lf) (n : Nat) : (valsX L n).length = n := by simp [valsX]
theorem valsX_congr {L M : Nat → Lf} {n : Nat} (h : ∀ i, i < n → valX (L i) = valX (M i)) : valsX L n = valsX M n := by
  unfold valsX
  exact List.map_congr_left fun i hi => h i (List.mem_range.1 hi)
/-- The root of leaves. -/
def rootX (L : Nat → Lf) (n : Nat) : ByteArray := nodeS (leafS (strN n)) (rootS (valsX L n))
theorem rootX_congr {L M : Nat → Lf} {n : Nat} (h : ∀ i, i < n → valX (L i) = valX (M i)) : rootX L n = rootX M n := by unfold rootX; rw [valsX_congr h]
/- documents -/
theorem dropW_nil {p : UInt8 → Bool} : ∀ {l : List UInt8}, (∀ b ∈ l, p b = true) → l.dropWhile p = []
  | [], _ => rfl
  | b :: l, h => by rw [List.dropWhile_cons, if_pos (h b (.head _))]; exact dropW_nil fun c hc => h c (.tail _ hc)
theorem trim_all {l cs : List UInt8} (h : ∀ b ∈ l, cs.contains b = true) : Lib.trimS l cs = [] := by
  unfold Lib.trimS Lib.trimRightS
  rw [dropW_nil fun b hb => h b (List.mem_reverse.1 hb)]; rfl
/-- A raster of so many columns. -/
structure RaOk (wd : Nat) (bits : ByteArray) : Prop where
  le : wd ≤ 32
  bin : ∀ b ∈ bits.data.toList, b = 48 ∨ b = 49
  ht : ∃ h : Nat, bits.size = wd * h ∧ (wd = 0 ∨ 1 ≤ h ∧ h ≤ 32)
/-- A sequence of which one element is another one. -/
def updF {α : Type} (f : Nat → α) (i : Nat) (a : α) (j : Nat) : α := if j = i then a else f j
theorem updF_same {α : Type} (f : Nat → α) (i : Nat) (a : α) : updF f i a i = a := if_pos rfl
theorem updF_ne {α : Type} (f : Nat → α) {i j : Nat} (a : α) (h : j ≠ i) : updF f i a j = f j := if_neg h
theorem flatC_upd {α : Type} (F : α → List Value) (f : Nat → α) (i : Nat) (a : α) : flatC (fun j => F (updF f i a j)) (i + 1) = flatC (fun j => F (f j)) i ++ F a := by
  show flatC _ i ++ F (updF f i a i) = _
  rw [updF_same, flatC_congr fun j hj => by rw [updF_ne f a (show j ≠ i by omega)]]
/-- The cells that were made, all ahead of place k. -/
structure MadeC (C : Nat → Cl) (i : Nat) (k : Int) : Prop where
  le : (i : Int) ≤ k
  ok : ∀ j, j < i → ClOk (C j)
  pos : ∀ j, j < i → 0 ≤ (C j).row ∧ 0 ≤ (C j).col ∧ (C j).col ≤ 4 ∧ (C j).row * 5 + (C j).col < k
  asc : ClAsc C i
theorem MadeC.zero (C : Nat → Cl) : MadeC C 0 0 := ⟨Int.le_refl 0, fun j hj => by omega, fun j hj => by omega, fun j hj => by omega⟩
theorem MadeC.step {C : Nat → Cl} {i : Nat} {k k' : Int} (h : MadeC C i k) {c : Cl} (hp : c.row * 5 + c.col = k) (h1 : 0 ≤ c.row) (h2 : 0 ≤ c.col ∧ c.col ≤ 4) (ok : ClOk c) (hk : k + 1 ≤ k') : MadeC (updF C i c) (i + 1) k' := by
  have hle := h.le
  refine ⟨by omega, fun j hj => ?_, fun j hj => ?_, fun j hj => ?_⟩
  · by_cases e : j = i
    · rw [e, updF_same]; exact ok
    · rw [updF_ne C c e]; exact h.ok j (by omega)
  · by_cases e : j = i
    · rw [e, updF_same]; omega
    · rw [updF_ne C c e]; have := h.pos j (by omega); omega
  · rw [updF_ne C c (show j ≠ i by omega)]
    by_cases e : j + 1 = i
    · rw [e, updF_same]
      have := h.pos j (by omega)
      omega
    · rw [updF_ne C c e]; exact h.asc j (by omega)
end Go.Sx
/- TopHidden: lines and leaves are compared. -/
namespace Go.Sx
open Go Go.Proofs Go.RowKit
def lnLits (l : ByteArray × Int) : List Lit := [.string l.1.data.toList, .int .i64 l.2]
theorem keyLits_ln {l : ByteArray × Int} (h1 : i64W l.2) (h2 : l.1.size ≤ maxLen) : Tryz.prog.keyLits 3 66 (lnC l) = some (lnLits l) := by
  have c1 : Tryz.prog.cellsOf 3 = 1 := by kernel_rfl
  have c3 : Tryz.prog.cellsOf 9 = 1 := by kernel_rfl
  have c4 : Tryz.prog.cellsOf 66 = 2 := by kernel_rfl
  have w1 := h1.wf
  simp [Program.keyLits, Tryz.underlying66, Tryz.underlying3, Tryz.underlying9, c1, c3, c4, lnC, lnLits, w1, h2]
theorem formed_ln (l : ByteArray × Int) : (Value.agg (lnC l).toArray).formed Tryz.prog 66 = true := by
  have c4 : Tryz.prog.cellsOf 66 = 2 := by kernel_rfl
  simp [Value.formed, Tryz.underlying66, c4, lnC]
theorem run_eqLn {l : ByteArray × Int} (h1 : i64W l.2) (h2 : l.1.size ≤ maxLen) (w : World) : (Op.equal 66 (.agg (lnC l).toArray) (.agg (lnC l).toArray)).run Tryz.prog w = .ok true w := by
  have hk : Tryz.prog.keyTypeAt 3 66 = true := by kernel_rfl
  obtain ⟨b, h3, h4⟩ := run_equalIn_deep (P := Tryz.prog) 9997 3 66 hk w 3 3 (.agg (lnC l).toArray) (.agg (lnC l).toArray) (lnLits l) (lnLits l) (formed_ln l) (formed_ln l) (by simpa [Value.cells] using keyLits_ln h1 h2) (by simpa [Value.cells] using keyLits_ln h1 h2)
  have e : b = true := h4.2 rfl
  rw [← e]; exact h3
theorem POp.neLn {N : Nat} {ds : List Deferred} {E : Env} {x y : Operand} {t' ty : TypeId} {l : ByteArray × Int} (hx : Env.ev E x = some (.agg (lnC l).toArray)) (hy : Env.ev E y = some (.agg (lnC l).toArray)) (h1 : i64W l.2) (h2 : l.1.size ≤ maxLen) :
    POp Tryz.prog N ds E (.binOp .neq 66 x y t') ty (.bool false) :=
  POp.bin hx hy (fun w => run_eqGuard_agg w _ _ _ _ _ _ (by kernel_rfl)) fun w => by
    have h := run_eqLn h1 h2 w
    simp only [Go.binOp, Sem.run_bind, h, Result.andThen, Sem.run_pure]
    rfl
def lfLits (x : Lf) : List Lit := [.bool x.shown, .string x.text.data.toList, .int .i64 x.mark, .string x.salt.data.toList, .string x.dig.data.toList]
theorem keyLits_lf {x : Lf} (h1 : i64W x.mark) (h2 : x.text.size ≤ maxLen) (h3 : x.salt.size ≤ maxLen) (h4 : x.dig.size ≤ maxLen) : Tryz.prog.keyLits 3 115 (lfC x) = some (lfLits x) := by
  have c1 : Tryz.prog.cellsOf 3 = 1 := by kernel_rfl
  have c2 : Tryz.prog.cellsOf 4 = 1 := by kernel_rfl
  have c3 : Tryz.prog.cellsOf 9 = 1 := by kernel_rfl
  have c4 : Tryz.prog.cellsOf 66 = 2 := by kernel_rfl
  have c5 : Tryz.prog.cellsOf 115 = 5 := by kernel_rfl
  have w1 := h1.wf
  simp [Program.keyLits, Tryz.underlying115, Tryz.underlying66, Tryz.underlying3, Tryz.underlying4, Tryz.underlying9, c1, c2, c3, c4, c5, lfC, lfLits, w1, h2, h3, h4]
  rw [if_pos (by decide)]; rfl
theorem formed_lf (x : Lf) : (Value.agg (lfC x).toArray).formed Tryz.prog 115 = true := by
  have c4 : Tryz.prog.cellsOf 115 = 5 := by kernel_rfl
  simp [Value.formed, Tryz.underlying115, c4, lfC]
theorem run_eqLf {x : Lf} (h1 : i64W x.mark) (h2 : x.text.size ≤ maxLen) (h3 : x.salt.size ≤ maxLen) (h4 : x.dig.size ≤ maxLen) (w : World) : (Op.equal 115 (.agg (lfC x).toArray) (.agg (lfC x).toArray)).run Tryz.prog w = .ok true w := by
  have hk : Tryz.prog.keyTypeAt 3 115 = true := by kernel_rfl
  obtain ⟨b, h5, h6⟩ := run_equalIn_deep (P := Tryz.prog) 9997 3 115 hk w 3 3 (.agg (lfC x).toArray) (.agg (lfC x).toArray) (lfLits x) (lfLits x) (formed_lf x) (formed_lf x) (by simpa [Value.cells] using keyLits_lf h1 h2 h3 h4) (by simpa [Value.cells] using keyLits_lf h1 h2 h3 h4)
  have e : b = true := h6.2 rfl
  rw [← e]; exact h5
theorem POp.eqLf {N : Nat} {ds : List Deferred} {E : Env} {x y : Operand} {t' ty : TypeId} {l : Lf} (hx : Env.ev E x = some (.agg (lfC l).toArray)) (hy : Env.ev E y = some (.agg (lfC l).toArray)) (h1 : i64W l.mark) (h2 : l.text.size ≤ maxLen) (h3 : l.salt.size ≤ maxLen) (h4 : l.dig.size ≤ maxLen) :
    POp Tryz.prog N ds E (.binOp .eql 115 x y t') ty (.bool true) :=
  POp.bin hx hy (fun w => run_eqGuard_agg w _ _ _ _ _ _ (by kernel_rfl)) fun w => by
    have h := run_eqLf h1 h2 h3 h4 w
    simp only [Go.binOp, Sem.run_bind, h, Result.andThen, Sem.run_pure]
end Go.Sx
/- TopHidden: package redact: salts, leaves, lists of leaves: the walks. -/
namespace Go.Sx
open Go Go.Proofs Go.RowKit
theorem hwG2 {G G2 : Prop} (x : G2) (hwq : Hold G2 → G := by
    intro hQq
    repeat' (first | refine HL.pa ?_ (POp.nilCheck rfl) | apply HL.fold | apply HA.fold | apply HL.nil | apply HX.n_then | apply HC.seq | apply HC.region | refine HL.pa ?_ | refine HL.ga rfl ?_ | refine HL.na rfl ?_ | refine HL.nu rfl rfl ?_ | apply HC.block | apply HC.skip | apply HC.exit | apply HC.ret | apply HX.e_block | refine HX.e_other rfl ?_ | apply HX.e_then | apply HX.e_again | apply HX.n_block | apply HX.r_then | apply HX.r_block | apply HX.r_again | refine HC.cond_yes rfl ?_ | refine HC.cond_no rfl ?_ | refine HL.one (H1.ldb rfl memA rfl rfl ?_) | refine HC.cond rfl (fun hc => ?_) (fun hc => ?_) | refine HC.cond_b rfl (fun hc => ?_) (fun hc => ?_))
    exact hQq.get) : G := hwq ⟨x⟩
/-- The salt of a line. -/
def saltX (s : ByteArray) (i : Nat) : ByteArray := (sumS (strN i ++ s)).extract 0 16
theorem saltX_size (s : ByteArray) (i : Nat) : (saltX s i).size = 16 := by
  unfold saltX
  rw [ByteArray.size_extract, sumS_size]; rfl
theorem lf_line (x : Lf) : ∀ (i : Nat) (v : Value), (lnC (x.text, x.mark))[i]? = some v → (lfC x)[1 + i]? = some v
  | 0, _, h => h
  | 1, _, h => h
  | i + 2, v, h => by
    have : (lnC (x.text, x.mark))[i + 2]? = none := List.getElem?_eq_none (by show 2 ≤ i + 2; omega)
    rw [this] at h; cases h
theorem LnOk.w {l : ByteArray × Int} (h : LnOk l) : i64W l.2 ∧ l.1.size ≤ maxLen := by
  have h1 := h.len
  have h3 := h.mark
  refine ⟨?_, ?_⟩
  · unfold i64W; omega
  · simp only [maxLen]; omega
theorem lnOk_zero : LnOk (⟨#[]⟩, 0) := ⟨by decide, by decide +kernel, by decide⟩
theorem LfOk.line {x : Lf} (h : LfOk x) : LnOk (x.text, x.mark) := by
  rcases h with h | h
  · exact h.line
  · rw [h.eq]; exact lnOk_zero
attribute [local irreducible] WC WL WX POp Then Again Fn NX W1 WA WO QL RP RA Yld LoopAt HC HL HX HN H1 HA HO HQ HB HP A.blk A.grow A.rd A.obj A.mp AgainH CutH
attribute [local irreducible] A.mq A.mit A.dfr A.loop sumS
theorem rnumber_fn (n : Nat) (hn : n ≤ 1099511627776) (w : World) : Fn Tryz.prog 53 #[zv (n : Int)] w fun u w' => u = .string (strN n) ∧ Ext w w' := by
  refine enterH (l := [_]) rfl Tryz.ntmps53 rfl ?_
  refine hwG2 ?_
  refine HL.one (H1.callx (vs := [_]) rfl rfl (fun w' _ => putInt_fn n hn w') ?_)
  refine hwG2 ?_
  exact HX.ret1 rfl rfl fun w' hM => ⟨rfl, hM.ext⟩
theorem salt_fn (s : ByteArray) (hs : s.size ≤ 50) (i : Nat) (hi : i < 64) (w : World) (hG : RoundG w) : Fn Tryz.prog 45 #[.string s, zv (i : Int)] w fun u w' => u = .string (saltX s i) ∧ Ext w w' := by
  have h1 : ¬ ((i : Nat) : Int) < 0 := by omega
  have h2 : ¬ ((i : Nat) : Int) ≥ 64 := by omega
  have h3 := strN_size (n := i) (by omega)
  have h4 : (strN i ++ s).size = (strN i).size + s.size := ByteArray.size_append
  have h5 := sumS_size (strN i ++ s)
  refine enterH (l := [_, _]) rfl Tryz.ntmps45 rfl ?_
  refine hwG2 ?_
  refine HL.one (H1.callx (vs := [_]) rfl rfl (fun w' _ => rnumber_fn i (by omega) w') ?_)
  refine hwG2 ?_
  refine HL.one (H1.callx (vs := [_]) rfl rfl (fun w' hM => sum_fn (strN i ++ s) (by omega) w' (hG.ext hM.ext)) ?_)
  refine hwG2 ?_
  exact HX.ret1 rfl rfl fun w' hM => ⟨rfl, hM.ext⟩
theorem isLeaf_fn (x : Lf) (h : LfOk x) (w : World) : Fn Tryz.prog 49 #[.agg (lfC x).toArray] w fun u w' => u = .bool true ∧ Ext w w' := by
  refine enterH (l := [_]) rfl Tryz.ntmps49 rfl ?_
  rcases h with h | h
  · obtain ⟨s, t, m, sa, d⟩ := x
    have h1 := h.sh
    have h2 := h.dig
    have h3 := h.salt
    have h4 := h.line
    dsimp only at h1 h2 h3 h4
    subst h1 h2
    have h3' : ((sa.size : Nat) : Int) = 16 := by omega
    unfold lfC
    refine hwG2 ?_
    refine HL.one (H1.boxAgg (cs := [.bool true, .string t, zv m, .string sa, .string ⟨#[]⟩]) rfl rfl (fun b1 => ?_))
    refine hwG2 ?_
    refine HL.one (H1.ldAgg (b := b1) (vs := lnC (t, m)) rfl memA rfl (fun i v hv => lf_line ⟨true, t, m, sa, ⟨#[]⟩⟩ i v hv) rfl ?_)
    refine hwG2 ?_
    refine HL.one (H1.lit (cs := lnC (t, m)) rfl rfl rfl rfl rfl rfl (fun bs => ?_))
    refine hwG2 ?_
    refine HL.build (cs := [.slice (some ⟨bs, 0, none⟩) 1 1, .slice none 0 0, zv 0, .string ⟨#[]⟩]) rfl rfl rfl ?_
    refine hwG2 ?_
    refine HL.one (H1.callx (vs := [_]) rfl rfl (fun w' hM => cvalid_fn (nl := 1) (nc := 0) (L := fun _ => (t, m)) (C := fun _ => ⟨0, 0, false, 0, 0, 0⟩) (by decide) (by decide) (fun _ _ => h4) (fun _ hi => absurd hi (Nat.not_lt_zero _)) (fun i hi => absurd hi (by omega)) w' ?_ ⟨none, 0, rfl, Nat.le_refl 0, .inl rfl⟩) ?_)
    · refine RdK.of_blk (hM.blk (b := bs) memA) fun i hi j u hu => ?_
      obtain rfl : i = 0 := by omega
      rw [Nat.zero_mul, Nat.zero_add]; exact hu
    refine hwG2 ?_
    exact HX.ret1 rfl rfl fun w' hM => ⟨rfl, hM.ext⟩
  · have h2 := h.dig
    have h1 := h.eq
    generalize hd : x.dig = d at h1 h2
    subst h1
    have h2' : ((d.size : Nat) : Int) = 32 := by omega
    unfold lfC
    refine hwG2 ?_
    refine HL.one (H1.boxAgg (cs := [.bool false, .string ⟨#[]⟩, zv 0, .string ⟨#[]⟩, .string d]) rfl rfl (fun b1 => ?_))
    refine hwG2 ?_
    refine HL.one (H1.ldAgg (b := b1) (vs := lfC ⟨false, ⟨#[]⟩, 0, ⟨#[]⟩, d⟩) rfl memA rfl (fun i v hv => by rw [Nat.zero_add]; exact hv) rfl ?_)
    refine hwG2 ?_
    refine HL.build (cs := lfC ⟨false, ⟨#[]⟩, 0, ⟨#[]⟩, d⟩) rfl rfl rfl ?_
    refine HL.pa ?_ (POp.eqLf (l := ⟨false, ⟨#[]⟩, 0, ⟨#[]⟩, d⟩) rfl rfl (show i64W 0 by unfold i64W; decide) (show (ByteArray.mk #[]).size ≤ maxLen by decide) (show (ByteArray.mk #[]).size ≤ maxLen by decide) (show d.size ≤ maxLen by simp only [maxLen]; omega))
    refine hwG2 ?_
    exact HX.ret1 rfl rfl fun w' hM => ⟨by rw [decide_eq_true h2'], hM.ext⟩
theorem isShown_fn (x : Lf) (w : World) : Fn Tryz.prog 62 #[.agg (lfC x).toArray] w fun u w' => u = .bool x.shown ∧ Ext w w' := by
  refine enterH (l := [_]) rfl Tryz.ntmps62 rfl ?_
  unfold lfC
  refine hwG2 ?_
  refine HL.one (H1.boxAgg (cs := [.bool x.shown, .string x.text, zv x.mark, .string x.salt, .string x.dig]) rfl rfl (fun b1 => ?_))
  refine hwG2 ?_
  exact HX.ret1 rfl rfl fun w' hM => ⟨rfl, hM.ext⟩
theorem line_fn (x : Lf) (w : World) : Fn Tryz.prog 63 #[.agg (lfC x).toArray] w fun u w' => u = .agg (lnC (x.text, x.mark)).toArray ∧ Ext w w' := by
  refine enterH (l := [_]) rfl Tryz.ntmps63 rfl ?_
  refine hwG2 ?_
  refine HL.one (H1.boxAgg (cs := lfC x) rfl rfl (fun b1 => ?_))
  refine hwG2 ?_
  refine HL.one (H1.alloc (cs := [.string ⟨#[]⟩, zv 0]) rfl rfl (fun b2 => ?_))
  refine hwG2 ?_
  refine HL.one (H1.ldAgg (b := b1) (vs := lnC (x.text, x.mark)) rfl memA rfl (fun i v hv => lf_line x i v hv) rfl ?_)
  refine hwG2 ?_
  refine HL.one (H1.stAgg (b := b2) (cs := [.string ⟨#[]⟩, zv 0]) (vs := lnC (x.text, x.mark)) rfl rfl rfl (lnC_one _) rplA rfl ?_)
  refine hwG2 ?_
  exact HX.retc1 (b := b2) (cs := lnC (x.text, x.mark)) rfl rfl memA rfl fun w' hM => ⟨rfl, hM.ext⟩
theorem own_fn (x : Lf) (w : World) : Fn Tryz.prog 107 #[.agg (lfC x).toArray] w fun u w' => u = .agg (lfC x).toArray ∧ Ext w w' := by
  refine enterH (l := [_]) rfl Tryz.ntmps107 rfl ?_
  refine hwG2 ?_
  refine HL.one (H1.boxAgg (cs := lfC x) rfl rfl (fun b1 => ?_))
  refine hwG2 ?_
  refine HL.one (H1.alloc (cs := lfC lfZ) rfl rfl (fun b2 => ?_))
  refine hwG2 ?_
  refine HL.one (H1.ldAgg (b := b1) (vs := lfC x) rfl memA rfl (fun i v hv => by rw [Nat.zero_add]; exact hv) rfl ?_)
  refine hwG2 ?_
  refine HL.one (H1.stAgg (b := b2) (cs := lfC lfZ) (vs := lfC x) rfl rfl rfl (lfC_one _) rplA rfl ?_)
  refine hwG2 ?_
  exact HX.retc1 (b := b2) (cs := lfC x) rfl rfl memA rfl fun w' hM => ⟨rfl, hM.ext⟩
theorem value_fn (x : Lf) (h : LfOk x) (w : World) (hG : RoundG w) : Fn Tryz.prog 50 #[.agg (lfC x).toArray] w fun u w' => u = .string (valX x) ∧ Ext w w' := by
  obtain ⟨s, t, m, sa, d⟩ := x
  have hl := h.line
  have hm := hl.mark
  have ht := hl.len
  dsimp only at hm ht
  refine enterH (l := [_]) rfl Tryz.ntmps50 rfl ?_
  unfold lfC
  cases s with
  | false =>
    refine hwG2 ?_
    refine HL.one (H1.boxAgg (cs := [.bool false, .string t, zv m, .string sa, .string d]) rfl rfl (fun b1 => ?_))
    refine hwG2 ?_
    exact HX.ret1 rfl rfl fun w' hM => ⟨rfl, hM.ext⟩
  | true =>
    have hsa : sa.size = 16 := by
      rcases h with h | h
      · exact h.salt
      · have := h.eq; cases this
    have h3 := strN_size (n := m.toNat) (by omega)
    have e3 : (mkB 3).size = 1 := rfl
    have h4 : (mkB 3 ++ sa).size = (mkB 3).size + sa.size := ByteArray.size_append
    have h5 : (mkB 3 ++ sa ++ strN m.toNat).size = (mkB 3 ++ sa).size + (strN m.toNat).size := ByteArray.size_append
    have h6 : (mkB 3 ++ sa ++ strN m.toNat ++ t).size = (mkB 3 ++ sa ++ strN m.toNat).size + t.size := ByteArray.size_append
    have hmn : m = ((m.toNat : Nat) : Int) := by omega
    refine hwG2 ?_
    refine HL.one (H1.boxAgg (cs := [.bool true, .string t, zv m, .string sa, .string d]) rfl rfl (fun b1 => ?_))
    refine hwG2 ?_
    refine HC.anyC ([(⟨b1, 3, none⟩, .string sa), (⟨b1, 2, none⟩, zv m), (⟨b1, 1, none⟩, .string t)]) rfl ?_
    refine HB.pa 0 rfl ?_
    refine HB.ld 1 rfl rfl memD ?_
    refine HB.pa (v := .string (mkB 3 ++ sa)) 2 rfl ?_ (POp.cat rfl rfl (by rw [hsa]; decide))
    refine HB.pa 3 rfl ?_
    refine HB.pa 4 rfl ?_
    refine HB.ld 5 rfl rfl memD ?_
    refine HB.pa 8 rfl ?_
    refine HB.pa 9 rfl ?_
    refine HB.ld 10 rfl rfl memD ?_
    refine HB.all (by repeat (first | exact Keep.nil | refine Keep.blk (by (repeat (first | exact List.Mem.head _ | apply List.Mem.tail)); done) rfl ?_ | refine Keep.grow (by (repeat (first | exact List.Mem.head _ | apply List.Mem.tail)); done) (by assumption) ?_ | refine Keep.base (by assumption) ?_)) [6] (by kernel_rfl) rfl ⟨⟨_, rfl, ?_⟩, trivial⟩
    refine HP.one ?_
    refine H1.callx (u := .string (strN m.toNat)) (vs := [zv m]) rfl rfl (fun w' _ => by rw [hmn]; exact rnumber_fn m.toNat (by omega) w') ?_
    apply HB.fold
    refine HB.pa (v := .string (mkB 3 ++ sa ++ strN m.toNat)) 7 rfl ?_ (POp.cat rfl rfl (by omega))
    refine HB.pa (v := .string (mkB 3 ++ sa ++ strN m.toNat ++ t)) 11 rfl ?_ (POp.cat rfl rfl (by omega))
    refine HB.all (by repeat (first | exact Keep.nil | refine Keep.blk (by (repeat (first | exact List.Mem.head _ | apply List.Mem.tail)); done) rfl ?_ | refine Keep.grow (by (repeat (first | exact List.Mem.head _ | apply List.Mem.tail)); done) (by assumption) ?_ | refine Keep.base (by assumption) ?_)) [12] (by kernel_rfl) rfl ⟨⟨_, rfl, ?_⟩, trivial⟩
    refine HP.one ?_
    refine H1.callx (vs := [_]) rfl rfl (fun w' hM => sum_fn (mkB 3 ++ sa ++ strN m.toNat ++ t) (by omega) w' (hG.ext hM.ext)) ?_
    apply HB.fold
    refine HB.pa 13 rfl ?_
    refine HB.done (by repeat (first | exact Keep.nil | refine Keep.blk (by (repeat (first | exact List.Mem.head _ | apply List.Mem.tail)); done) rfl ?_ | refine Keep.grow (by (repeat (first | exact List.Mem.head _ | apply List.Mem.tail)); done) (by assumption) ?_ | refine Keep.base (by assumption) ?_)) (by kernel_rfl) ?_
    refine hwG2 ?_
    exact HX.ret1 rfl rfl fun w' hM => ⟨rfl, hM.ext⟩
end Go.Sx
/- TopHidden: package redact: lists of leaves: the walks. -/
namespace Go.Sx
open Go Go.Proofs Go.RowKit
theorem hwG3 {G G2 : Prop} (x : G2) (hwq : Hold G2 → G := by
    intro hQq
    repeat' (first | refine HL.pa ?_ (POp.nilCheck rfl) | apply HL.fold | apply HA.fold | apply HL.nil | apply HX.n_then | apply HC.seq | apply HC.region | refine HL.pa ?_ | refine HL.ga rfl ?_ | refine HL.na rfl ?_ | refine HL.nu rfl rfl ?_ | apply HC.block | apply HC.skip | apply HC.exit | apply HC.ret | apply HX.e_block | refine HX.e_other rfl ?_ | apply HX.e_then | apply HX.e_again | apply HX.n_block | apply HX.r_then | apply HX.r_block | apply HX.r_again | refine HC.cond_yes rfl ?_ | refine HC.cond_no rfl ?_ | refine HL.one (H1.ldb rfl memA rfl rfl ?_) | refine HC.cond rfl (fun hc => ?_) (fun hc => ?_) | refine HC.cond_b rfl (fun hc => ?_) (fun hc => ?_))
    exact hQq.get) : G := hwq ⟨x⟩
section
variable {P : Program} {r : Option Nat} {N : Nat} {ds : List Deferred} {Q : Post} {E : Env} {w0 : World} {H : List Atom} {next : Act → World → Prop} {gg : Option (Nat × Bool)}
variable {d : Nat} {t ty : TypeId} {pos : String} {af : Array Edge} {x y : Operand}
/-- append, of one element of several cells in a fresh block. -/
theorem H1.appK {e e' : TypeId} {z : Value} {sz bb n c bs : Nat} {a : Option Addr} {xs news : List Value} {H' : Option Addr → Nat → List Atom} [h : UTy P t (.slice e)] [hi : ITy P e z sz bb] (hzs : z.cells.size = sz) (hsz : 0 < sz)
    (hx : Env.ev E x = some (.slice a n c)) (hy : Env.ev E y = some (.slice (some ⟨bs, 0, none⟩) 1 1)) (hr : ∀ a' c', Rpl (A.grow e sz a c n xs) (A.grow e sz a' c' (n + 1) (xs ++ news)) H (H' a' c'))
    (hm : A.blk bs news e' ∈ H) (hl : news.length = sz) (h1 : ∀ u ∈ news, u.oneCell' = true) (hnm : n + 1 ≤ 1000000) (hb : bb ≤ 1000) (hd : Nat.blt d N = true)
    (hn : ∀ b c', HN N ds next ((d, .slice (some ⟨b, 0, none⟩) (n + 1) c') :: E) w0 (H' (some ⟨b, 0, none⟩) c')) :
    H1 P r N ds next ⟨some d, .call ⟨.builtin .append, #[x, y], #[t, t]⟩, ty, pos, af, gg⟩ Q E w0 H :=
  H1.app hzs hsz hx hy hr (by rw [hl, Nat.one_mul]) (fun w hM j u hj => by rw [add_lit, Nat.zero_add]; exact (hM.blk hm).cell hj) h1 hnm hb hd fun a' c' h => by
    rcases h with h | ⟨b, rfl⟩
    · omega
    · exact hn b c'
end
theorem topR_sizeH : ∀ (r : List (Nat × ByteArray)) {out : ByteArray}, out.size = 32 → (topR out r).size = 32
  | [], _, h => h
  | y :: r, out, _ => by
    show (topR (nodeS y.2 out) r).size = 32
    exact topR_sizeH r (nodeS_size _ _)
theorem rootS_sizeH (l : List ByteArray) : (rootS l).size = 32 := by
  have hz := fun x hx => stk_sz (l := l) x hx
  unfold rootS
  revert hz
  cases stkR l with
  | nil => intro _; exact sumS_size _
  | cons x r => intro hz; exact topR_sizeH r (hz x (.head _))
/-- The map of those that are hidden. -/
def awayL (l : List Int) : List (Int × Value) := l.foldl (fun m x => mset m x (.bool true)) []
theorem awayL_snoc (l : List Int) (x : Int) : awayL (l ++ [x]) = mset (awayL l) x (.bool true) := by unfold awayL; rw [List.foldl_append]; rfl
theorem away_get1 (n : Int) : ∀ (l : List Int) (m : List (Int × Value)), mget (l.foldl (fun m x => mset m x (.bool true)) m) n = if n ∈ l then some (.bool true) else mget m n
  | [], m => by rw [if_neg (by simp)]; rfl
  | x :: l, m => by
    show mget (l.foldl _ (mset m x (.bool true))) n = _
    rw [away_get1 n l, mget_mset2]
    by_cases h1 : n ∈ l
    · rw [if_pos h1, if_pos (List.mem_cons_of_mem _ h1)]
    · rw [if_neg h1]
      by_cases h2 : n = x
      · rw [if_pos h2, if_pos (by rw [h2]; exact .head _)]
      · rw [if_neg h2, if_neg fun h => (List.mem_cons.1 h).elim h2 h1]
theorem away_get (l : List Int) (n : Int) : mget (awayL l) n = if n ∈ l then some (.bool true) else none := by unfold awayL; rw [away_get1]; rfl
/-- The leaves, of which the first are hidden as far as they are to be. -/
def hidAt (l : List Int) (L : Nat → Lf) (i j : Nat) : Lf := if j < i then hideX (decide ((j : Int) ∈ l)) (L j) else L j
theorem hidAt_ne {l : List Int} {L : Nat → Lf} {i k : Nat} (h : k ≠ i) : hidAt l L i k = hidAt l L (i + 1) k := by
  unfold hidAt
  by_cases h1 : k < i
  · rw [if_pos h1, if_pos (by omega)]
  · rw [if_neg h1, if_neg (by omega)]
theorem hidAt_eq {l : List Int} {L : Nat → Lf} {i : Nat} : hidAt l L (i + 1) i = hideX (decide ((i : Int) ∈ l)) (L i) := if_pos (Nat.lt_succ_self i)
theorem hidAt_all {l : List Int} {L : Nat → Lf} {n j : Nat} (h : j < n) : hidAt l L n j = hideX (decide ((j : Int) ∈ l)) (L j) := if_pos h
theorem hidAt_same {l : List Int} {L : Nat → Lf} {i : Nat} : hidAt l L i i = L i := if_neg (Nat.lt_irrefl i)
/-- The lines that the first leaves show. -/
def lnsX (L : Nat → Lf) : Nat → List Value
  | 0 => []
  | n + 1 => if (L n).shown = true then lnsX L n ++ lnC ((L n).text, (L n).mark) else lnsX L n
attribute [local irreducible] WC WL WX POp Then Again Fn NX W1 WA WO QL RP RA Yld LoopAt HC HL HX HN H1 HA HO HQ HB HP A.blk A.grow A.rd A.obj A.mp AgainH CutH
attribute [local irreducible] A.mq A.mit A.dfr A.loop sumS
set_option maxHeartbeats 1000000 in
theorem indexLf_fn {v : Value} {n : Nat} {f : Nat → List Value} {p : Nat → Bool} {fv : Value} (hn1 : n ≤ 1000000) (hf : ∀ i, (f i).length = 5) (w : World) (hR : RdK w v n 5 f) (hp : PQ w fv (fun i => .agg (f i).toArray) (fun i => i < n) p) :
    Fn Tryz.prog 249 #[v, fv] w fun u w' => ∃ k : Int, FirstN n p k ∧ u = zv k ∧ Ext w w' := by
  obtain ⟨a, c, rfl, hc, -⟩ := id hR
  refine enterH (l := [_, _]) rfl Tryz.ntmps249 rfl ?_
  refine hwG3 ?_
  refine HC.loop (α := Nat) (fun j => [(0, .slice a n c), (1, fv), (7, zv (n : Int)), (8, zv (j : Int))]) (fun _ => []) (fun j => j ≤ n ∧ ∀ i, i < j → p i = false) (fun j => n - j) 0 ⟨Nat.zero_le _, fun i hi => absurd hi (Nat.not_lt_zero _)⟩ esA (Hs.refl _) ?_
  rintro j ⟨hj, hI⟩
  by_cases hlt : j < n
  · have hn : ((j : Nat) : Int) < (n : Int) := by omega
    obtain ⟨b, off, rfl, hb⟩ := hR.cell hlt
    have hcl := hb j hlt
    refine hwG3 ?_
    refine HL.one (H1.ldAggw (b := b) (off := off + j * 5) (vs := f j) rfl (hf j) (fun w' hM i u hu => cell_ext hM.ext (hcl i u hu)) rfl ?_)
    refine hwG3 ?_
    refine HL.one (H1.callpq (x := j) (fun w' hM => hp.ext hM.ext) hlt rfl rfl rfl ?_)
    cases hpr : p j
    · refine hwG3 ?_
      exact HX.again (j + 1) ⟨hlt, fun i hi => by
        by_cases e : i = j
        · rw [e]; exact hpr
        · exact hI i (by omega)⟩ (by omega) esA (Hs.refl _)
    · refine hwG3 ?_
      exact HX.ret1 rfl rfl fun w' hM => ⟨j, .inr ⟨j, rfl, hlt, hI, hpr⟩, rfl, hM.ext⟩
  have hn : ¬ ((j : Nat) : Int) < (n : Int) := by omega
  obtain rfl : j = n := by omega
  refine hwG3 ?_
  exact HX.ret1 rfl rfl fun w' hM => ⟨-1, .inl ⟨rfl, hI⟩, rfl, hM.ext⟩
theorem contLf_fn {v : Value} {n : Nat} {f : Nat → List Value} {p : Nat → Bool} {fv : Value} (hn1 : n ≤ 1000000) (hf : ∀ i, (f i).length = 5) (w : World) (hR : RdK w v n 5 f) (hp : PQ w fv (fun i => .agg (f i).toArray) (fun i => i < n) p) :
    Fn Tryz.prog 184 #[v, fv] w fun u w' => u = .bool (anyN n p) ∧ Ext w w' := by
  refine enterH (l := [_, _]) rfl Tryz.ntmps184 rfl ?_
  refine hwG3 ?_
  refine HL.one (H1.callp (α := Int) (V := zv) (I := fun k => FirstN n p k) (vs := [v, fv]) rfl rfl (fun w' hM => indexLf_fn hn1 hf w' (hR.ext hM.ext) (hp.ext hM.ext)) ?_)
  intro k hk
  refine hwG3 ?_
  exact HX.ret1 rfl rfl fun w' hM => ⟨congrArg Value.bool hk.any, hM.ext⟩
theorem every1_fn (x : Lf) (h : LfOk x) {b1 b2 : Nat} (w : World) (h1 : w.cell? ⟨b1, 0, none⟩ = some (fnV 49)) (h2 : w.cell? ⟨b2, 0, none⟩ = some (fnV 107)) :
    Fn Tryz.prog 185 #[.agg (lfC x).toArray, .pointer (some ⟨b1, 0, none⟩), .pointer (some ⟨b2, 0, none⟩)] w fun u w' => u = .bool false ∧ Ext w w' := by
  refine enterH (l := [_, _, _]) rfl Tryz.ntmps185 rfl ?_
  refine hwG3 ?_
  refine HL.one (H1.boxAgg (cs := lfC x) rfl rfl (fun b3 => ?_))
  refine hwG3 ?_
  refine HC.anyC ([(⟨b1, 0, none⟩, fnV 49), (⟨b2, 0, none⟩, fnV 107)]) rfl ?_
  refine HB.ld 0 rfl rfl memD ?_
  refine HB.ld 1 rfl rfl memD ?_
  refine HB.all (by repeat (first | exact Keep.nil | refine Keep.blk (by (repeat (first | exact List.Mem.head _ | apply List.Mem.tail)); done) rfl ?_ | refine Keep.grow (by (repeat (first | exact List.Mem.head _ | apply List.Mem.tail)); done) (by assumption) ?_ | refine Keep.base (by assumption) ?_)) [2] (by kernel_rfl) rfl ⟨⟨_, rfl, ?_⟩, trivial⟩
  refine HP.one ?_
  refine H1.ldAgg (b := b3) (vs := lfC x) rfl memA rfl (fun i v hv => by rw [Nat.zero_add]; exact hv) rfl ?_
  apply HB.fold
  refine HB.all (by repeat (first | exact Keep.nil | refine Keep.blk (by (repeat (first | exact List.Mem.head _ | apply List.Mem.tail)); done) rfl ?_ | refine Keep.grow (by (repeat (first | exact List.Mem.head _ | apply List.Mem.tail)); done) (by assumption) ?_ | refine Keep.base (by assumption) ?_)) [3] (by kernel_rfl) rfl ⟨⟨_, rfl, ?_⟩, trivial⟩
  refine HP.one ?_
  refine H1.callv0 (f := 107) (u := .agg (lfC x).toArray) (cap := []) (vs := [_]) rfl rfl rfl (fun w' _ => own_fn x w') ?_
  apply HB.fold
  refine HB.all (by repeat (first | exact Keep.nil | refine Keep.blk (by (repeat (first | exact List.Mem.head _ | apply List.Mem.tail)); done) rfl ?_ | refine Keep.grow (by (repeat (first | exact List.Mem.head _ | apply List.Mem.tail)); done) (by assumption) ?_ | refine Keep.base (by assumption) ?_)) [4] (by kernel_rfl) rfl ⟨⟨_, rfl, ?_⟩, trivial⟩
  refine HP.one ?_
  refine H1.callv0 (f := 49) (u := .bool true) (cap := []) (vs := [_]) rfl rfl rfl (fun w' _ => isLeaf_fn x h w') ?_
  apply HB.fold
  refine HB.pa 5 rfl ?_
  refine HB.pa 6 rfl ?_
  refine HB.done (by repeat (first | exact Keep.nil | refine Keep.blk (by (repeat (first | exact List.Mem.head _ | apply List.Mem.tail)); done) rfl ?_ | refine Keep.grow (by (repeat (first | exact List.Mem.head _ | apply List.Mem.tail)); done) (by assumption) ?_ | refine Keep.base (by assumption) ?_)) (by kernel_rfl) ?_
  refine hwG3 ?_
  exact HX.ret1 rfl rfl fun w' hM => ⟨rfl, hM.ext⟩
theorem every_fn {v : Value} {n : Nat} {L : Nat → Lf} (hn : n ≤ 1000000) (hok : ∀ i, i < n → LfOk (L i)) (w : World) (hR : RdK w v n 5 fun i => lfC (L i)) :
    Fn Tryz.prog 106 #[v, fnV 107, fnV 49] w fun u w' => u = .bool true ∧ Ext w w' := by
  refine enterH (l := [_, _, _]) rfl Tryz.ntmps106 rfl ?_
  refine hwG3 ?_
  refine HL.one (H1.box rfl rfl rfl (fun b4 => ?_))
  refine hwG3 ?_
  refine HL.one (H1.box rfl rfl rfl (fun b5 => ?_))
  refine hwG3 ?_
  refine HL.one (H1.callx (u := .bool false) (vs := [v, .func (.func 185) #[] #[.pointer (some ⟨b5, 0, none⟩), .pointer (some ⟨b4, 0, none⟩)]]) rfl rfl (fun w' hM => (contLf_fn (p := fun _ => false) hn (lfC_len L) w' (hR.ext hM.ext) ⟨_, [], [.pointer (some ⟨b5, 0, none⟩), .pointer (some ⟨b4, 0, none⟩)], rfl, inferInstance, fun w2 hx i hi => every1_fn (L i) (hok i hi) w2 (cell_ext hx ((hM.blk (b := b5) memA).cell rfl)) (cell_ext hx ((hM.blk (b := b4) memA).cell rfl))⟩).mono fun u w'' h => ⟨h.1.trans (by rw [anyN_no fun _ _ => rfl]), h.2⟩) ?_)
  refine hwG3 ?_
  exact HX.ret1 rfl rfl fun w' hM => ⟨rfl, hM.ext⟩
theorem isList_fn {v : Value} {n : Nat} {L : Nat → Lf} (hn : n ≤ 64) (hok : ∀ i, i < n → LfOk (L i)) (w : World) (hR : RdK w v n 5 fun i => lfC (L i)) :
    Fn Tryz.prog 46 #[v] w fun u w' => u = .bool true ∧ Ext w w' := by
  obtain ⟨a, c, rfl, -, -⟩ := id hR
  have h1 : ((n : Nat) : Int) ≤ 64 := by omega
  refine enterH (l := [_]) rfl Tryz.ntmps46 rfl ?_
  refine hwG3 ?_
  refine HL.one (H1.callx (vs := [_, _, _]) rfl rfl (fun w' hM => every_fn (by omega) hok w' (hR.ext hM.ext)) ?_)
  refine hwG3 ?_
  exact HX.ret1 rfl rfl fun w' hM => ⟨rfl, hM.ext⟩
/- what the leaves are worth -/
theorem thoseS_fn (a : Option Addr) (n c : Nat) (w : World) : Fn Tryz.prog 48 #[.slice a n c, fnV 49, fnV 50] w fun v w' => ∃ z : Nat × Nat × Nat, True ∧ v = .func (.func 109) #[] #[.pointer (some ⟨z.1, 0, none⟩), .pointer (some ⟨z.2.1, 0, none⟩), .pointer (some ⟨z.2.2, 0, none⟩)] ∧
    Mm w [A.blk z.2.2 [fnV 50] 116, A.blk z.2.1 [fnV 49] 114, A.blk z.1 [.slice a n c] 56] w' := by
  refine enterH (l := [_, _, _]) rfl Tryz.ntmps48 rfl ?_
  refine hwG3 ?_
  refine HL.one (H1.box rfl rfl rfl (fun b3 => ?_))
  refine hwG3 ?_
  refine HL.one (H1.box rfl rfl rfl (fun b4 => ?_))
  refine hwG3 ?_
  refine HL.one (H1.box rfl rfl rfl (fun b5 => ?_))
  refine hwG3 ?_
  exact HX.ret1 rfl rfl fun w' hM => ⟨(b3, b4, b5), trivial, rfl, hM⟩
set_option maxHeartbeats 1000000 in
theorem thoseS1_fn {w0 : World} {β : Type} {G : Nat → β → List Atom} {lp b1 b2 b3 n c : Nat} {a : Option Addr} {L : Nat → Lf} (hn : n ≤ 64) (hok : ∀ i, i < n → LfOk (L i)) (hG : RoundG w0) (hR : RdK w0 (.slice a n c) n 5 fun i => lfC (L i))
    (h1 : w0.cell? ⟨b1, 0, none⟩ = some (.slice a n c)) (h2 : w0.cell? ⟨b2, 0, none⟩ = some (fnV 49)) (h3 : w0.cell? ⟨b3, 0, none⟩ = some (fnV 50))
    (hy : ∀ q z, q < n → ∀ w, Mm w0 (G q z) w → Yld Tryz.prog lp [.string (valX (L q))] w fun b w' => b = true ∧ ∃ z' : β, True ∧ Mm w0 (G (q + 1) z') w') (z0 : β) :
    ∀ w, Mm w0 (G 0 z0) w → Fn Tryz.prog 109 (.func (.yield lp) #[] #[] :: [.pointer (some ⟨b1, 0, none⟩), .pointer (some ⟨b2, 0, none⟩), .pointer (some ⟨b3, 0, none⟩)]).toArray w fun _ w' => ∃ z : β, True ∧ Mm w0 (G n z) w' := by
  intro w hM
  refine enterK (l := [_, _, _, _]) hM rfl Tryz.ntmps109 rfl ?_
  refine hwG3 ?_
  refine HL.one (H1.ld0 rfl h1 rfl ?_)
  refine hwG3 ?_
  refine HC.loop (α := Nat × β) (fun z => [(0, .func (.yield lp) #[] #[]), (2, .pointer (some ⟨b2, 0, none⟩)), (3, .pointer (some ⟨b3, 0, none⟩)), (7, .slice a n c), (8, zv (n : Int)), (9, zv (z.1 : Int))]) (fun z => G z.1 z.2)
    (fun z => z.1 ≤ n) (fun z => n - z.1) (0, z0) (Nat.zero_le _) esA (Hs.refl _) ?_
  rintro ⟨j, z⟩ hj
  dsimp only at hj ⊢
  by_cases hlt : j < n
  rotate_left
  · obtain rfl : j = n := by omega
    have hn : ¬ ((j : Nat) : Int) < (j : Int) := by omega
    refine hwG3 ?_
    exact HX.end0 rfl fun w' hM => ⟨z, trivial, hM⟩
  have hn : ((j : Nat) : Int) < (n : Int) := by omega
  obtain ⟨b, off, rfl, hb⟩ := hR.cell hlt
  have hcl := hb j hlt
  have hokj := hok j hlt
  have hyj := hy j z hlt
  clear hb
  generalize L j = x at hcl hokj hyj
  refine hwG3 ?_
  refine HL.one (H1.ldAggw (b := b) (off := off + j * 5) (vs := lfC x) rfl rfl (fun w' hM i v hv => cell_ext hM.ext (hcl i v hv)) rfl ?_)
  refine hwG3 ?_
  refine HL.one (H1.alloc (cs := lfC lfZ) rfl rfl (fun b6 => ?_))
  refine hwG3 ?_
  refine HL.one (H1.stAgg (cs := lfC lfZ) (vs := lfC x) rfl rfl rfl (lfC_one x) Rpl.here rfl ?_)
  refine hwG3 ?_
  refine HL.one (H1.ld0 rfl h2 rfl ?_)
  refine hwG3 ?_
  refine HL.one (H1.ldAgg (vs := lfC x) rfl (.head _) rfl (fun i v hv => by rw [Nat.zero_add]; exact hv) rfl ?_)
  refine hwG3 ?_
  refine HL.one (H1.callv0 (f := 49) (u := .bool true) (cap := []) (vs := [_]) rfl rfl rfl (fun w' _ => isLeaf_fn x hokj w') ?_)
  refine hwG3 ?_
  refine HL.one (H1.ld0 rfl h3 rfl ?_)
  refine hwG3 ?_
  refine HL.one (H1.ldAgg (vs := lfC x) rfl (.head _) rfl (fun i v hv => by rw [Nat.zero_add]; exact hv) rfl ?_)
  refine hwG3 ?_
  refine HL.one (H1.callv0 (f := 50) (u := .string (valX x)) (cap := []) (vs := [_]) rfl rfl rfl (fun w' hM => value_fn x hokj w' (hG.ext hM.ext)) ?_)
  refine hwG3 ?_
  refine HL.one (H1.yield (α := β) (Hz := fun z' => G (j + 1) z') (I := fun _ => True) (vs := [.string (valX x)]) rfl rfl rfl (fun w' hM => hyj w' hM.tail) ?_)
  intro z' _
  refine hwG3 ?_
  exact HX.again (j + 1, z') hlt (by show n - (j + 1) < n - j; omega) esA (Hs.refl _)
set_option maxHeartbeats 1000000 in
theorem appendSeqS_fn {b1 b2 b3 n c : Nat} {a : Option Addr} {L : Nat → Lf} (w : World) (hn : n ≤ 64) (hok : ∀ i, i < n → LfOk (L i)) (hG : RoundG w) (hR : RdK w (.slice a n c) n 5 fun i => lfC (L i))
    (h1 : w.cell? ⟨b1, 0, none⟩ = some (.slice a n c)) (h2 : w.cell? ⟨b2, 0, none⟩ = some (fnV 49)) (h3 : w.cell? ⟨b3, 0, none⟩ = some (fnV 50)) :
    Fn Tryz.prog 108 #[.slice none 0 0, .func (.func 109) #[] #[.pointer (some ⟨b1, 0, none⟩), .pointer (some ⟨b2, 0, none⟩), .pointer (some ⟨b3, 0, none⟩)]] w fun u w' => ∃ z : Option Addr × Nat, True ∧ u = .slice z.1 n z.2 ∧ Mm w [A.grow 9 1 z.1 z.2 n (strs (valsX L n))] w' := by
  refine enterMH (l := [_, _]) rfl Tryz.ntmps108 rfl ?_
  refine hwG3 ?_
  refine HL.one (H1.box rfl rfl rfl (fun b2' => ?_))
  refine hwG3 ?_
  refine HC.grow0 9 1 ?_
  refine HC.sub [(2, .pointer (some ⟨b2', 0, none⟩)), (6, .func (.func 109) #[] #[.pointer (some ⟨b1, 0, none⟩), .pointer (some ⟨b2, 0, none⟩), .pointer (some ⟨b3, 0, none⟩)])] [A.blk b2' [.slice none 0 0] 109, A.grow 9 1 none 0 0 []] ?_ esA (Hs.cons (Pick.there Pick.here) (Hs.cons Pick.here (Hs.nil _)))
  refine HC.rangeFunc (α := Option Addr × Nat) (lb := [.pointer (some ⟨b1, 0, none⟩), .pointer (some ⟨b2, 0, none⟩), .pointer (some ⟨b3, 0, none⟩)]) (fun z => [A.blk b2' [.slice z.1 n z.2] 109, A.grow 9 1 z.1 z.2 n (strs (valsX L n))]) (fun _ => True) rfl ?_ ?_
  · intro D lp LL hL w1 hM1
    refine thoseS1_fn (β := Option Addr × Nat) (G := fun q z => LL .ready none :: A.dfr D :: [A.blk b2' [.slice z.1 q z.2] 109, A.grow 9 1 z.1 z.2 q (strs (valsX L q))]) hn hok hG hR h1 h2 h3 ?_ (none, 0) w1 hM1
    rintro q ⟨aq, cq⟩ hq
    dsimp only
    have hsn : strs (valsX L q) ++ [.string (valX (L q))] = strs (valsX L (q + 1)) := by rw [strs_snoc, valsX_succ]
    refine Yld.ofH hL memA rfl rfl ?_
    dsimp only [List.zip_cons_cons, List.zip_nil_right, putAll]
    refine hwG3 ?_
    refine HX.ra hL rplA ?_
    refine hwG3 ?_
    refine HL.one (H1.lit (cs := [.string (valX (L q))]) rfl rfl rfl rfl rfl rfl (fun b9 => ?_))
    refine hwG3 ?_
    refine HL.one (H1.app1 (u := .string (valX (L q))) rfl rfl (fun _ _ => by first | ((repeat (first | with_reducible exact Rpl.here | with_reducible apply Rpl.there)); done) | (repeat (first | exact Rpl.here | apply Rpl.there))) memA rfl rfl (by omega) rfl rfl (fun a' c' => ?_))
    rw [hsn]
    refine hwG3 ?_
    refine HL.one (H1.st (b := b2') rfl rfl (by intro _ h; cases h) (by intro _ h; cases h) rplA (by exact Nat.zero_lt_one) ?_)
    refine hwG3 ?_
    refine HX.rp_n hL rplA fun w' hM => ⟨rfl, (some ⟨a', 0, none⟩, c'), trivial, ?_⟩
    exact hM.tail
  · rintro D ⟨az, cz⟩ -
    dsimp only
    refine hwG3 ?_
    exact HX.retM1 rfl rfl Pick.here fun w' hM => ⟨(az, cz), trivial, rfl, hM.tail⟩
theorem collectS_fn {b1 b2 b3 n c : Nat} {a : Option Addr} {L : Nat → Lf} (w : World) (hn : n ≤ 64) (hok : ∀ i, i < n → LfOk (L i)) (hG : RoundG w) (hR : RdK w (.slice a n c) n 5 fun i => lfC (L i))
    (h1 : w.cell? ⟨b1, 0, none⟩ = some (.slice a n c)) (h2 : w.cell? ⟨b2, 0, none⟩ = some (fnV 49)) (h3 : w.cell? ⟨b3, 0, none⟩ = some (fnV 50)) :
    Fn Tryz.prog 47 #[.func (.func 109) #[] #[.pointer (some ⟨b1, 0, none⟩), .pointer (some ⟨b2, 0, none⟩), .pointer (some ⟨b3, 0, none⟩)]] w fun u w' => ∃ z : Option Addr × Nat, True ∧ u = .slice z.1 n z.2 ∧ Mm w [A.grow 9 1 z.1 z.2 n (strs (valsX L n))] w' := by
  refine enterH (l := [_]) rfl Tryz.ntmps47 rfl ?_
  refine hwG3 ?_
  refine HL.one (H1.callz (vs := [.slice none 0 0, .func (.func 109) #[] #[.pointer (some ⟨b1, 0, none⟩), .pointer (some ⟨b2, 0, none⟩), .pointer (some ⟨b3, 0, none⟩)]]) rfl rfl (fun w' hM => appendSeqS_fn (L := L) (a := a) (c := c) w' hn hok (hG.ext hM.ext) (hR.ext hM.ext) (cell_ext hM.ext h1) (cell_ext hM.ext h2) (cell_ext hM.ext h3)) ?_)
  rintro ⟨a2, c2⟩ -
  dsimp only
  refine hwG3 ?_
  exact HX.ret1 rfl rfl fun w' hM => ⟨(a2, c2), trivial, rfl, hM⟩
theorem rootX_fn {v : Value} {n : Nat} {L : Nat → Lf} (hn : n ≤ 64) (hok : ∀ i, i < n → LfOk (L i)) (w : World) (hG : RoundG w) (hR : RdK w v n 5 fun i => lfC (L i)) :
    Fn Tryz.prog 17 #[v] w fun u w' => u = .string (rootX L n) ∧ Ext w w' := by
  obtain ⟨a, c, rfl, -, -⟩ := id hR
  refine enterH (l := [_]) rfl Tryz.ntmps17 rfl ?_
  refine hwG3 ?_
  refine HL.one (H1.callx (vs := [_]) rfl rfl (fun w' hM => isList_fn hn hok w' (hR.ext hM.ext)) ?_)
  refine hwG3 ?_
  refine HL.one (H1.callz (vs := [_, _, _]) rfl rfl (fun w' _ => thoseS_fn a n c w') ?_)
  rintro ⟨b1, b2, b3⟩ -
  dsimp only
  refine hwG3 ?_
  refine HL.one (H1.callz (vs := [_]) rfl rfl (fun w' hM => collectS_fn (L := L) (a := a) (c := c) (b1 := b1) (b2 := b2) (b3 := b3) w' hn hok (hG.ext hM.ext) (hR.ext hM.ext) ((hM.blk (b := b1) memA).cell rfl) ((hM.blk (b := b2) memA).cell rfl) ((hM.blk (b := b3) memA).cell rfl)) ?_)
  rintro ⟨a4, c4⟩ -
  dsimp only
  have hs3 := strN_size (n := n) (by omega)
  have hl1 := leafS_size (strN n)
  have hvl := valsX_len L n
  have hvs : ∀ s ∈ valsX L n, s.size ≤ 700000 := fun s hs => by
    obtain ⟨i, hi, rfl⟩ := List.mem_map.1 hs
    rw [valX_size (hok i (List.mem_range.1 hi))]; decide
  have hrs := rootS_sizeH (valsX L n)
  refine hwG3 ?_
  refine HL.one (H1.callx (vs := [_]) rfl rfl (fun w' _ => rnumber_fn n (by omega) w') ?_)
  refine hwG3 ?_
  refine HL.one (H1.callx (vs := [_]) rfl rfl (fun w' hM => digLeaf_fn (strN n) (by omega) w' (hG.ext hM.ext)) ?_)
  refine hwG3 ?_
  refine HL.one (H1.callx (vs := [_]) rfl rfl (fun w' hM => digRoot_fn (l := valsX L n) (by omega) hvs w' (hG.ext hM.ext) (by have h := hM.gr (e := 9) (a := a4) (c := c4) (n := n) (xs := strs (valsX L n)) memA; exact h)) ?_)
  refine hwG3 ?_
  refine HL.one (H1.callx (vs := [_, _]) rfl rfl (fun w' hM => digNode_fn (leafS (strN n)) (rootS (valsX L n)) (by omega) w' (hG.ext hM.ext)) ?_)
  refine hwG3 ?_
  exact HX.ret1 rfl rfl fun w' hM => ⟨rfl, hM.ext⟩
theorem check_fn23 {v : Value} {n : Nat} {L : Nat → Lf} {s : ByteArray} (hs : s = rootX L n) (hn : n ≤ 64) (hok : ∀ i, i < n → LfOk (L i)) (w : World) (hG : RoundG w) (hR : RdK w v n 5 fun i => lfC (L i)) :
    Fn Tryz.prog 20 #[.string s, v] w fun u w' => u = .bool true ∧ Ext w w' := by
  subst hs
  refine enterH (l := [_, _]) rfl Tryz.ntmps20 rfl ?_
  refine hwG3 ?_
  refine HL.one (H1.callx (vs := [_]) rfl rfl (fun w' hM => isList_fn hn hok w' (hR.ext hM.ext)) ?_)
  refine hwG3 ?_
  refine HL.one (H1.callx (vs := [_]) rfl rfl (fun w' hM => rootX_fn hn hok w' (hG.ext hM.ext) (hR.ext hM.ext)) ?_)
  generalize rootX L n = s
  refine hwG3 ?_
  exact HX.ret1 rfl rfl fun w' hM => ⟨by rw [decide_eq_true rfl], hM.ext⟩
end Go.Sx
/- TopHidden: package redact: Lines, Hide, Leaves: the walks. -/
namespace Go.Sx
open Go Go.Proofs Go.RowKit
theorem hwG4 {G G2 : Prop} (x : G2) (hwq : Hold G2 → G := by
    intro hQq
    repeat' (first | refine HL.pa ?_ (POp.nilCheck rfl) | apply HL.fold | apply HA.fold | apply HL.nil | apply HX.n_then | apply HC.seq | apply HC.region | refine HL.pa ?_ | refine HL.ga rfl ?_ | refine HL.na rfl ?_ | refine HL.nu rfl rfl ?_ | apply HC.block | apply HC.skip | apply HC.exit | apply HC.ret | apply HX.e_block | refine HX.e_other rfl ?_ | apply HX.e_then | apply HX.e_again | apply HX.n_block | apply HX.r_then | apply HX.r_block | apply HX.r_again | refine HC.cond_yes rfl ?_ | refine HC.cond_no rfl ?_ | refine HL.one (H1.ldb rfl memA rfl rfl ?_) | refine HC.cond rfl (fun hc => ?_) (fun hc => ?_) | refine HC.cond_b rfl (fun hc => ?_) (fun hc => ?_))
    exact hQq.get) : G := hwq ⟨x⟩
theorem hbG4 {G G2 : Prop} (x : G2) (hwq : Hold G2 → G := by
    intro hQq
    repeat' (first | refine HL.pa ?_ (POp.nilCheck rfl) | apply HL.fold | apply HA.fold | apply HL.nil | apply HX.n_then | apply HC.seq | apply HC.region | refine HL.pa ?_ | refine HL.ga rfl ?_ | refine HL.na rfl ?_ | refine HL.nu rfl rfl ?_ | apply HC.skip | apply HC.exit | apply HC.ret | apply HX.e_block | refine HX.e_other rfl ?_ | apply HX.e_then | apply HX.e_again | apply HX.n_block | apply HX.r_then | apply HX.r_block | apply HX.r_again | refine HC.cond_yes rfl ?_ | refine HC.cond_no rfl ?_ | refine HL.one (H1.ldb rfl memA rfl rfl ?_) | refine HC.cond rfl (fun hc => ?_) (fun hc => ?_) | refine HC.cond_b rfl (fun hc => ?_) (fun hc => ?_))
    exact hQq.get) : G := hwq ⟨x⟩
theorem lnsX_yes {L : Nat → Lf} {n : Nat} (h : (L n).shown = true) : lnsX L (n + 1) = lnsX L n ++ lnC ((L n).text, (L n).mark) ∧ shownN L (n + 1) = shownN L n + 1 :=
  ⟨by rw [lnsX, if_pos h], by rw [shownN, if_pos h]⟩
theorem lnsX_no {L : Nat → Lf} {n : Nat} (h : (L n).shown = false) : lnsX L (n + 1) = lnsX L n ∧ shownN L (n + 1) = shownN L n :=
  ⟨by rw [lnsX, if_neg (by rw [h]; decide)], by rw [shownN, if_neg (by rw [h]; decide)]; rfl⟩
/-- The leaf of a line. -/
def leafX (L : Nat → ByteArray × Int) (s : ByteArray) (i : Nat) : Lf := ⟨true, (L i).1, (L i).2, saltX s i, ⟨#[]⟩⟩
theorem leafX_ok {L : Nat → ByteArray × Int} {s : ByteArray} {i : Nat} (h : LnOk (L i)) : LfOk (leafX L s i) := .inl ⟨rfl, rfl, saltX_size s i, h⟩
attribute [local irreducible] WC WL WX POp Then Again Fn NX W1 WA WO QL RP RA Yld LoopAt HC HL HX HN H1 HA HO HQ HB HP A.blk A.grow A.rd A.obj A.mp AgainH CutH
attribute [local irreducible] A.mq A.mit A.dfr A.loop sumS saltX
theorem thoseL_fn (a : Option Addr) (n c : Nat) (w : World) : Fn Tryz.prog 61 #[.slice a n c, fnV 62, fnV 63] w fun v w' => ∃ z : Nat × Nat × Nat, True ∧ v = .func (.func 117) #[] #[.pointer (some ⟨z.1, 0, none⟩), .pointer (some ⟨z.2.1, 0, none⟩), .pointer (some ⟨z.2.2, 0, none⟩)] ∧
    Mm w [A.blk z.2.2 [fnV 63] 135, A.blk z.2.1 [fnV 62] 114, A.blk z.1 [.slice a n c] 56] w' := by
  refine enterH (l := [_, _, _]) rfl Tryz.ntmps61 rfl ?_
  refine hwG4 ?_
  refine HL.one (H1.box rfl rfl rfl (fun b3 => ?_))
  refine hwG4 ?_
  refine HL.one (H1.box rfl rfl rfl (fun b4 => ?_))
  refine hwG4 ?_
  refine HL.one (H1.box rfl rfl rfl (fun b5 => ?_))
  refine hwG4 ?_
  exact HX.ret1 rfl rfl fun w' hM => ⟨(b3, b4, b5), trivial, rfl, hM⟩
set_option maxHeartbeats 1000000 in
theorem thoseL1_fn {w0 : World} {β : Type} {G : Nat → β → List Atom} {lp b1 b2 b3 n c : Nat} {a : Option Addr} {L : Nat → Lf} (hn : n ≤ 64) (hR : RdK w0 (.slice a n c) n 5 fun i => lfC (L i))
    (h1 : w0.cell? ⟨b1, 0, none⟩ = some (.slice a n c)) (h2 : w0.cell? ⟨b2, 0, none⟩ = some (fnV 62)) (h3 : w0.cell? ⟨b3, 0, none⟩ = some (fnV 63))
    (hy : ∀ q z, q < n → (L q).shown = true → ∀ w, Mm w0 (G q z) w → Yld Tryz.prog lp [.agg (lnC ((L q).text, (L q).mark)).toArray] w fun b w' => b = true ∧ ∃ z' : β, True ∧ Mm w0 (G (q + 1) z') w')
    (hs : ∀ q z, (L q).shown = false → G (q + 1) z = G q z) (z0 : β) :
    ∀ w, Mm w0 (G 0 z0) w → Fn Tryz.prog 117 (.func (.yield lp) #[] #[] :: [.pointer (some ⟨b1, 0, none⟩), .pointer (some ⟨b2, 0, none⟩), .pointer (some ⟨b3, 0, none⟩)]).toArray w fun _ w' => ∃ z : β, True ∧ Mm w0 (G n z) w' := by
  intro w hM
  refine enterK (l := [_, _, _, _]) hM rfl Tryz.ntmps117 rfl ?_
  refine hwG4 ?_
  refine HL.one (H1.ld0 rfl h1 rfl ?_)
  refine hwG4 ?_
  refine HC.loop (α := Nat × β) (fun z => [(0, .func (.yield lp) #[] #[]), (2, .pointer (some ⟨b2, 0, none⟩)), (3, .pointer (some ⟨b3, 0, none⟩)), (7, .slice a n c), (8, zv (n : Int)), (9, zv (z.1 : Int))]) (fun z => G z.1 z.2)
    (fun z => z.1 ≤ n) (fun z => n - z.1) (0, z0) (Nat.zero_le _) esA (Hs.refl _) ?_
  rintro ⟨j, z⟩ hj
  dsimp only at hj ⊢
  by_cases hlt : j < n
  rotate_left
  · obtain rfl : j = n := by omega
    have hn : ¬ ((j : Nat) : Int) < (j : Int) := by omega
    refine hwG4 ?_
    exact HX.end0 rfl fun w' hM => ⟨z, trivial, hM⟩
  have hn : ((j : Nat) : Int) < (n : Int) := by omega
  obtain ⟨b, off, rfl, hb⟩ := hR.cell hlt
  have hcl := hb j hlt
  have hyj := hy j z hlt
  have hsj := hs j z
  clear hb
  generalize L j = x at hcl hyj hsj
  refine hwG4 ?_
  refine HL.one (H1.ldAggw (b := b) (off := off + j * 5) (vs := lfC x) rfl rfl (fun w' hM i v hv => cell_ext hM.ext (hcl i v hv)) rfl ?_)
  refine hwG4 ?_
  refine HL.one (H1.alloc (cs := lfC lfZ) rfl rfl (fun b6 => ?_))
  refine hwG4 ?_
  refine HL.one (H1.stAgg (cs := lfC lfZ) (vs := lfC x) rfl rfl rfl (lfC_one x) Rpl.here rfl ?_)
  refine hwG4 ?_
  refine HL.one (H1.ld0 rfl h2 rfl ?_)
  refine hwG4 ?_
  refine HL.one (H1.ldAgg (vs := lfC x) rfl (.head _) rfl (fun i v hv => by rw [Nat.zero_add]; exact hv) rfl ?_)
  refine hwG4 ?_
  refine HL.one (H1.callv0 (f := 62) (u := .bool x.shown) (cap := []) (vs := [_]) rfl rfl rfl (fun w' _ => isShown_fn x w') ?_)
  cases hsh : x.shown with
  | false =>
    rw [← hsj hsh]
    refine hwG4 ?_
    exact HX.again (j + 1, z) hlt (by show n - (j + 1) < n - j; omega) esA (Hs.refl _).skip
  | true =>
    refine hwG4 ?_
    refine HL.one (H1.ld0 rfl h3 rfl ?_)
    refine hwG4 ?_
    refine HL.one (H1.ldAgg (vs := lfC x) rfl (.head _) rfl (fun i v hv => by rw [Nat.zero_add]; exact hv) rfl ?_)
    refine hwG4 ?_
    refine HL.one (H1.callv0 (f := 63) (u := .agg (lnC (x.text, x.mark)).toArray) (cap := []) (vs := [_]) rfl rfl rfl (fun w' _ => line_fn x w') ?_)
    refine hwG4 ?_
    refine HL.one (H1.yield (α := β) (Hz := fun z' => G (j + 1) z') (I := fun _ => True) (vs := [.agg (lnC (x.text, x.mark)).toArray]) rfl rfl rfl (fun w' hM => hyj hsh w' hM.tail) ?_)
    intro z' _
    refine hwG4 ?_
    exact HX.again (j + 1, z') hlt (by show n - (j + 1) < n - j; omega) esA (Hs.refl _)
set_option maxHeartbeats 1000000 in
theorem appendSeqL_fn {b1 b2 b3 n c : Nat} {a : Option Addr} {L : Nat → Lf} (w : World) (hn : n ≤ 64) (hR : RdK w (.slice a n c) n 5 fun i => lfC (L i))
    (h1 : w.cell? ⟨b1, 0, none⟩ = some (.slice a n c)) (h2 : w.cell? ⟨b2, 0, none⟩ = some (fnV 62)) (h3 : w.cell? ⟨b3, 0, none⟩ = some (fnV 63)) :
    Fn Tryz.prog 116 #[.slice none 0 0, .func (.func 117) #[] #[.pointer (some ⟨b1, 0, none⟩), .pointer (some ⟨b2, 0, none⟩), .pointer (some ⟨b3, 0, none⟩)]] w fun u w' => ∃ z : Option Addr × Nat, True ∧ u = .slice z.1 (shownN L n) z.2 ∧ Mm w [A.grow 66 2 z.1 z.2 (shownN L n) (lnsX L n)] w' := by
  refine enterMH (l := [_, _]) rfl Tryz.ntmps116 rfl ?_
  refine hwG4 ?_
  refine HL.one (H1.box rfl rfl rfl (fun b2' => ?_))
  refine hwG4 ?_
  refine HC.grow0 66 2 ?_
  refine HC.sub [(2, .pointer (some ⟨b2', 0, none⟩)), (6, .func (.func 117) #[] #[.pointer (some ⟨b1, 0, none⟩), .pointer (some ⟨b2, 0, none⟩), .pointer (some ⟨b3, 0, none⟩)])] [A.blk b2' [.slice none 0 0] 51, A.grow 66 2 none 0 0 []] ?_ esA (Hs.cons (Pick.there Pick.here) (Hs.cons Pick.here (Hs.nil _)))
  refine HC.rangeFunc (α := Option Addr × Nat) (lb := [.pointer (some ⟨b1, 0, none⟩), .pointer (some ⟨b2, 0, none⟩), .pointer (some ⟨b3, 0, none⟩)]) (fun z => [A.blk b2' [.slice z.1 (shownN L n) z.2] 51, A.grow 66 2 z.1 z.2 (shownN L n) (lnsX L n)]) (fun _ => True) rfl ?_ ?_
  · intro D lp LL hL w1 hM1
    refine thoseL1_fn (β := Option Addr × Nat) (G := fun q z => LL .ready none :: A.dfr D :: [A.blk b2' [.slice z.1 (shownN L q) z.2] 51, A.grow 66 2 z.1 z.2 (shownN L q) (lnsX L q)]) hn hR h1 h2 h3 ?_ ?_ (none, 0) w1 hM1
    · rintro q ⟨aq, cq⟩ hq hsh
      dsimp only
      obtain ⟨e1, e2⟩ := lnsX_yes hsh
      have hle := shownN_le L q
      rw [e1, e2]
      generalize shownN L q = m at hle ⊢
      generalize lnsX L q = xs
      generalize ((L q).text, (L q).mark) = y
      refine Yld.ofH hL memA rfl rfl ?_
      dsimp only [List.zip_cons_cons, List.zip_nil_right, putAll]
      refine hwG4 ?_
      refine HL.one (H1.alloc (cs := [.string ⟨#[]⟩, zv 0]) rfl rfl (fun b5 => ?_))
      refine hwG4 ?_
      refine HL.one (H1.stAgg (cs := [.string ⟨#[]⟩, zv 0]) (vs := lnC y) rfl rfl rfl (lnC_one y) Rpl.here rfl ?_)
      refine hwG4 ?_
      refine HX.ra hL rplA ?_
      refine hwG4 ?_
      refine HL.one (H1.ldAgg (b := b5) (vs := lnC y) rfl memA rfl (fun i v hv => by rw [Nat.zero_add]; exact hv) rfl ?_)
      refine hwG4 ?_
      refine HL.one (H1.lit (cs := lnC y) rfl rfl rfl rfl rfl rfl (fun b9 => ?_))
      refine hwG4 ?_
      refine HL.one (H1.appK (sz := 2) (bs := b9) (news := lnC y) (by rfl) (by decide) rfl rfl (fun _ _ => by first | ((repeat (first | with_reducible exact Rpl.here | with_reducible apply Rpl.there)); done) | (repeat (first | exact Rpl.here | apply Rpl.there))) memA rfl (lnC_one y) (by omega) (by decide) rfl (fun a' c' => ?_))
      refine hwG4 ?_
      refine HL.one (H1.st (b := b2') rfl rfl (by intro _ h; cases h) (by intro _ h; cases h) rplA (by exact Nat.zero_lt_one) ?_)
      refine hwG4 ?_
      refine HX.rp_n hL rplA fun w' hM => ⟨rfl, (some ⟨a', 0, none⟩, c'), trivial, ?_⟩
      exact hM.sub (by repeat (first | exact Hs.nil _ | (refine Hs.cons pickA ?_)))
    · rintro q z hsh
      obtain ⟨e1, e2⟩ := lnsX_no hsh
      rw [e1, e2]
  · rintro D ⟨az, cz⟩ -
    dsimp only
    refine hwG4 ?_
    exact HX.retM1 rfl rfl Pick.here fun w' hM => ⟨(az, cz), trivial, rfl, hM.tail⟩
theorem collectL_fn {b1 b2 b3 n c : Nat} {a : Option Addr} {L : Nat → Lf} (w : World) (hn : n ≤ 64) (hR : RdK w (.slice a n c) n 5 fun i => lfC (L i))
    (h1 : w.cell? ⟨b1, 0, none⟩ = some (.slice a n c)) (h2 : w.cell? ⟨b2, 0, none⟩ = some (fnV 62)) (h3 : w.cell? ⟨b3, 0, none⟩ = some (fnV 63)) :
    Fn Tryz.prog 60 #[.func (.func 117) #[] #[.pointer (some ⟨b1, 0, none⟩), .pointer (some ⟨b2, 0, none⟩), .pointer (some ⟨b3, 0, none⟩)]] w fun u w' => ∃ z : Option Addr × Nat, True ∧ u = .slice z.1 (shownN L n) z.2 ∧ Mm w [A.grow 66 2 z.1 z.2 (shownN L n) (lnsX L n)] w' := by
  refine enterH (l := [_]) rfl Tryz.ntmps60 rfl ?_
  refine hwG4 ?_
  refine HL.one (H1.callz (vs := [.slice none 0 0, .func (.func 117) #[] #[.pointer (some ⟨b1, 0, none⟩), .pointer (some ⟨b2, 0, none⟩), .pointer (some ⟨b3, 0, none⟩)]]) rfl rfl (fun w' hM => appendSeqL_fn (L := L) (a := a) (c := c) w' hn (hR.ext hM.ext) (cell_ext hM.ext h1) (cell_ext hM.ext h2) (cell_ext hM.ext h3)) ?_)
  rintro ⟨a2, c2⟩ -
  dsimp only
  refine hwG4 ?_
  exact HX.ret1 rfl rfl fun w' hM => ⟨(a2, c2), trivial, rfl, hM⟩
theorem lines_fn {v : Value} {n : Nat} {L : Nat → Lf} (hn : n ≤ 64) (hok : ∀ i, i < n → LfOk (L i)) (w : World) (hR : RdK w v n 5 fun i => lfC (L i)) :
    Fn Tryz.prog 22 #[v] w fun u w' => ∃ z : Option Addr × Nat, True ∧ u = .slice z.1 (shownN L n) z.2 ∧ Mm w [A.grow 66 2 z.1 z.2 (shownN L n) (lnsX L n)] w' := by
  obtain ⟨a, c, rfl, -, -⟩ := id hR
  refine enterH (l := [_]) rfl Tryz.ntmps22 rfl ?_
  refine hwG4 ?_
  refine HL.one (H1.callx (vs := [_]) rfl rfl (fun w' hM => isList_fn hn hok w' (hR.ext hM.ext)) ?_)
  refine hwG4 ?_
  refine HL.one (H1.callz (vs := [_, _, _]) rfl rfl (fun w' _ => thoseL_fn a n c w') ?_)
  rintro ⟨b1, b2, b3⟩ -
  dsimp only
  refine hwG4 ?_
  refine HL.one (H1.callz (vs := [_]) rfl rfl (fun w' hM => collectL_fn (L := L) (a := a) (c := c) (b1 := b1) (b2 := b2) (b3 := b3) w' hn (hR.ext hM.ext) ((hM.blk (b := b1) memA).cell rfl) ((hM.blk (b := b2) memA).cell rfl) ((hM.blk (b := b3) memA).cell rfl)) ?_)
  rintro ⟨a4, c4⟩ -
  dsimp only
  refine hwG4 ?_
  exact HX.ret1 rfl rfl fun w' hM => ⟨(a4, c4), trivial, rfl, hM.sub (by repeat (first | exact Hs.nil _ | (refine Hs.cons pickA ?_)))⟩
/- Hide -/
theorem cloneLf_fn {v : Value} {n : Nat} {L : Nat → Lf} (hn : n ≤ 64) (w : World) (hR : RdK w v n 5 fun i => lfC (L i)) :
    Fn Tryz.prog 59 #[v] w fun u w' => ∃ z : Option Addr × Nat, (n = 0 ∨ ∃ b, z.1 = some ⟨b, 0, none⟩) ∧ u = .slice z.1 n z.2 ∧ Mm w [A.grow 68 5 z.1 z.2 n (flatC (fun i => lfC (L i)) n)] w' := by
  obtain ⟨a, c, rfl, -, h⟩ := id hR
  refine enterH (l := [_]) rfl Tryz.ntmps59 rfl ?_
  cases a with
  | none =>
    have h0 : n = 0 := by
      rcases h with h | ⟨b, off, h, -⟩
      · exact h
      · cases h
    subst h0
    refine HC.grow0 68 5 ?_
    refine hwG4 ?_
    refine HL.pa ?_ (POp.snil (b := true) rfl rfl rfl)
    refine hwG4 ?_
    exact HX.ret1 rfl rfl fun w' hM => ⟨(none, 0), .inl rfl, rfl, hM⟩
  | some ad =>
    refine hwG4 ?_
    refine HL.pa ?_ (POp.snil (b := false) rfl rfl rfl)
    refine hwG4 ?_
    refine HL.one (H1.lit0 rfl (fun b5 => ?_))
    refine hwG4 ?_
    refine HL.one (H1.app (m := n) (n := 0) (xs := []) (news := flatC (fun i => lfC (L i)) n) rfl (by decide) rfl rfl (fun _ _ => by first | ((repeat (first | with_reducible exact Rpl.here | with_reducible apply Rpl.there)); done) | (repeat (first | exact Rpl.here | apply Rpl.there))) (by exact flatC_len (lfC_len L) n) (fun w' hM j u hj => ?_) (flatC_one (fun i => lfC_one (L i)) n) (by omega) (by decide) rfl (fun a' c' ha => ?_))
    · have hjl : j < n * 5 := by have := (List.getElem?_eq_some_iff.1 hj).1; rwa [flatC_len (lfC_len L)] at this
      have hq : j / 5 < n := by omega
      have hm5 : j % 5 < 5 := Nat.mod_lt _ (by decide)
      have e : j = j / 5 * 5 + j % 5 := by omega
      rw [e, flatC_get (lfC_len L) hq hm5] at hj
      obtain ⟨b, off, h4, h5⟩ := hR.cell hq
      cases h4
      rw [add_lit, e, ← Nat.add_assoc]
      exact cell_ext hM.ext (h5 _ hq _ u hj)
    rw [Nat.zero_add, List.nil_append] at *
    refine hwG4 ?_
    exact HX.ret1 rfl rfl fun w' hM => ⟨(a', c'), ha, rfl, hM.sub (by repeat (first | exact Hs.nil _ | (refine Hs.cons pickA ?_)))⟩
set_option maxHeartbeats 4000000 in
theorem hide_fn {v vh : Value} {n : Nat} {L : Nat → Lf} {l : List Int} (hn : n ≤ 64) (hok : ∀ i, i < n → LfOk (L i)) (hl : l.length ≤ 1000000) (w : World) (hG : RoundG w) (hR : RdK w v n 5 fun i => lfC (L i)) (hH : Rd w vh (ints l)) :
    Fn Tryz.prog 19 #[v, vh] w fun u w' => ∃ z : Option Addr × Nat, True ∧ u = .slice z.1 n z.2 ∧ Mm w [A.grow 68 5 z.1 z.2 n (flatC (fun j => lfC (hideX (decide ((j : Int) ∈ l)) (L j))) n)] w' := by
  obtain ⟨a, c, rfl, -, -⟩ := id hR
  obtain ⟨ah, ch, rfl, hch⟩ := hH.isInts
  refine enterH (l := [_, _]) rfl Tryz.ntmps19 rfl ?_
  refine hwG4 ?_
  refine HL.one (H1.callx (vs := [_]) rfl rfl (fun w' hM => isList_fn hn hok w' (hR.ext hM.ext)) ?_)
  refine hbG4 ?_
  refine HL.one (H1.mkmq .i64 rfl (fun bm => ?_))
  refine hbG4 ?_
  refine HC.cut (α := Unit) (fun _ => [(0, .slice a n c), (1, .slice ah l.length ch), (5, .map (some bm))]) (fun _ => [A.mq bm .i64 (awayL l)]) (fun _ => True) ?_ ?_
  · refine hwG4 ?_
    refine HC.loop (α := Nat) (fun k => [(0, .slice a n c), (1, .slice ah l.length ch), (5, .map (some bm)), (15, .slice ah l.length ch), (16, zv (l.length : Int)), (17, zv (k : Int))]) (fun k => [A.mq bm .i64 (awayL (l.take k))]) (fun k => k ≤ l.length) (fun k => l.length - k) 0 (Nat.zero_le _) esA (by repeat (first | exact Hs.nil _ | (refine Hs.cons pickA ?_))) ?_
    intro k hk
    by_cases hlt : k < l.length
    rotate_left
    · obtain rfl : k = l.length := by omega
      have hn : ¬ ((l.length : Nat) : Int) < (l.length : Int) := by omega
      rw [List.take_length]
      refine hwG4 ?_
      exact HX.cut () trivial esA (by repeat (first | exact Hs.nil _ | (refine Hs.cons pickA ?_)))
    have hn : ((k : Nat) : Int) < (l.length : Int) := by omega
    obtain ⟨b1, o1, rfl, -⟩ := hH.iat (fun e => by rw [e] at hlt; exact absurd hlt (Nat.not_lt_zero _))
    have hd1 := hH.cell (ints_get hlt)
    have hst : awayL (l.take (k + 1)) = mset (awayL (l.take k)) (at' l k) (.bool true) := by rw [take_at hlt, awayL_snoc]
    refine hwG4 ?_
    refine HL.one (H1.ld0 rfl hd1 rfl ?_)
    refine hwG4 ?_
    refine HL.one (H1.mqset rfl rfl rfl rplA ?_)
    rw [← hst]
    refine hwG4 ?_
    exact HX.again (k + 1) hlt (by show l.length - (k + 1) < l.length - k; omega) esA (by repeat (first | exact Hs.nil _ | (refine Hs.cons pickA ?_)))
  rintro - -
  refine hwG4 ?_
  refine HL.one (H1.callz (vs := [_]) rfl rfl (fun w' hM => cloneLf_fn hn w' (hR.ext hM.ext)) ?_)
  rintro ⟨a8, c8⟩ ha8
  dsimp only at ha8 ⊢
  have hf0 : flatC (fun i => lfC (L i)) n = flatC (fun j => lfC (hidAt l L 0 j)) n := flatC_congr fun i _ => rfl
  rw [hf0]
  refine hwG4 ?_
  refine HC.loop (α := Nat) (fun i => [(5, .map (some bm)), (8, .slice a8 n c8), (26, .slice a n c), (27, zv (n : Int)), (28, zv (i : Int))]) (fun i => [A.grow 68 5 a8 c8 n (flatC (fun j => lfC (hidAt l L i j)) n), A.mq bm .i64 (awayL l)]) (fun i => i ≤ n) (fun i => n - i) 0 (Nat.zero_le _) esA (by repeat (first | exact Hs.nil _ | (refine Hs.cons pickA ?_))) ?_
  intro i hi
  by_cases hlt : i < n
  rotate_left
  · obtain rfl : i = n := by omega
    have hn : ¬ ((i : Nat) : Int) < (i : Int) := by omega
    have he : flatC (fun j => lfC (hidAt l L i j)) i = flatC (fun j => lfC (hideX (decide ((j : Int) ∈ l)) (L j))) i := flatC_congr fun j hj => by rw [hidAt_all hj]
    rw [he]
    refine hwG4 ?_
    exact HX.ret1 rfl rfl fun w' hM => ⟨(a8, c8), trivial, rfl, hM.sub (by repeat (first | exact Hs.nil _ | (refine Hs.cons pickA ?_)))⟩
  have hn2 : ((i : Nat) : Int) < (n : Int) := by omega
  obtain ⟨b0, off, rfl, hb⟩ := hR.cell hlt
  have hcl := hb i hlt
  have hoki := hok i hlt
  have hg := away_get l (i : Int)
  obtain ⟨b8, rfl⟩ : ∃ b, a8 = some ⟨b, 0, none⟩ := ha8.resolve_left (by omega)
  clear hb
  refine hwG4 ?_
  refine HL.one (H1.ldAggw (b := b0) (off := off + i * 5) (vs := lfC (L i)) rfl rfl (fun w' hM j v hv => cell_ext hM.ext (hcl j v hv)) rfl ?_)
  refine hwG4 ?_
  refine HL.one (H1.alloc (cs := lfC lfZ) rfl rfl (fun b10 => ?_))
  refine hwG4 ?_
  refine HL.one (H1.stAgg (b := b10) (cs := lfC lfZ) (vs := lfC (L i)) rfl rfl rfl (lfC_one _) rplA rfl ?_)
  refine hwG4 ?_
  refine HL.one (H1.mqget rfl rfl memA rfl ?_)
  rw [hg]
  by_cases hm : (i : Int) ∈ l
  rotate_left
  · rw [if_neg hm]
    have he : flatC (fun j => lfC (hidAt l L i j)) n = flatC (fun j => lfC (hidAt l L (i + 1) j)) n := flatC_congr fun j _ => by
      by_cases e : j = i
      · rw [e, hidAt_eq, hidAt_same, decide_eq_false hm]; rfl
      · rw [hidAt_ne e]
    rw [he]
    show HN _ _ _ ((35, Value.bool false) :: _) _ _
    refine hwG4 ?_
    exact HX.again (i + 1) hlt (by show n - (i + 1) < n - i; omega) esA (by repeat (first | exact Hs.nil _ | (refine Hs.cons pickA ?_)))
  rw [if_pos hm]
  show HN _ _ _ ((35, Value.bool true) :: _) _ _
  refine hwG4 ?_
  refine HL.one (H1.ldAgg (b := b10) (vs := lfC (L i)) rfl memA rfl (fun j v hv => by rw [Nat.zero_add]; exact hv) rfl ?_)
  refine hwG4 ?_
  refine HL.one (H1.callx (vs := [_]) rfl rfl (fun w' hM => value_fn (L i) hoki w' (hG.ext hM.ext)) ?_)
  refine hwG4 ?_
  refine HL.build (cs := lfC ⟨false, ⟨#[]⟩, 0, ⟨#[]⟩, valX (L i)⟩) rfl rfl rfl ?_
  refine hwG4 ?_
  have hset : (flatC (fun j => lfC (hidAt l L i j)) n).take (i * 5) ++ lfC ⟨false, ⟨#[]⟩, 0, ⟨#[]⟩, valX (L i)⟩ ++ (flatC (fun j => lfC (hidAt l L i j)) n).drop (i * 5 + 5) = flatC (fun j => lfC (hidAt l L (i + 1) j)) n := by
    have h := flatC_set (f := fun j => lfC (hidAt l L i j)) (g := fun j => lfC (hidAt l L (i + 1) j)) (sz := 5) (fun _ => rfl) (fun _ => rfl) hlt fun k _ hk => by
      show lfC _ = lfC _
      rw [hidAt_ne hk]
    rw [← h]
    show _ = _ ++ lfC (hidAt l L (i + 1) i) ++ _
    rw [hidAt_eq, decide_eq_true hm]; rfl
  have hfl := flatC_len (lfC_len (hidAt l L i)) n
  refine HL.one (H1.stgAgg (b := b8) (o := i * 5) (vs := lfC ⟨false, ⟨#[]⟩, 0, ⟨#[]⟩, valX (L i)⟩) rfl rfl rfl (lfC_one _) (by show i * 5 + 5 ≤ _; rw [hfl]; omega) hset rplA ?_)
  refine hwG4 ?_
  exact HX.again (i + 1) hlt (by show n - (i + 1) < n - i; omega) esA (by repeat (first | exact Hs.nil _ | (refine Hs.cons pickA ?_)))
end Go.Sx
/-
  DERIVED: THE SHELF's CONTRACTS AT THIS DUMP, IN PLAIN WORDS (tools/lay-plain.mjs out of 'TryzShelf5.lean', which tools/lay-shelf.mjs wrote): THE SAME DECLARATIONS UNDER THE SAME NAMES: 'import', 'namespace', 'open', 'def', 'theorem' AND NOTHING ELSE: no command of the shelf's: FOR A HAND-IN. Each laying: the table of numbers ('.._ren') and one theorem, a field a fact of the dump's own or the kernel's comparison; each contract: ONE APPLICATION.
-/
namespace Go.Proofs
open Go.Shelf
def Tryz.trimP_ren : Go.Shelf.Ren := ⟨fun | 160 => 136 | 232 => 198 | 231 => 197 | 227 => 199 | 234 => 201 | 233 => 200 | 236 => 203 | 235 => 202 | 228 => 253 | 271 => 256 | 151 => 255 | 197 => 254 | 120 => 275 | 152 => 274 | 260 => 273 | 137 => 287 | 119 => 288 | 224 => 289 | 225 => 290 | 217 => 293 | 266 => 300 | n => n, fun | 9 => 9 | 4 => 4 | 3 => 3 | 5 => 5 | 117 => 281 | 116 => 280 | 0 => 0 | 124 => 284 | 21 => 21 | 105 => 316 | 46 => 176 | 119 => 343 | 139 => 346 | 138 => 345 | n => n, fun | 3 => 1 | 4 => 2 | n => n⟩
theorem Tryz.trimP : Go.Proofs.Lays.n160 Tryz.prog Tryz.trimP_ren := {
  mixed := by kernel_rfl
  f119 := Tryz.func288.trans (congrArg some (by kernel_rfl))
  f120 := Tryz.func275.trans (congrArg some (by kernel_rfl))
  f137 := Tryz.func287.trans (congrArg some (by kernel_rfl))
  f151 := Tryz.func255.trans (congrArg some (by kernel_rfl))
  f152 := Tryz.func274.trans (congrArg some (by kernel_rfl))
  f160 := Tryz.func136.trans (congrArg some (by kernel_rfl))
  f197 := Tryz.func254.trans (congrArg some (by kernel_rfl))
  f217 := Tryz.func293.trans (congrArg some (by kernel_rfl))
  f224 := Tryz.func289.trans (congrArg some (by kernel_rfl))
  f225 := Tryz.func290.trans (congrArg some (by kernel_rfl))
  f227 := Tryz.func199.trans (congrArg some (by kernel_rfl))
  f228 := Tryz.func253.trans (congrArg some (by kernel_rfl))
  f231 := Tryz.func197.trans (congrArg some (by kernel_rfl))
  f232 := Tryz.func198.trans (congrArg some (by kernel_rfl))
  f233 := Tryz.func200.trans (congrArg some (by kernel_rfl))
  f234 := Tryz.func201.trans (congrArg some (by kernel_rfl))
  f235 := Tryz.func202.trans (congrArg some (by kernel_rfl))
  f236 := Tryz.func203.trans (congrArg some (by kernel_rfl))
  f260 := Tryz.func273.trans (congrArg some (by kernel_rfl))
  f266 := Tryz.func300.trans (congrArg some (by kernel_rfl))
  f271 := Tryz.func256.trans (congrArg some (by kernel_rfl))
  t0 := Tryz.underlying0
  a0 := Tryz.isAgg0
  z0 := Tryz.sizeOf0
  v0 := Tryz.zeroValue0
  t3 := Tryz.underlying3
  a3 := Tryz.isAgg3
  z3 := Tryz.sizeOf3
  v3 := Tryz.zeroValue3
  t4 := Tryz.underlying4
  a4 := Tryz.isAgg4
  z4 := Tryz.sizeOf4
  v4 := Tryz.zeroValue4
  t5 := Tryz.underlying5
  a5 := Tryz.isAgg5
  z5 := Tryz.sizeOf5
  v5 := Tryz.zeroValue5
  t9 := Tryz.underlying9
  a9 := Tryz.isAgg9
  z9 := Tryz.sizeOf9
  v9 := Tryz.zeroValue9
  t21 := Tryz.underlying21
  a21 := Tryz.isAgg21
  z21 := Tryz.sizeOf21
  v21 := Tryz.zeroValue21
  t46 := Tryz.underlying176
  a46 := Tryz.isAgg176
  z46 := Tryz.sizeOf176
  v46 := Tryz.zeroValue176
  t105 := Tryz.underlying316
  a105 := Tryz.isAgg316
  z105 := Tryz.sizeOf316
  v105 := Tryz.zeroValue316
  t116 := Tryz.underlying280
  a116 := Tryz.isAgg280
  z116 := Tryz.sizeOf280
  t117 := Tryz.underlying281
  a117 := Tryz.isAgg281
  z117 := Tryz.sizeOf281
  v117 := Tryz.zeroValue281
  t119 := Tryz.underlying343
  a119 := Tryz.isAgg343
  z119 := Tryz.sizeOf343
  t124 := Tryz.underlying284
  a124 := Tryz.isAgg284
  z124 := Tryz.sizeOf284
  v124 := Tryz.zeroValue284
  t138 := Tryz.underlying345
  a138 := Tryz.isAgg345
  z138 := Tryz.sizeOf345
  v138 := Tryz.zeroValue345
  t139 := Tryz.underlying346
  a139 := Tryz.isAgg346
  z139 := Tryz.sizeOf346
  v139 := Tryz.zeroValue346
  g3 := by kernel_rfl
  g4 := by kernel_rfl }
end Go.Proofs
/- TopHidden: documents with a raster are valid: the walks. -/
namespace Go.Sx
open Go Go.Proofs Go.RowKit
theorem hwG5 {G G2 : Prop} (x : G2) (hwq : Hold G2 → G := by
    intro hQq
    repeat' (first | refine HL.pa ?_ (POp.nilCheck rfl) | apply HL.fold | apply HA.fold | apply HL.nil | apply HX.n_then | apply HC.seq | apply HC.region | refine HL.pa ?_ | refine HL.ga rfl ?_ | refine HL.na rfl ?_ | refine HL.nu rfl rfl ?_ | apply HC.block | apply HC.skip | apply HC.exit | apply HC.ret | apply HX.e_block | refine HX.e_other rfl ?_ | apply HX.e_then | apply HX.e_again | apply HX.n_block | apply HX.r_then | apply HX.r_block | apply HX.r_again | refine HC.cond_yes rfl ?_ | refine HC.cond_no rfl ?_ | refine HL.one (H1.ldb rfl memA rfl rfl ?_) | refine HC.cond rfl (fun hc => ?_) (fun hc => ?_) | refine HC.cond_b rfl (fun hc => ?_) (fun hc => ?_))
    exact hQq.get) : G := hwq ⟨x⟩
attribute [local irreducible] WC WL WX POp Then Again Fn NX W1 WA WO QL RP RA Yld LoopAt HC HL HX HN H1 HA HO HQ HB HP A.blk A.grow A.rd A.obj A.mp AgainH CutH
attribute [local irreducible] A.mq A.mit A.dfr A.loop
theorem trim01_fn (s : ByteArray) (hs : s.size ≤ 2000) (h : ∀ b ∈ s.data.toList, b = 48 ∨ b = 49) (w : World) : Fn Tryz.prog 136 #[.string s, .string ⟨#[48, 49]⟩] w fun u w' => u = .string ⟨#[]⟩ ∧ Ext w w' := by
  unfold Fn
  refine Calls.mono (Any.strings_Trim_laid Tryz.trimP (by kernel_rfl) s ⟨#[48, 49]⟩ w (by omega) (by decide) (ascii_of_all (by decide))) ?_
  rintro e w' ⟨rfl, hb⟩
  refine ⟨_, rfl, ?_, hb⟩
  have ht : Lib.trimS s.data.toList (ByteArray.mk #[48, 49]).data.toList = [] := trim_all fun b hb => by
    rcases h b hb with rfl | rfl <;> rfl
  rw [ht]
theorem height_fn (v1 v2 : Value) (h1 : v1.oneCell' = true) (h2 : v2.oneCell' = true) {wd h : Nat} {bits : ByteArray} (hw : 1 ≤ wd ∧ wd ≤ 32) (hb : bits.size = wd * h) (hh : h ≤ 32) (w : World) : Fn Tryz.prog 128 #[.agg #[v1, v2, zv (wd : Int), .string bits]] w fun u w' => u = zv (h : Int) ∧ Ext w w' := by
  have h1 : ¬ ((wd : Nat) : Int) < 1 := by omega
  have hq : ((bits.size : Nat) : Int).tdiv (wd : Int) = (h : Int) := by
    rw [Int.tdiv_eq_ediv_of_nonneg (by omega), ← Int.natCast_ediv, hb, Nat.mul_div_cancel_left _ (by omega)]
  have hsz : bits.size ≤ 1024 := by rw [hb]; exact Nat.mul_le_mul hw.2 hh
  refine enterH (l := [_]) rfl Tryz.ntmps128 rfl ?_
  refine hwG5 ?_
  refine HL.one (H1.boxAgg (cs := [v1, v2, zv (wd : Int), .string bits]) rfl rfl (fun b1 => ?_))
  refine hwG5 ?_
  exact HX.ret1 rfl rfl fun w' hM => ⟨congrArg zv hq, hM.ext⟩
theorem isRaster_fn (v1 v2 : Value) (h1 : v1.oneCell' = true) (h2 : v2.oneCell' = true) {wd : Nat} {bits : ByteArray} (hr : RaOk wd bits) (w : World) : Fn Tryz.prog 104 #[.agg #[v1, v2, zv (wd : Int), .string bits]] w fun u w' => u = .bool true ∧ Ext w w' := by
  obtain ⟨h, hsz, hh⟩ := hr.ht
  have hw := hr.le
  by_cases hw0 : wd = 0
  · subst hw0
    have hb0 : bits = ⟨#[]⟩ := by
      rw [Nat.zero_mul] at hsz
      apply ByteArray_ext'
      have : bits.data.size = 0 := hsz
      rw [Array.eq_empty_of_size_eq_zero this]
    subst hb0
    exact isRaster0_fn v1 v2 h1 h2 w
  have hh' : 1 ≤ h ∧ h ≤ 32 := hh.resolve_left hw0
  have hz : ¬ ((wd : Nat) : Int) = 0 := by omega
  have hg : ((wd : Nat) : Int) > 0 := by omega
  have hle : bits.size ≤ 1024 := by rw [hsz]; exact Nat.mul_le_mul hw hh'.2
  have hm : ((bits.size : Nat) : Int) = ((wd : Nat) : Int) * ((h : Nat) : Int) := by rw [hsz]; exact Int.natCast_mul ..
  have hH := fun (w : World) => height_fn v1 v2 h1 h2 (bits := bits) ⟨by omega, hw⟩ hsz hh'.2 w
  refine enterH (l := [_]) rfl Tryz.ntmps104 rfl ?_
  refine hwG5 ?_
  refine HL.one (H1.boxAgg (cs := [v1, v2, zv (wd : Int), .string bits]) rfl rfl (fun b1 => ?_))
  refine hwG5 ?_
  refine HL.one (H1.callx (vs := [_, _, _]) rfl rfl (fun w' _ => cwithin_yes (by omega) (by omega) w') ?_)
  refine hwG5 ?_
  refine HL.one (H1.callx (vs := [_, _]) rfl rfl (fun w' _ => trim01_fn bits (by omega) hr.bin w') ?_)
  refine hwG5 ?_
  refine HC.anyC ([(⟨b1, 2, none⟩, zv (wd : Int)), (⟨b1, 3, none⟩, .string bits)]) rfl ?_
  refine HB.pa 0 rfl ?_
  refine HB.pa 1 rfl ?_
  refine HB.ld 2 rfl rfl memD ?_
  refine HB.pa 3 rfl ?_
  refine HB.pa 4 rfl ?_
  first | refine HB.ga 5 rfl rfl ?_ | refine HB.na 5 rfl rfl ?_ | refine HB.nu 5 rfl rfl ?_
  first | refine HB.ga 6 rfl rfl ?_ | refine HB.na 6 rfl rfl ?_ | refine HB.nu 6 rfl rfl ?_
  first | refine HB.ga 7 rfl rfl ?_ | refine HB.na 7 rfl rfl ?_ | refine HB.nu 7 rfl rfl ?_
  first | refine HB.ga 8 rfl rfl ?_ | refine HB.na 8 rfl rfl ?_ | refine HB.nu 8 rfl rfl ?_
  refine HB.pa 9 rfl ?_
  refine HB.pa 10 rfl ?_
  first | refine HB.ga 11 rfl rfl ?_ | refine HB.na 11 rfl rfl ?_ | refine HB.nu 11 rfl rfl ?_
  first | refine HB.ga 12 rfl rfl ?_ | refine HB.na 12 rfl rfl ?_ | refine HB.nu 12 rfl rfl ?_
  refine HB.ldg 13 rfl rfl rfl memD ?_
  first | refine HB.ga 14 rfl rfl ?_ | refine HB.na 14 rfl rfl ?_ | refine HB.nu 14 rfl rfl ?_
  first | refine HB.ga 15 rfl rfl ?_ | refine HB.na 15 rfl rfl ?_ | refine HB.nu 15 rfl rfl ?_
  first | refine HB.ga 16 rfl rfl ?_ | refine HB.na 16 rfl rfl ?_ | refine HB.nu 16 rfl rfl ?_
  first | refine HB.ga 17 rfl rfl ?_ | refine HB.na 17 rfl rfl ?_ | refine HB.nu 17 rfl rfl ?_
  refine HB.ldg 18 rfl rfl rfl memD ?_
  first | refine HB.ga 19 rfl rfl ?_ | refine HB.na 19 rfl rfl ?_ | refine HB.nu 19 rfl rfl ?_
  first | refine HB.ga 20 rfl rfl ?_ | refine HB.na 20 rfl rfl ?_ | refine HB.nu 20 rfl rfl ?_
  first | refine HB.ga 21 rfl rfl ?_ | refine HB.na 21 rfl rfl ?_ | refine HB.nu 21 rfl rfl ?_
  refine HB.ldg 22 rfl rfl rfl memD ?_
  refine HB.all (by repeat (first | exact Keep.nil | refine Keep.blk (by (repeat (first | exact List.Mem.head _ | apply List.Mem.tail)); done) rfl ?_ | refine Keep.grow (by (repeat (first | exact List.Mem.head _ | apply List.Mem.tail)); done) (by assumption) ?_ | refine Keep.base (by assumption) ?_)) [23] (by kernel_rfl) rfl ⟨⟨_, rfl, ?_⟩, trivial⟩
  refine HP.one_a rfl ?_
  refine H1.ldAgg (b := b1) (vs := [v1, v2, zv (wd : Int), .string bits]) rfl memA rfl (fun i v hv => by rw [Nat.zero_add]; exact hv) rfl ?_
  apply HB.fold
  refine HB.all (by repeat (first | exact Keep.nil | refine Keep.blk (by (repeat (first | exact List.Mem.head _ | apply List.Mem.tail)); done) rfl ?_ | refine Keep.grow (by (repeat (first | exact List.Mem.head _ | apply List.Mem.tail)); done) (by assumption) ?_ | refine Keep.base (by assumption) ?_)) [24] (by kernel_rfl) rfl ⟨⟨_, rfl, ?_⟩, trivial⟩
  refine HP.one_a rfl ?_
  refine H1.callx (vs := [_]) rfl rfl (fun w' _ => hH w') ?_
  apply HB.fold
  first | refine HB.ga 25 rfl rfl ?_ | refine HB.na 25 rfl rfl ?_ | refine HB.nu 25 rfl rfl ?_
  first | refine HB.ga 26 rfl rfl ?_ | refine HB.na 26 rfl rfl ?_ | refine HB.nu 26 rfl rfl ?_
  first | refine HB.ga 27 rfl rfl ?_ | refine HB.na 27 rfl rfl ?_ | refine HB.nu 27 rfl rfl ?_
  first | refine HB.ga 28 rfl rfl ?_ | refine HB.na 28 rfl rfl ?_ | refine HB.nu 28 rfl rfl ?_
  refine HB.all (by repeat (first | exact Keep.nil | refine Keep.blk (by (repeat (first | exact List.Mem.head _ | apply List.Mem.tail)); done) rfl ?_ | refine Keep.grow (by (repeat (first | exact List.Mem.head _ | apply List.Mem.tail)); done) (by assumption) ?_ | refine Keep.base (by assumption) ?_)) [29] (by kernel_rfl) rfl ⟨⟨_, rfl, ?_⟩, trivial⟩
  refine HP.one_a rfl ?_
  refine H1.ldAgg (b := b1) (vs := [v1, v2, zv (wd : Int), .string bits]) rfl memA rfl (fun i v hv => by rw [Nat.zero_add]; exact hv) rfl ?_
  apply HB.fold
  refine HB.all (by repeat (first | exact Keep.nil | refine Keep.blk (by (repeat (first | exact List.Mem.head _ | apply List.Mem.tail)); done) rfl ?_ | refine Keep.grow (by (repeat (first | exact List.Mem.head _ | apply List.Mem.tail)); done) (by assumption) ?_ | refine Keep.base (by assumption) ?_)) [30] (by kernel_rfl) rfl ⟨⟨_, rfl, ?_⟩, trivial⟩
  refine HP.one_a rfl ?_
  refine H1.callx (vs := [_]) rfl rfl (fun w' _ => hH w') ?_
  apply HB.fold
  refine HB.all (by repeat (first | exact Keep.nil | refine Keep.blk (by (repeat (first | exact List.Mem.head _ | apply List.Mem.tail)); done) rfl ?_ | refine Keep.grow (by (repeat (first | exact List.Mem.head _ | apply List.Mem.tail)); done) (by assumption) ?_ | refine Keep.base (by assumption) ?_)) [31] (by kernel_rfl) rfl ⟨⟨_, rfl, ?_⟩, trivial⟩
  refine HP.one_a rfl ?_
  refine H1.callx (vs := [_, _, _]) rfl rfl (fun w' _ => cwithin_yes (by omega) (by omega) w') ?_
  apply HB.fold
  first | refine HB.ga 32 rfl rfl ?_ | refine HB.na 32 rfl rfl ?_ | refine HB.nu 32 rfl rfl ?_
  refine HB.pa 33 rfl ?_
  refine HB.pa 34 rfl ?_
  refine HB.done (by repeat (first | exact Keep.nil | refine Keep.blk (by (repeat (first | exact List.Mem.head _ | apply List.Mem.tail)); done) rfl ?_ | refine Keep.grow (by (repeat (first | exact List.Mem.head _ | apply List.Mem.tail)); done) (by assumption) ?_ | refine Keep.base (by assumption) ?_)) (by kernel_rfl) ?_
  refine hwG5 ?_
  exact HX.ret1 rfl rfl fun w' hM => ⟨rfl, hM.ext⟩
theorem cvalidD_fn {vl vc : Value} {nl nc wd : Nat} {bits : ByteArray} {L : Nat → ByteArray × Int} {C : Nat → Cl} (hr : RaOk wd bits) (hnl : nl ≤ 64) (hnc : nc ≤ 64) (hL : ∀ i, i < nl → LnOk (L i)) (hC : ∀ i, i < nc → ClOk (C i)) (hA : ClAsc C nc) (w : World) (hRl : RdK w vl nl 2 fun i => lnC (L i)) (hRc : RdK w vc nc 6 fun i => clC (C i)) :
    Fn Tryz.prog 44 #[.agg #[vl, vc, zv (wd : Int), .string bits]] w fun u w' => u = .bool true ∧ Ext w w' :=
  cvalidR_fn (fun v1 v2 h1 h2 w => isRaster_fn v1 v2 h1 h2 hr w) hnl hnc hL hC hA w hRl hRc
set_option maxHeartbeats 1000000 in
theorem leaves_fn {vl vc : Value} {nl nc wd : Nat} {bits s : ByteArray} {L : Nat → ByteArray × Int} {C : Nat → Cl} (hr : RaOk wd bits) (hs : s.size ≤ 50) (hnl : nl ≤ 64) (hnc : nc ≤ 64) (hL : ∀ i, i < nl → LnOk (L i)) (hC : ∀ i, i < nc → ClOk (C i)) (hA : ClAsc C nc) (w : World) (hG : RoundG w) (hRl : RdK w vl nl 2 fun i => lnC (L i)) (hRc : RdK w vc nc 6 fun i => clC (C i)) :
    Fn Tryz.prog 16 #[.agg #[vl, vc, zv (wd : Int), .string bits], .string s] w fun u w' => ∃ z : Option Addr × Nat, True ∧ u = .tuple #[.slice z.1 nl z.2, zv 0] ∧ Mm w [A.grow 68 5 z.1 z.2 nl (flatC (fun i => lfC (leafX L s i)) nl)] w' := by
  obtain ⟨al, cl, rfl, -, -⟩ := id hRl
  obtain ⟨ac, cc, rfl, -, -⟩ := id hRc
  refine enterH (l := [_, _]) rfl Tryz.ntmps16 rfl ?_
  refine hwG5 ?_
  refine HL.one (H1.boxAgg (cs := [.slice al nl cl, .slice ac nc cc, zv (wd : Int), .string bits]) rfl rfl (fun b2 => ?_))
  refine hwG5 ?_
  refine HL.one (H1.ldAgg (b := b2) (vs := [.slice al nl cl, .slice ac nc cc, zv (wd : Int), .string bits]) rfl memA rfl (fun i v hv => by rw [Nat.zero_add]; exact hv) rfl ?_)
  refine hwG5 ?_
  refine HL.one (H1.callx (vs := [_]) rfl rfl (fun w' hM => cvalidD_fn hr hnl hnc hL hC hA w' (hRl.ext hM.ext) (hRc.ext hM.ext)) ?_)
  refine hwG5 ?_
  refine HC.grow0 68 5 ?_
  refine HC.loop (α := Nat × Option Addr × Nat) (fun q => [(1, .string s), (6, .slice q.2.1 q.1 q.2.2), (13, .slice al nl cl), (14, zv (nl : Int)), (15, zv (q.1 : Int))]) (fun q => [A.grow 68 5 q.2.1 q.2.2 q.1 (flatC (fun i => lfC (leafX L s i)) q.1)]) (fun q => q.1 ≤ nl) (fun q => nl - q.1) (0, none, 0) (Nat.zero_le _) esA (by repeat (first | exact Hs.nil _ | (refine Hs.cons pickA ?_))) ?_
  rintro ⟨i, a6, c6⟩ hi
  dsimp only at hi ⊢
  by_cases hlt : i < nl
  rotate_left
  · obtain rfl : i = nl := by omega
    have hn : ¬ ((i : Nat) : Int) < (i : Int) := by omega
    refine hwG5 ?_
    exact HX.ret2 rfl rfl rfl fun w' hM => ⟨(a6, c6), trivial, rfl, hM⟩
  have hn : ((i : Nat) : Int) < (nl : Int) := by omega
  obtain ⟨b0, off, rfl, hb⟩ := hRl.cell hlt
  have hcl := hb i hlt
  clear hb
  have hfl : flatC (fun j => lfC (leafX L s j)) i ++ lfC ⟨true, (L i).1, (L i).2, saltX s i, ⟨#[]⟩⟩ = flatC (fun j => lfC (leafX L s j)) (i + 1) := rfl
  obtain ⟨y, hy⟩ : ∃ y, L i = y := ⟨_, rfl⟩
  rw [hy] at hcl hfl
  refine hwG5 ?_
  refine HL.one (H1.ldAggw (b := b0) (off := off + i * 2) (vs := lnC y) rfl rfl (fun w' hM j v hv => cell_ext hM.ext (hcl j v hv)) rfl ?_)
  refine hwG5 ?_
  refine HL.one (H1.alloc (cs := [.string ⟨#[]⟩, zv 0]) rfl rfl (fun b8 => ?_))
  refine hwG5 ?_
  refine HL.one (H1.stAgg (b := b8) (cs := [.string ⟨#[]⟩, zv 0]) (vs := lnC y) rfl rfl rfl (lnC_one y) rplA rfl ?_)
  refine hwG5 ?_
  refine HC.any rfl ?_
  refine HA.pa 0 rfl ?_
  refine HA.pa 2 rfl ?_
  refine HA.pa 3 rfl ?_
  refine HA.all [1, 4] (by kernel_rfl) rfl ⟨⟨_, rfl, ?_⟩, ⟨_, rfl, ?_⟩, trivial⟩
  · refine HO.one ?_
    refine H1.ldAgg (b := b8) (vs := lnC y) rfl memA rfl (fun j v hv => by rw [Nat.zero_add]; exact hv) rfl ?_
    apply HA.fold
    refine HA.all [4] (by kernel_rfl) rfl ⟨⟨_, rfl, ?_⟩, trivial⟩
    refine HO.one ?_
    refine H1.callx (vs := [_, _]) rfl rfl (fun w' hM => salt_fn s hs i (by omega) w' (hG.ext hM.ext)) ?_
    apply HA.fold
    refine HA.pa 5 rfl ?_ (POp.build (cs := lfC ⟨true, y.1, y.2, saltX s i, ⟨#[]⟩⟩) rfl rfl)
    refine HA.all [6] (by kernel_rfl) rfl ⟨⟨_, rfl, ?_⟩, trivial⟩
    refine HO.one ?_
    refine H1.lit (cs := lfC ⟨true, y.1, y.2, saltX s i, ⟨#[]⟩⟩) rfl rfl rfl rfl rfl rfl (fun b9 => ?_)
    apply HA.fold
    refine HA.all [7] (by kernel_rfl) rfl ⟨⟨_, rfl, ?_⟩, trivial⟩
    refine HO.one ?_
    refine H1.appK (sz := 5) (bs := b9) (news := lfC ⟨true, y.1, y.2, saltX s i, ⟨#[]⟩⟩) (by rfl) (by decide) rfl rfl (fun _ _ => by first | ((repeat (first | with_reducible exact Rpl.here | with_reducible apply Rpl.there)); done) | (repeat (first | exact Rpl.here | apply Rpl.there))) memA rfl (lfC_one _) (by omega) (by decide) rfl (fun a' c' => ?_)
    apply HA.fold
    refine HA.pa 8 rfl ?_
    refine HA.done (by kernel_rfl) ?_
    rw [hfl]
    refine hwG5 ?_
    exact HX.again (i + 1, some ⟨a', 0, none⟩, c') hlt (by show nl - (i + 1) < nl - i; omega) esA (by repeat (first | exact Hs.nil _ | (refine Hs.cons pickA ?_)))
  · refine HO.one ?_
    refine H1.callx (vs := [_, _]) rfl rfl (fun w' hM => salt_fn s hs i (by omega) w' (hG.ext hM.ext)) ?_
    apply HA.fold
    refine HA.all [1] (by kernel_rfl) rfl ⟨⟨_, rfl, ?_⟩, trivial⟩
    refine HO.one ?_
    refine H1.ldAgg (b := b8) (vs := lnC y) rfl memA rfl (fun j v hv => by rw [Nat.zero_add]; exact hv) rfl ?_
    apply HA.fold
    refine HA.pa 5 rfl ?_ (POp.build (cs := lfC ⟨true, y.1, y.2, saltX s i, ⟨#[]⟩⟩) rfl rfl)
    refine HA.all [6] (by kernel_rfl) rfl ⟨⟨_, rfl, ?_⟩, trivial⟩
    refine HO.one ?_
    refine H1.lit (cs := lfC ⟨true, y.1, y.2, saltX s i, ⟨#[]⟩⟩) rfl rfl rfl rfl rfl rfl (fun b9 => ?_)
    apply HA.fold
    refine HA.all [7] (by kernel_rfl) rfl ⟨⟨_, rfl, ?_⟩, trivial⟩
    refine HO.one ?_
    refine H1.appK (sz := 5) (bs := b9) (news := lfC ⟨true, y.1, y.2, saltX s i, ⟨#[]⟩⟩) (by rfl) (by decide) rfl rfl (fun _ _ => by first | ((repeat (first | with_reducible exact Rpl.here | with_reducible apply Rpl.there)); done) | (repeat (first | exact Rpl.here | apply Rpl.there))) memA rfl (lfC_one _) (by omega) (by decide) rfl (fun a' c' => ?_)
    apply HA.fold
    refine HA.pa 8 rfl ?_
    refine HA.done (by kernel_rfl) ?_
    rw [hfl]
    refine hwG5 ?_
    exact HX.again (i + 1, some ⟨a', 0, none⟩, c') hlt (by show nl - (i + 1) < nl - i; omega) esA (by repeat (first | exact Hs.nil _ | (refine Hs.cons pickA ?_)))
end Go.Sx

/- Chapter 18: newLand, isExposed. -/
import Derived.Test.YtfjkdciblblalaaGreatDoorT5
namespace Go.Sx
open Go Go.Proofs Go.RowKit
abbrev uv (n : Nat) : Value := .int .u64 (n : Int)
/-- The custodians below n that belong to group x of kind q, as bits. -/
def grp (S : List St) (q n : Nat) (x : Int) : List Nat := (List.range n).filter fun j => decide (gS S j q = x)
theorem grp_step (S : List St) (q i : Nat) (x : Int) : grp S q (i + 1) x = if gS S i q = x then grp S q i x ++ [i] else grp S q i x := by
  unfold grp
  rw [List.range_succ, List.filter_append]
  by_cases h : gS S i q = x <;> simp [h]
theorem grp_lt {S : List St} {q n : Nat} {x : Int} {j : Nat} (h : j ∈ grp S q n x) : j < n := List.mem_range.1 (List.mem_filter.1 h).1
theorem grp_mask {S : List St} {q n : Nat} {x : Int} (hn : n ≤ 9) : maskOf (grp S q n x) < 512 := mask_lt (n := 9) fun _ hj => Nat.lt_of_lt_of_le (grp_lt hj) hn
/-- A map holds the groups of kind q of the first n sites. -/
structure GL (S : List St) (q n : Nat) (l : List (Int × Value)) : Prop where
  get : ∀ x, (mget l x).getD (.int .u64 0) = uv (maskOf (grp S q n x))
  mem : ∀ p ∈ l, p.2 = uv (maskOf (grp S q n p.1))
  all : ∀ j, j < n → ∃ p ∈ l, p.1 = gS S j q
  nd : (l.map (·.1)).Nodup
theorem GL.zero (S : List St) (q : Nat) : GL S q 0 [] := ⟨fun x => by simp [mget, grp, maskOf], by simp, fun j hj => absurd hj (Nat.not_lt_zero _), by simp⟩
theorem mget_mset (l : List (Int × Value)) (x y : Int) (v : Value) : mget (mset l x v) y = if y = x then some v else mget l y := by
  induction l with
  | nil => simp only [mset, mget]
  | cons p l ih =>
    obtain ⟨z, u⟩ := p
    simp only [mset]
    by_cases hxz : x = z
    · rw [if_pos hxz]
      subst hxz
      simp only [mget]
      by_cases e : y = x
      · rw [if_pos e, if_pos e]
      · rw [if_neg e, if_neg e, if_neg e]
    · rw [if_neg hxz]
      simp only [mget, ih]
      by_cases e : y = z
      · rw [if_pos e, if_neg (fun e2 => hxz (e2.symm.trans e)), if_pos e]
      · rw [if_neg e, if_neg e]
theorem mem_mset {l : List (Int × Value)} {x : Int} {v : Value} (hn : (l.map (·.1)).Nodup) {p : Int × Value} (h : p ∈ mset l x v) : p = (x, v) ∨ (p ∈ l ∧ p.1 ≠ x) := by
  induction l with
  | nil => simp only [mset, List.mem_singleton] at h; exact .inl h
  | cons r l ih =>
    obtain ⟨z, u⟩ := r
    rw [List.map_cons, List.nodup_cons] at hn
    simp only [mset] at h
    by_cases hxz : x = z
    · rw [if_pos hxz] at h
      rcases List.mem_cons.1 h with h | h
      · exact .inl h
      · refine .inr ⟨List.Mem.tail _ h, fun e => hn.1 ?_⟩
        rw [← hxz, ← e]; exact List.mem_map.2 ⟨p, h, rfl⟩
    · rw [if_neg hxz] at h
      rcases List.mem_cons.1 h with rfl | h
      · exact .inr ⟨List.Mem.head _, fun e => hxz e.symm⟩
      · rcases ih hn.2 h with h | ⟨h1, h2⟩
        · exact .inl h
        · exact .inr ⟨List.Mem.tail _ h1, h2⟩
theorem mset_keys (l : List (Int × Value)) (x : Int) (v : Value) : ∀ y, y ∈ (mset l x v).map (·.1) ↔ y = x ∨ y ∈ l.map (·.1) := by
  induction l with
  | nil => intro y; simp [mset]
  | cons r l ih =>
    obtain ⟨z, u⟩ := r
    intro y
    simp only [mset]
    by_cases hxz : x = z
    · rw [if_pos hxz]; simp [hxz]
    · rw [if_neg hxz, List.map_cons, List.mem_cons, ih y, List.map_cons, List.mem_cons]
      exact or_left_comm
theorem mset_nd {l : List (Int × Value)} (x : Int) (v : Value) (hn : (l.map (·.1)).Nodup) : ((mset l x v).map (·.1)).Nodup := by
  induction l with
  | nil => simp [mset]
  | cons r l ih =>
    obtain ⟨z, u⟩ := r
    rw [List.map_cons, List.nodup_cons] at hn
    simp only [mset]
    by_cases hxz : x = z
    · rw [if_pos hxz]; subst hxz; simpa using hn
    · rw [if_neg hxz, List.map_cons, List.nodup_cons]
      refine ⟨fun h => ?_, ih hn.2⟩
      rcases (mset_keys l x v z).1 h with h | h
      · exact hxz h.symm
      · exact hn.1 h
theorem GL.step {S : List St} {q i : Nat} {l : List (Int × Value)} (h : GL S q i l) : GL S q (i + 1) (mset l (gS S i q) (uv (maskOf (grp S q i (gS S i q)) ||| 1 <<< i))) := by
  have e : maskOf (grp S q i (gS S i q)) ||| 1 <<< i = maskOf (grp S q (i + 1) (gS S i q)) := by rw [grp_step, if_pos rfl, mask_app]
  rw [e]
  have e2 : ∀ x, x ≠ gS S i q → grp S q (i + 1) x = grp S q i x := fun x hx => by rw [grp_step, if_neg (Ne.symm hx)]
  refine ⟨fun x => ?_, fun p hp => ?_, fun j hj => ?_, mset_nd _ _ h.nd⟩
  · rw [mget_mset]
    by_cases hx : x = gS S i q
    · rw [if_pos hx, hx]; rfl
    · rw [if_neg hx, h.get, e2 x hx]
  · rcases mem_mset h.nd hp with rfl | ⟨h1, h2⟩
    · rfl
    · rw [h.mem p h1, e2 _ h2]
  · have : gS S j q ∈ (mset l (gS S i q) (uv (maskOf (grp S q (i + 1) (gS S i q))))).map (·.1) := by
      rw [mset_keys]
      by_cases hji : j = i
      · left; rw [hji]
      · right
        obtain ⟨p, hp, e3⟩ := h.all j (by omega)
        rw [← e3]; exact List.mem_map.2 ⟨p, hp, rfl⟩
    obtain ⟨p, hp, e3⟩ := List.mem_map.1 this
    exact ⟨p, hp, e3⟩
/-- A land: its cells, its maps. -/
def LandAt (w : World) (bx : Nat) (S : List St) : Prop := ∀ q, q < 4 → ∃ (b : Nat) (es : Array MapEntry) (clk : Nat) (l : List (Int × Value)), w.cell? ⟨bx, 1 + q, none⟩ = some (.map (some b)) ∧ w.heap[b]? = some (.map es clk) ∧ MQ .i64 l es clk ∧ GL S q S.length l
theorem LandAt.ext {w w' : World} {bx : Nat} {S : List St} (h : LandAt w bx S) (k : Ext w w') : LandAt w' bx S := fun q hq => by
  obtain ⟨b, es, clk, l, h1, h2, h3, h4⟩ := h q hq
  exact ⟨b, es, clk, l, cell_ext k h1, (k.block b (Array.getElem?_eq_some_iff.1 h2).1).trans h2, h3, h4⟩
def A.land (bx : Nat) (m : Nat → Nat) (S : List St) : Atom := ⟨bx :: (List.range 4).map m, fun w => ∀ q, q < 4 → ∃ (es : Array MapEntry) (clk : Nat) (l : List (Int × Value)), w.cell? ⟨bx, 1 + q, none⟩ = some (.map (some (m q))) ∧ w.heap[m q]? = some (.map es clk) ∧ MQ .i64 l es clk ∧ GL S q S.length l, fun w w' _ h hp q hq => by
  obtain ⟨es, clk, l, h1, h2, h3, h4⟩ := hp q hq
  refine ⟨es, clk, l, ?_, (h _ (List.Mem.tail _ (List.mem_map.2 ⟨q, List.mem_range.2 hq, rfl⟩))).trans h2, h3, h4⟩
  rw [World.cell?_of_block (w := w) (w' := w') (h bx (List.Mem.head _))]
  exact h1⟩
theorem Mm.land {w0 w : World} {H : List Atom} {bx : Nat} {m : Nat → Nat} {S : List St} (h : Mm w0 H w) (hm : A.land bx m S ∈ H) : LandAt w bx S := fun q hq => by
  obtain ⟨es, clk, l, h1, h2, h3, h4⟩ := h.all _ hm q hq
  exact ⟨m q, es, clk, l, h1, h2, h3, h4⟩
def mapsA (f : Nat → Nat) (L : Nat → List (Int × Value)) (n : Nat) : List Atom := (List.range n).map fun q => A.mq (f q) .i64 (L q)
theorem mapsA_congr {f f' : Nat → Nat} {L L' : Nat → List (Int × Value)} {n : Nat} (h : ∀ q, q < n → f q = f' q ∧ L q = L' q) : mapsA f L n = mapsA f' L' n := List.map_congr_left fun q hq => by
  obtain ⟨h1, h2⟩ := h q (List.mem_range.1 hq)
  rw [h1, h2]
theorem mapsA_succ (f : Nat → Nat) (L : Nat → List (Int × Value)) (n : Nat) : mapsA f L (n + 1) = mapsA f L n ++ [A.mq (f n) .i64 (L n)] := by unfold mapsA; rw [List.range_succ, List.map_append]; rfl
theorem fps_maps (f : Nat → Nat) (L : Nat → List (Int × Value)) : fps (mapsA f L 4) = (List.range 4).map f := rfl
/-- The cells and maps of a land, as one atom. -/
theorem Mm.toLand {w0 w : World} {bx : Nat} {v : Value} {e : TypeId} {f : Nat → Nat} {L : Nat → List (Int × Value)} {S : List St} (h : Mm w0 (A.blk bx (v :: row 4 fun q => .map (some (f q))) e :: mapsA f L 4) w) (hL : ∀ q, q < 4 → GL S q S.length (L q)) : Mm w0 [A.land bx f S] w := by
  refine ⟨h.ext, fun a ha => ?_, ?_, ?_⟩
  · rw [List.mem_singleton] at ha
    subst ha
    intro q hq
    obtain ⟨o, h1, es, clk, rfl, h2⟩ : ∃ o, w.heap[f q]? = some o ∧ mqP .i64 (L q) o := h.all _ (List.Mem.tail _ (List.mem_map.2 ⟨q, List.mem_range.2 hq, rfl⟩))
    refine ⟨es, clk, L q, (h.blk (List.Mem.head _)).cell ?_, h1, h2, hL q hq⟩
    rw [Nat.add_comm, List.getElem?_cons_succ, row_get _ hq]
  · have := h.nd
    rw [fps_cons, fps_maps] at this
    simpa [fps, A.land, A.blk] using this
  · have := h.rng
    rw [fps_cons, fps_maps] at this
    intro b hb
    exact this b (by simpa [fps, A.land, A.blk] using hb)
attribute [local irreducible] WC WL WX POp Then Again Fn NX W1 WA WO QL RP RA Yld LoopAt HC HL HX HN H1 HA HO HQ HB HP A.blk A.grow A.rd A.obj A.mp AgainH CutH
attribute [local irreducible] A.mq A.mit A.dfrs A.loop mapsA
set_option maxHeartbeats 1000000 in
theorem newLand_fn (v : Value) (S : List St) (hS : S.length ≤ 9) (w : World) (hT : RdS w v S) :
    Fn Tryz.prog 44 #[v] w fun u w' => ∃ z : Nat × (Nat → Nat), True ∧ u = .pointer (some ⟨z.1, 0, none⟩) ∧ Mm w [A.land z.1 z.2 S] w' := by
  obtain ⟨a, c, rfl, hc⟩ := hT.shape
  refine enterH (l := [_]) rfl Tryz.ntmps44 rfl ?_
  repeat' (first | apply HL.fold | apply HA.fold | apply HL.nil | apply HX.n_then | apply HC.seq | apply HC.region | refine HL.pa ?_ | refine HL.ga rfl ?_ | refine HL.na rfl ?_ | refine HL.nu rfl rfl ?_ | apply HC.block | apply HC.skip | apply HC.exit | apply HC.ret | apply HX.e_block | refine HX.e_other rfl ?_ | apply HX.e_then | apply HX.e_again | apply HX.n_block | apply HX.r_then | apply HX.r_block | apply HX.r_again | refine HC.cond_yes rfl ?_ | refine HC.cond_no rfl ?_ | refine HL.one (H1.ldb rfl memA rfl rfl ?_) | refine HC.cond rfl (fun hc => ?_) (fun hc => ?_) | refine HC.cond_b rfl (fun hc => ?_) (fun hc => ?_))
  refine HL.build (cs := .slice a S.length c :: row 4 fun _ => .map none) rfl rfl rfl ?_
  refine HL.one (H1.boxAgg (cs := .slice a S.length c :: row 4 fun _ => .map none) rfl rfl (fun bx => ?_))
  repeat' (first | apply HL.fold | apply HA.fold | apply HL.nil | apply HX.n_then | apply HC.seq | apply HC.region | refine HL.pa ?_ | refine HL.ga rfl ?_ | refine HL.na rfl ?_ | refine HL.nu rfl rfl ?_ | apply HC.block | apply HC.skip | apply HC.exit | apply HC.ret | apply HX.e_block | refine HX.e_other rfl ?_ | apply HX.e_then | apply HX.e_again | apply HX.n_block | apply HX.r_then | apply HX.r_block | apply HX.r_again | refine HC.cond_yes rfl ?_ | refine HC.cond_no rfl ?_ | refine HL.one (H1.ldb rfl memA rfl rfl ?_) | refine HC.cond rfl (fun hc => ?_) (fun hc => ?_) | refine HC.cond_b rfl (fun hc => ?_) (fun hc => ?_))
  refine HC.loop (α := Nat × (Nat → Nat) × (Nat → List (Int × Value))) (fun z => [(0, .slice a S.length c), (3, .pointer (some ⟨bx, 0, none⟩)), (10, zv (z.1 : Int))])
    (fun z => A.blk bx (.slice a S.length c :: row 4 fun q => if q < z.1 then .map (some (z.2.1 q)) else .map none) 144 :: mapsA z.2.1 z.2.2 z.1) (fun z => z.1 ≤ 4 ∧ ∀ q, q < z.1 → GL S q S.length (z.2.2 q)) (fun z => 4 - z.1) (0, fun _ => 0, fun _ => []) ⟨Nat.zero_le _, fun q hq => absurd hq (Nat.not_lt_zero _)⟩ esA ?_ ?_
  · unfold mapsA
    simp only [Nat.not_lt_zero, if_false]
    exact Hs.refl _
  rintro ⟨k, f, L⟩ ⟨hk, hL⟩
  dsimp only at hk hL ⊢
  by_cases hk4 : k < 4
  rotate_left
  · obtain rfl : k = 4 := by omega
    repeat' (first | apply HL.fold | apply HA.fold | apply HL.nil | apply HX.n_then | apply HC.seq | apply HC.region | refine HL.pa ?_ | refine HL.ga rfl ?_ | refine HL.na rfl ?_ | refine HL.nu rfl rfl ?_ | apply HC.block | apply HC.skip | apply HC.exit | apply HC.ret | apply HX.e_block | refine HX.e_other rfl ?_ | apply HX.e_then | apply HX.e_again | apply HX.n_block | apply HX.r_then | apply HX.r_block | apply HX.r_again | refine HC.cond_yes rfl ?_ | refine HC.cond_no rfl ?_ | refine HL.one (H1.ldb rfl memA rfl rfl ?_) | refine HC.cond rfl (fun hc => ?_) (fun hc => ?_) | refine HC.cond_b rfl (fun hc => ?_) (fun hc => ?_))
    refine HX.ret1 rfl rfl fun w' hM => ⟨(bx, f), trivial, rfl, ?_⟩
    rw [row_congr (g := fun q => .map (some (f q))) (fun q hq => by rw [if_pos hq])] at hM
    exact hM.toLand hL
  repeat' (first | apply HL.fold | apply HA.fold | apply HL.nil | apply HX.n_then | apply HC.seq | apply HC.region | refine HL.pa ?_ | refine HL.ga rfl ?_ | refine HL.na rfl ?_ | refine HL.nu rfl rfl ?_ | apply HC.block | apply HC.skip | apply HC.exit | apply HC.ret | apply HX.e_block | refine HX.e_other rfl ?_ | apply HX.e_then | apply HX.e_again | apply HX.n_block | apply HX.r_then | apply HX.r_block | apply HX.r_again | refine HC.cond_yes rfl ?_ | refine HC.cond_no rfl ?_ | refine HL.one (H1.ldb rfl memA rfl rfl ?_) | refine HC.cond rfl (fun hc => ?_) (fun hc => ?_) | refine HC.cond_b rfl (fun hc => ?_) (fun hc => ?_))
  refine HL.one (H1.mkmq .i64 rfl (fun bm => ?_))
  repeat' (first | apply HL.fold | apply HA.fold | apply HL.nil | apply HX.n_then | apply HC.seq | apply HC.region | refine HL.pa ?_ | refine HL.ga rfl ?_ | refine HL.na rfl ?_ | refine HL.nu rfl rfl ?_ | apply HC.block | apply HC.skip | apply HC.exit | apply HC.ret | apply HX.e_block | refine HX.e_other rfl ?_ | apply HX.e_then | apply HX.e_again | apply HX.n_block | apply HX.r_then | apply HX.r_block | apply HX.r_again | refine HC.cond_yes rfl ?_ | refine HC.cond_no rfl ?_ | refine HL.one (H1.ldb rfl memA rfl rfl ?_) | refine HC.cond rfl (fun hc => ?_) (fun hc => ?_) | refine HC.cond_b rfl (fun hc => ?_) (fun hc => ?_))
  refine HL.pa ?_ (POp.nilCheck rfl)
  repeat' (first | apply HL.fold | apply HA.fold | apply HL.nil | apply HX.n_then | apply HC.seq | apply HC.region | refine HL.pa ?_ | refine HL.ga rfl ?_ | refine HL.na rfl ?_ | refine HL.nu rfl rfl ?_ | apply HC.block | apply HC.skip | apply HC.exit | apply HC.ret | apply HX.e_block | refine HX.e_other rfl ?_ | apply HX.e_then | apply HX.e_again | apply HX.n_block | apply HX.r_then | apply HX.r_block | apply HX.r_again | refine HC.cond_yes rfl ?_ | refine HC.cond_no rfl ?_ | refine HL.one (H1.ldb rfl memA rfl rfl ?_) | refine HC.cond rfl (fun hc => ?_) (fun hc => ?_) | refine HC.cond_b rfl (fun hc => ?_) (fun hc => ?_))
  refine HL.one (H1.st rfl rfl (by intro _ h; cases h) (by intro _ h; cases h) rplA (by rw [List.length_cons, row_len]; omega) ?_)
  rw [Nat.add_comm 1 k, List.set_cons_succ, row_set]
  have hget : (Value.slice a S.length c :: row 4 fun q => if q = k then .map (some bm) else if q < k then .map (some (f q)) else .map none)[1 + k]? = some (.map (some bm)) := by
    rw [Nat.add_comm, List.getElem?_cons_succ, row_get _ hk4, if_pos rfl]
  generalize hK : mapsA f L k = K
  repeat' (first | apply HL.fold | apply HA.fold | apply HL.nil | apply HX.n_then | apply HC.seq | apply HC.region | refine HL.pa ?_ | refine HL.ga rfl ?_ | refine HL.na rfl ?_ | refine HL.nu rfl rfl ?_ | apply HC.block | apply HC.skip | apply HC.exit | apply HC.ret | apply HX.e_block | refine HX.e_other rfl ?_ | apply HX.e_then | apply HX.e_again | apply HX.n_block | apply HX.r_then | apply HX.r_block | apply HX.r_again | refine HC.cond_yes rfl ?_ | refine HC.cond_no rfl ?_ | refine HL.one (H1.ldb rfl memA rfl rfl ?_) | refine HC.cond rfl (fun hc => ?_) (fun hc => ?_) | refine HC.cond_b rfl (fun hc => ?_) (fun hc => ?_))
  refine HC.loop (α := Nat × List (Int × Value)) (fun z => [(0, .slice a S.length c), (3, .pointer (some ⟨bx, 0, none⟩)), (4, zv (k : Int)), (10, zv (k : Int)), (19, .slice a S.length c), (20, zv (S.length : Int)), (21, zv (z.1 : Int))])
    (fun z => A.mq bm .i64 z.2 :: A.blk bx (.slice a S.length c :: row 4 fun q => if q = k then .map (some bm) else if q < k then .map (some (f q)) else .map none) 144 :: K) (fun z => z.1 ≤ S.length ∧ GL S k z.1 z.2) (fun z => S.length - z.1) (0, []) ⟨Nat.zero_le _, GL.zero S k⟩ esA (Hs.refl _) ?_
  rintro ⟨i, l⟩ ⟨hi, hl⟩
  dsimp only at hi hl ⊢
  by_cases hlt : i < S.length
  rotate_left
  · obtain rfl : i = S.length := by omega
    repeat' (first | apply HL.fold | apply HA.fold | apply HL.nil | apply HX.n_then | apply HC.seq | apply HC.region | refine HL.pa ?_ | refine HL.ga rfl ?_ | refine HL.na rfl ?_ | refine HL.nu rfl rfl ?_ | apply HC.block | apply HC.skip | apply HC.exit | apply HC.ret | apply HX.e_block | refine HX.e_other rfl ?_ | apply HX.e_then | apply HX.e_again | apply HX.n_block | apply HX.r_then | apply HX.r_block | apply HX.r_again | refine HC.cond_yes rfl ?_ | refine HC.cond_no rfl ?_ | refine HL.one (H1.ldb rfl memA rfl rfl ?_) | refine HC.cond rfl (fun hc => ?_) (fun hc => ?_) | refine HC.cond_b rfl (fun hc => ?_) (fun hc => ?_))
    refine HX.again (k + 1, fun q => if q = k then bm else f q, fun q => if q = k then l else L q) ⟨by show k + 1 ≤ 4; omega, fun q hq => ?_⟩ (by show 4 - (k + 1) < 4 - k; omega) esA ?_
    · dsimp only at hq ⊢
      by_cases e : q = k
      · subst e; rw [if_pos rfl]; exact hl
      · rw [if_neg e]; exact hL q (by omega)
    · dsimp only
      have e1 : (row 4 fun q => if q = k then Value.map (some bm) else if q < k then .map (some (f q)) else .map none) = row 4 fun q => if q < k + 1 then .map (some (if q = k then bm else f q)) else .map none := row_congr fun q _ => by
        by_cases e : q = k
        · rw [if_pos e, if_pos e, if_pos (by omega)]
        · rw [if_neg e, if_neg e]
          by_cases e2 : q < k
          · rw [if_pos e2, if_pos (by omega)]
          · rw [if_neg e2, if_neg (by omega)]
      rw [e1, mapsA_succ, if_pos rfl, if_pos rfl, ← mapsA_congr (f := f) (L := L) (n := k) (fun q hq => by rw [if_neg (by omega), if_neg (by omega)]; exact ⟨rfl, rfl⟩), hK]
      refine ⟨[], ?_⟩
      rw [List.append_nil]
      exact (List.Perm.swap _ _ _).trans (List.Perm.cons _ (List.perm_append_comm (l₁ := [_]) (l₂ := K)))
  obtain ⟨b, off, rfl, hbl, hcl⟩ := hT.at (by intro e; rw [e] at hlt; exact absurd hlt (Nat.not_lt_zero _))
  repeat' (first | apply HL.fold | apply HA.fold | apply HL.nil | apply HX.n_then | apply HC.seq | apply HC.region | refine HL.pa ?_ | refine HL.ga rfl ?_ | refine HL.na rfl ?_ | refine HL.nu rfl rfl ?_ | apply HC.block | apply HC.skip | apply HC.exit | apply HC.ret | apply HX.e_block | refine HX.e_other rfl ?_ | apply HX.e_then | apply HX.e_again | apply HX.n_block | apply HX.r_then | apply HX.r_block | apply HX.r_again | refine HC.cond_yes rfl ?_ | refine HC.cond_no rfl ?_ | refine HL.one (H1.ldb rfl memA rfl rfl ?_) | refine HC.cond rfl (fun hc => ?_) (fun hc => ?_) | refine HC.cond_b rfl (fun hc => ?_) (fun hc => ?_))
  refine HL.one (H1.ldAggw (vs := sc (stAt S i)) rfl rfl (fun w hM j v hj => cell_ext hM.ext (hcl i hlt j v hj)) rfl ?_)
  repeat' (first | apply HL.fold | apply HA.fold | apply HL.nil | apply HX.n_then | apply HC.seq | apply HC.region | refine HL.pa ?_ | refine HL.ga rfl ?_ | refine HL.na rfl ?_ | refine HL.nu rfl rfl ?_ | apply HC.block | apply HC.skip | apply HC.exit | apply HC.ret | apply HX.e_block | refine HX.e_other rfl ?_ | apply HX.e_then | apply HX.e_again | apply HX.n_block | apply HX.r_then | apply HX.r_block | apply HX.r_again | refine HC.cond_yes rfl ?_ | refine HC.cond_no rfl ?_ | refine HL.one (H1.ldb rfl memA rfl rfl ?_) | refine HC.cond rfl (fun hc => ?_) (fun hc => ?_) | refine HC.cond_b rfl (fun hc => ?_) (fun hc => ?_))
  refine HL.one (H1.alloc (cs := [zv 0, zv 0, zv 0, zv 0]) rfl rfl (fun b2 => ?_))
  repeat' (first | apply HL.fold | apply HA.fold | apply HL.nil | apply HX.n_then | apply HC.seq | apply HC.region | refine HL.pa ?_ | refine HL.ga rfl ?_ | refine HL.na rfl ?_ | refine HL.nu rfl rfl ?_ | apply HC.block | apply HC.skip | apply HC.exit | apply HC.ret | apply HX.e_block | refine HX.e_other rfl ?_ | apply HX.e_then | apply HX.e_again | apply HX.n_block | apply HX.r_then | apply HX.r_block | apply HX.r_again | refine HC.cond_yes rfl ?_ | refine HC.cond_no rfl ?_ | refine HL.one (H1.ldb rfl memA rfl rfl ?_) | refine HC.cond rfl (fun hc => ?_) (fun hc => ?_) | refine HC.cond_b rfl (fun hc => ?_) (fun hc => ?_))
  refine HL.one (H1.stAgg (cs := [zv 0, zv 0, zv 0, zv 0]) (vs := sc (stAt S i)) rfl rfl rfl (sc_one _) rplA rfl ?_)
  have hgm : maskOf (grp S k i (gS S i k)) < 512 := grp_mask (by omega)
  repeat' (first | apply HL.fold | apply HA.fold | apply HL.nil | apply HX.n_then | apply HC.seq | apply HC.region | refine HL.pa ?_ | refine HL.ga rfl ?_ | refine HL.na rfl ?_ | refine HL.nu rfl rfl ?_ | apply HC.block | apply HC.skip | apply HC.exit | apply HC.ret | apply HX.e_block | refine HX.e_other rfl ?_ | apply HX.e_then | apply HX.e_again | apply HX.n_block | apply HX.r_then | apply HX.r_block | apply HX.r_again | refine HC.cond_yes rfl ?_ | refine HC.cond_no rfl ?_ | refine HL.one (H1.ldb rfl memA rfl rfl ?_) | refine HC.cond rfl (fun hc => ?_) (fun hc => ?_) | refine HC.cond_b rfl (fun hc => ?_) (fun hc => ?_))
  refine HC.anyC ([(⟨bx, 1 + k, none⟩, .map (some bm))]) rfl ?_
  refine HB.pa 0 rfl ?_
  refine HB.pa 1 rfl ?_
  refine HB.pa (v := .pointer (some ⟨bx, 0, none⟩)) 2 rfl ?_ (POp.nilCheck rfl)
  refine HB.pa 3 rfl ?_
  refine HB.pa 4 rfl ?_
  refine HB.ld 5 rfl rfl memD ?_
  refine HB.pa 8 rfl ?_
  refine HB.pa 11 rfl ?_
  refine HB.pa (v := uv (1 <<< i)) 12 rfl ?_ (POp.shl64 (a := 1) (b := i) rfl rfl rfl rfl (by omega) (Nat.lt_of_le_of_lt (by rw [Nat.one_shiftLeft]; exact Nat.pow_le_pow_right (by decide) (show i ≤ 9 by omega)) (show 2 ^ 9 < 18446744073709551616 by decide)))
  refine HB.all (by refine Keep.blk (.tail _ (.tail _ (.head _))) hget Keep.nil) [6] (by kernel_rfl) rfl ⟨⟨_, rfl, ?_⟩, trivial⟩
  refine HP.one ?_
  refine H1.ldAgg (vs := sc (stAt S i)) rfl memA rfl (fun i v hv => by rw [Nat.zero_add]; exact hv) rfl ?_
  apply HB.fold
  refine HB.all (by refine Keep.blk (.tail _ (.tail _ (.head _))) hget Keep.nil) [7] (by kernel_rfl) rfl ⟨⟨_, rfl, ?_⟩, trivial⟩
  refine HP.one ?_
  refine H1.callx (vs := [.agg (sc (stAt S i)).toArray]) rfl rfl (fun w' _ => groups_fn _ w') ?_
  apply HB.fold
  refine HB.pa (v := zv (gS S i k)) 9 rfl ?_ (POp.index_agg (cs := sc (stAt S i)) (i := k) rfl rfl rfl (sc_at _ hk4) hk4)
  refine HB.all (by refine Keep.blk (.tail _ (.tail _ (.head _))) hget Keep.nil) [10] (by kernel_rfl) rfl ⟨⟨_, rfl, ?_⟩, trivial⟩
  refine HP.one ?_
  refine H1.mqget (l := l) (n := gS S i k) rfl rfl memA rfl ?_
  rw [hl.get]
  apply HB.fold
  refine HB.pa (v := uv (maskOf (grp S k i (gS S i k)) ||| 1 <<< i)) 13 rfl ?_ (POp.or64 rfl rfl rfl rfl (by omega) (Nat.lt_of_le_of_lt (by rw [Nat.one_shiftLeft]; exact Nat.pow_le_pow_right (by decide) (show i ≤ 9 by omega)) (show 2 ^ 9 < 18446744073709551616 by decide)))
  refine HB.all (by refine Keep.blk (.tail _ (.tail _ (.head _))) hget Keep.nil) [14] (by kernel_rfl) rfl ⟨⟨_, rfl, ?_⟩, trivial⟩
  refine HP.one ?_
  refine H1.mqset (l := l) rfl rfl rfl rplA ?_
  apply HB.fold
  refine HB.done (by refine Keep.blk (.tail _ (.tail _ (.head _))) hget Keep.nil) (by kernel_rfl) ?_
  repeat' (first | apply HL.fold | apply HA.fold | apply HL.nil | apply HX.n_then | apply HC.seq | apply HC.region | refine HL.pa ?_ | refine HL.ga rfl ?_ | refine HL.na rfl ?_ | refine HL.nu rfl rfl ?_ | apply HC.block | apply HC.skip | apply HC.exit | apply HC.ret | apply HX.e_block | refine HX.e_other rfl ?_ | apply HX.e_then | apply HX.e_again | apply HX.n_block | apply HX.r_then | apply HX.r_block | apply HX.r_again | refine HC.cond_yes rfl ?_ | refine HC.cond_no rfl ?_ | refine HL.one (H1.ldb rfl memA rfl rfl ?_) | refine HC.cond rfl (fun hc => ?_) (fun hc => ?_) | refine HC.cond_b rfl (fun hc => ?_) (fun hc => ?_))
  refine HX.again (i + 1, mset l (gS S i k) (uv (maskOf (grp S k i (gS S i k)) ||| 1 <<< i))) ⟨by show i + 1 ≤ S.length; omega, hl.step⟩ (by show S.length - (i + 1) < S.length - i; omega) esA (Hs.cons (Pick.there Pick.here) (Hs.cons (Pick.there Pick.here) ⟨_, (List.perm_append_comm (l₁ := [_]) (l₂ := K))⟩))
end Go.Sx


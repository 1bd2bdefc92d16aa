/- Chapter 27: what a record does: number, text, replay: the walks. -/
import Derived.Test.YtionfblneloaiaaGreatDoorYD
namespace Go.Sx
open Go Go.Proofs Go.RowKit
theorem hwYE {G G2 : Prop} (x : G2) (hwq : Hold G2 → G := by
    intro hQq
    repeat' (first | refine HL.pa ?_ (POp.nilCheck rfl) | apply HL.fold | apply HA.fold | apply HL.nil | apply HX.n_then | apply HC.seq | apply HC.region | refine HL.pa ?_ | refine HL.ga rfl ?_ | refine HL.na rfl ?_ | refine HL.nu rfl rfl ?_ | apply HC.block | apply HC.skip | apply HC.exit | apply HC.ret | apply HX.e_block | refine HX.e_other rfl ?_ | apply HX.e_then | apply HX.e_again | apply HX.n_block | apply HX.r_then | apply HX.r_block | apply HX.r_again | refine HC.cond_yes rfl ?_ | refine HC.cond_no rfl ?_ | refine HL.one (H1.ldb rfl memA rfl rfl ?_) | refine HC.cond rfl (fun hc => ?_) (fun hc => ?_) | refine HC.cond_b rfl (fun hc => ?_) (fun hc => ?_))
    exact hQq.get) : G := hwq ⟨x⟩
theorem hnYE {G G2 : Prop} (x : G2) (hwq : Hold G2 → G := by
    intro hQq
    repeat' (first | refine HL.pa ?_ (POp.nilCheck rfl) | apply HL.fold | apply HA.fold | apply HL.nil | apply HX.n_then | apply HC.seq | apply HC.region | refine HL.pa ?_ | refine HL.ga rfl ?_ | refine HL.na rfl ?_ | refine HL.nu rfl rfl ?_ | apply HC.block | apply HC.skip | apply HC.exit | apply HC.ret | apply HX.e_block | refine HX.e_other rfl ?_ | apply HX.e_then | apply HX.e_again | apply HX.n_block | apply HX.r_then | apply HX.r_block | apply HX.r_again | refine HC.cond_yes rfl ?_ | refine HC.cond_no rfl ?_ | refine HL.one (H1.ldb rfl memA rfl rfl ?_))
    exact hQq.get) : G := hwq ⟨x⟩
/-- The error of a record that is not right. -/
def CErrG (a : Addr) (w : World) : Prop := w.cell? ⟨0, 0, none⟩ = some (errV a)
theorem CErrG.ext {a : Addr} {w w' : World} (h : CErrG a w) (k : Ext w w') : CErrG a w' := cell_ext k h
/-- What a record does to fragments; none: it is not right. -/
def replayF (m : PM) (s : ByteArray) : Option PM :=
  if s.size = 0 then none else
  match decI s.data.toList 1 with
  | none => none
  | some (z, q) =>
    if sb s 0 = 115 then
      match decI s.data.toList q with
      | none => none
      | some (z2, q2) => match decS s.data.toList q2 with
        | none => none
        | some (r, q3) => if okP (unz z, unz z2) ∧ r.length ≤ 4096 then (if q3 = s.size then some (setM m (unz z, unz z2) (mkBA r)) else none) else none
    else if sb s 0 = 100 then (if okP (unz z, 0) ∧ (dropM m (unz z)).length < m.length then (if q = s.size then some (dropM m (unz z)) else none) else none)
    else none
theorem mkBA_size2 (l : List UInt8) : (mkBA l).size = l.length := by show l.toArray.size = _; rw [List.size_toArray]
theorem decI_le {s : List UInt8} {p : Nat} (hp : p ≤ s.length) {z q : Nat} (h : decI s p = some (z, q)) : p < q ∧ q ≤ s.length := decG_le 9 0 0 (by omega) h
theorem setM_mem {m : PM} {k : PK} {s : ByteArray} {p : PK × ByteArray} (h : p ∈ setM m k s) : p ∈ m ∨ p = (k, s) := by
  induction m with
  | nil => exact .inr (List.mem_singleton.1 h)
  | cons q m ih =>
    obtain ⟨y, u⟩ := q
    simp only [setM] at h
    split at h
    · rcases List.mem_cons.1 h with h | h
      · exact .inr h
      · exact .inl (List.mem_cons_of_mem _ h)
    · rcases List.mem_cons.1 h with h | h
      · exact .inl (by rw [h]; exact List.mem_cons_self ..)
      · rcases ih h with h | h
        · exact .inl (List.mem_cons_of_mem _ h)
        · exact .inr h
theorem setM_fst {m : PM} {k x : PK} {s : ByteArray} (h : x ∈ (setM m k s).map Prod.fst) : x ∈ m.map Prod.fst ∨ x = k := by
  obtain ⟨p, hp, rfl⟩ := List.mem_map.1 h
  rcases setM_mem hp with h | rfl
  · exact .inl (List.mem_map.2 ⟨p, h, rfl⟩)
  · exact .inr rfl
theorem setM_nodup {m : PM} (k : PK) (s : ByteArray) (h : (m.map Prod.fst).Nodup) : ((setM m k s).map Prod.fst).Nodup := by
  induction m with
  | nil => simp [setM]
  | cons q m ih =>
    obtain ⟨y, u⟩ := q
    rw [List.map_cons, List.nodup_cons] at h
    simp only [setM]
    split
    · rename_i e
      rw [List.map_cons, List.nodup_cons]
      exact ⟨by rw [e]; exact h.1, h.2⟩
    · rename_i e
      rw [List.map_cons, List.nodup_cons]
      refine ⟨fun h2 => ?_, ih h.2⟩
      rcases setM_fst h2 with h3 | h3
      · exact h.1 h3
      · exact e h3.symm
theorem dropM_nodup {m : PM} (o : Int) (h : (m.map Prod.fst).Nodup) : ((dropM m o).map Prod.fst).Nodup := List.Nodup.sublist (List.filter_sublist.map _) h
theorem setM_len (m : PM) (k : PK) (s : ByteArray) : (setM m k s).length ≤ m.length + 1 := by
  induction m with
  | nil => exact Nat.le_refl _
  | cons q m ih =>
    obtain ⟨y, u⟩ := q
    simp only [setM]
    split
    · exact Nat.le_succ _
    · exact Nat.succ_le_succ ih
theorem HX.ret1E {P : Program} {N : Nat} {E : Env} {w0 : World} {H : List Atom} {fn : Func} {t : Nat} {v : Value} {R : Ending → World → Prop} (hr : fn.results = #[.tmp t]) (hv : Env.g E t = some v) (h : ∀ w, Mm w0 H w → R (.returned v) w) : HX N [] .ret (bodyPost P fn R) E w0 H := fun w hM a ha =>
  ⟨ha.defers, _, results_tmp hr _ _ _, by rw [Array.getD_eq_getD_getElem?, ha.get _ _ hv]; exact h w hM⟩
attribute [local irreducible] WC WL WX POp Then Again Fn NX W1 WA WO QL RP RA Yld LoopAt HC HL HX HN H1 HA HO HQ HB HP A.blk A.grow A.rd A.obj A.mp AgainH CutH
attribute [local irreducible] A.pm A.mx A.mit sumS
theorem ccheck_fn {w0 w : World} {H : List Atom} {a : Addr} (b : Bool) (hM : Mm w0 H w) (hE : CErrG a w0) :
    Calls Tryz.prog 112 #[.bool b] w (EndP (fun _ : Unit => b = true) (fun _ => .tuple #[]) (fun _ => H) (fun _ : Unit => b = false) (errP a) (fun _ => H) w0) := by
  refine enterE (l := [_]) hM rfl Tryz.ntmps112 rfl ?_
  cases b
  · refine hwYE ?_
    refine HL.one (H1.ld0 rfl hE rfl ?_)
    refine hwYE ?_
    refine HL.one (H1.panic rfl ?_)
    exact HX.panE fun w' hM => .inr ⟨(), rfl, rfl, hM⟩
  · refine hwYE ?_
    exact HX.end0E rfl fun w' hM => .inl ⟨(), rfl, rfl, hM⟩
theorem number27_fn {w0 w : World} {H : List Atom} {br p : Nat} {ea : Addr} (s : ByteArray) (hE : CErrG ea w0) (hM : Mm w0 (A.blk br [.string s, zv (p : Int)] 190 :: H) w) (hp : p ≤ s.size) (hs : s.size ≤ 5000000) :
    Calls Tryz.prog 113 #[.pointer (some ⟨br, 0, none⟩)] w (EndP (fun x : Nat × Nat => decI s.data.toList p = some x) (fun x => zv (unz x.1)) (fun x => A.blk br [.string s, zv (x.2 : Int)] 190 :: H)
      (fun _ : Unit => decI s.data.toList p = none) (errP ea) (fun _ => H) w0) := by
  have hint := fun w' => int_fn s p hp hs w'
  refine enterE (l := [_]) hM rfl Tryz.ntmps113 rfl ?_
  refine hwYE ?_
  cases hd : decI s.data.toList p with
  | none =>
    rw [hd] at hint
    refine HC.anyC ([(⟨br, 0, none⟩, .string s), (⟨br, 1, none⟩, zv (p : Int))]) rfl ?_
    refine HB.pa 0 rfl ?_
    refine HB.pa 1 rfl ?_ (POp.nilCheck rfl)
    refine HB.pa 2 rfl ?_
    refine HB.ld 3 rfl rfl memD ?_
    refine HB.pa 4 rfl ?_
    refine HB.pa 5 rfl ?_ (POp.nilCheck rfl)
    refine HB.pa 6 rfl ?_
    refine HB.ld 7 rfl rfl memD ?_
    refine HB.all (by (exact Keep.blk (b := br) memD rfl (Keep.blk (b := br) memD rfl Keep.nil))) [8] (by kernel_rfl) rfl ⟨⟨_, rfl, ?_⟩, trivial⟩
    refine HP.one ?_
    refine H1.call0 (vs := [.string s, zv (p : Int)]) rfl rfl (fun w' _ => hint w') ?_
    apply HB.fold
    refine HB.pa 9 rfl ?_
    refine HB.pa 10 rfl ?_
    refine HB.pa 11 rfl ?_
    refine HB.pa 12 rfl ?_
    refine HB.pa 13 rfl ?_
    refine HB.pa 14 rfl ?_
    refine HB.pa 15 rfl ?_
    refine HB.done (by (exact Keep.blk (b := br) memD rfl (Keep.blk (b := br) memD rfl Keep.nil))) (by kernel_rfl) ?_
    refine hwYE ?_
    refine HL.one (H1.callE (vs := [.bool false]) rfl rfl (fun w' hM => ccheck_fn _ hM hE) (fun _ hb2 => ?_) (fun _ hb2 => ?_))
    · cases hb2
    repeat (first | apply HX.p_then | apply HX.p_block | apply HX.p_again)
    exact HX.panE fun w' hM => .inr ⟨(), rfl, rfl, hM.tail⟩
  | some x =>
    obtain ⟨z, q⟩ := x
    rw [hd] at hint
    refine HC.anyC ([(⟨br, 0, none⟩, .string s), (⟨br, 1, none⟩, zv (p : Int))]) rfl ?_
    refine HB.pa 0 rfl ?_
    refine HB.pa 1 rfl ?_ (POp.nilCheck rfl)
    refine HB.pa 2 rfl ?_
    refine HB.ld 3 rfl rfl memD ?_
    refine HB.pa 4 rfl ?_
    refine HB.pa 5 rfl ?_ (POp.nilCheck rfl)
    refine HB.pa 6 rfl ?_
    refine HB.ld 7 rfl rfl memD ?_
    refine HB.all (by (exact Keep.blk (b := br) memD rfl (Keep.blk (b := br) memD rfl Keep.nil))) [8] (by kernel_rfl) rfl ⟨⟨_, rfl, ?_⟩, trivial⟩
    refine HP.one ?_
    refine H1.call0 (vs := [.string s, zv (p : Int)]) rfl rfl (fun w' _ => hint w') ?_
    apply HB.fold
    refine HB.pa 9 rfl ?_
    refine HB.pa 10 rfl ?_
    refine HB.pa 11 rfl ?_
    refine HB.pa 12 rfl ?_
    refine HB.pa 13 rfl ?_
    refine HB.pa 14 rfl ?_
    refine HB.pa 15 rfl ?_
    refine HB.done (by (exact Keep.blk (b := br) memD rfl (Keep.blk (b := br) memD rfl Keep.nil))) (by kernel_rfl) ?_
    refine hwYE ?_
    refine HL.one (H1.callE (vs := [.bool true]) rfl rfl (fun w' hM => ccheck_fn _ hM hE) (fun _ hb2 => ?_) (fun _ hb2 => ?_))
    rotate_left
    · cases hb2
    refine hwYE ?_
    refine HL.one (H1.st rfl rfl (by intro _ h; cases h) (by intro _ h; cases h) rplA (by show 1 < 2; decide) ?_)
    refine hwYE ?_
    exact HX.ret1E rfl rfl fun w' hM => .inl ⟨(z, q), rfl, rfl, hM⟩
theorem text27_fn {w0 w : World} {H : List Atom} {br p : Nat} {ea : Addr} (s : ByteArray) (hE : CErrG ea w0) (hM : Mm w0 (A.blk br [.string s, zv (p : Int)] 190 :: H) w) (hp : p ≤ s.size) (hs : s.size ≤ 5000000) :
    Calls Tryz.prog 114 #[.pointer (some ⟨br, 0, none⟩)] w (EndP (fun x : List UInt8 × Nat => decS s.data.toList p = some x) (fun x => .string (mkBA x.1)) (fun x => A.blk br [.string s, zv (x.2 : Int)] 190 :: H)
      (fun _ : Unit => decS s.data.toList p = none) (errP ea) (fun _ => H) w0) := by
  have hint := fun w' => string_fn s p hp hs w'
  refine enterE (l := [_]) hM rfl Tryz.ntmps114 rfl ?_
  refine hwYE ?_
  cases hd : decS s.data.toList p with
  | none =>
    rw [hd] at hint
    refine HC.anyC ([(⟨br, 0, none⟩, .string s), (⟨br, 1, none⟩, zv (p : Int))]) rfl ?_
    refine HB.pa 0 rfl ?_
    refine HB.pa 1 rfl ?_ (POp.nilCheck rfl)
    refine HB.pa 2 rfl ?_
    refine HB.ld 3 rfl rfl memD ?_
    refine HB.pa 4 rfl ?_
    refine HB.pa 5 rfl ?_ (POp.nilCheck rfl)
    refine HB.pa 6 rfl ?_
    refine HB.ld 7 rfl rfl memD ?_
    refine HB.all (by (exact Keep.blk (b := br) memD rfl (Keep.blk (b := br) memD rfl Keep.nil))) [8] (by kernel_rfl) rfl ⟨⟨_, rfl, ?_⟩, trivial⟩
    refine HP.one ?_
    refine H1.call0 (vs := [.string s, zv (p : Int)]) rfl rfl (fun w' _ => hint w') ?_
    apply HB.fold
    refine HB.pa 9 rfl ?_
    refine HB.pa 10 rfl ?_
    refine HB.pa 11 rfl ?_
    refine HB.pa 12 rfl ?_
    refine HB.pa 13 rfl ?_
    refine HB.pa 14 rfl ?_
    refine HB.pa 15 rfl ?_
    refine HB.done (by (exact Keep.blk (b := br) memD rfl (Keep.blk (b := br) memD rfl Keep.nil))) (by kernel_rfl) ?_
    refine hwYE ?_
    refine HL.one (H1.callE (vs := [.bool false]) rfl rfl (fun w' hM => ccheck_fn _ hM hE) (fun _ hb2 => ?_) (fun _ hb2 => ?_))
    · cases hb2
    repeat (first | apply HX.p_then | apply HX.p_block | apply HX.p_again)
    exact HX.panE fun w' hM => .inr ⟨(), rfl, rfl, hM.tail⟩
  | some x =>
    obtain ⟨z, q⟩ := x
    rw [hd] at hint
    refine HC.anyC ([(⟨br, 0, none⟩, .string s), (⟨br, 1, none⟩, zv (p : Int))]) rfl ?_
    refine HB.pa 0 rfl ?_
    refine HB.pa 1 rfl ?_ (POp.nilCheck rfl)
    refine HB.pa 2 rfl ?_
    refine HB.ld 3 rfl rfl memD ?_
    refine HB.pa 4 rfl ?_
    refine HB.pa 5 rfl ?_ (POp.nilCheck rfl)
    refine HB.pa 6 rfl ?_
    refine HB.ld 7 rfl rfl memD ?_
    refine HB.all (by (exact Keep.blk (b := br) memD rfl (Keep.blk (b := br) memD rfl Keep.nil))) [8] (by kernel_rfl) rfl ⟨⟨_, rfl, ?_⟩, trivial⟩
    refine HP.one ?_
    refine H1.call0 (vs := [.string s, zv (p : Int)]) rfl rfl (fun w' _ => hint w') ?_
    apply HB.fold
    refine HB.pa 9 rfl ?_
    refine HB.pa 10 rfl ?_
    refine HB.pa 11 rfl ?_
    refine HB.pa 12 rfl ?_
    refine HB.pa 13 rfl ?_
    refine HB.pa 14 rfl ?_
    refine HB.pa 15 rfl ?_
    refine HB.done (by (exact Keep.blk (b := br) memD rfl (Keep.blk (b := br) memD rfl Keep.nil))) (by kernel_rfl) ?_
    refine hwYE ?_
    refine HL.one (H1.callE (vs := [.bool true]) rfl rfl (fun w' hM => ccheck_fn _ hM hE) (fun _ hb2 => ?_) (fun _ hb2 => ?_))
    rotate_left
    · cases hb2
    refine hwYE ?_
    refine HL.one (H1.st rfl rfl (by intro _ h; cases h) (by intro _ h; cases h) rplA (by show 1 < 2; decide) ?_)
    refine hwYE ?_
    exact HX.ret1E rfl rfl fun w' hM => .inl ⟨(z, q), rfl, rfl, hM⟩
set_option maxHeartbeats 2000000 in
theorem replay_fn {w0 w : World} {H : List Atom} {b : Nat} {m : PM} {ea : Addr} (s : ByteArray) (hE : CErrG ea w0) (hM : Mm w0 (A.pm b (liftP m) :: H) w) (hs : s.size ≤ 5000000) (hk : (m.map Prod.fst).Nodup) (hl : m.length ≤ 900000) :
    Calls Tryz.prog 63 #[.map (some b), .string s] w (EndP (fun m2 : PM => replayF m s = some m2) (fun _ => .tuple #[]) (fun m2 => A.pm b (liftP m2) :: H) (fun _ : Unit => replayF m s = none) (errP ea) (fun _ => H) w0) := by
  have hlen : s.data.toList.length = s.size := by rw [Array.length_toList]; rfl
  refine enterE (l := [_, _]) hM rfl Tryz.ntmps63 rfl ?_
  refine hwYE ?_
  refine HL.one (H1.callE (vs := [.bool (decide (¬ s = ByteArray.mk #[]))]) rfl rfl (fun w' hM => ccheck_fn _ hM hE) (fun _ hb2 => ?_) (fun _ hb2 => ?_))
  rotate_left
  · have he : s = ByteArray.mk #[] := Classical.not_not.1 (of_decide_eq_false hb2)
    repeat (first | apply HX.p_then | apply HX.p_block | apply HX.p_again)
    exact HX.panE fun w' hM => .inr ⟨(), by unfold replayF; rw [if_pos (by rw [he]; rfl)], rfl, hM.tail⟩
  have hne : ¬ s = ByteArray.mk #[] := of_decide_eq_true hb2
  have hs0 : 0 < s.size := by
    rcases Nat.eq_zero_or_pos s.size with h | h
    · exact absurd (ba_ext (List.eq_nil_of_length_eq_zero (by rw [hlen]; exact h))) hne
    · exact h
  have hF0 : ∀ {r}, (match decI s.data.toList 1 with
    | none => none
    | some (z, q) =>
      if sb s 0 = 115 then
        match decI s.data.toList q with
        | none => none
        | some (z2, q2) => match decS s.data.toList q2 with
          | none => none
          | some (r, q3) => if okP (unz z, unz z2) ∧ r.length ≤ 4096 then (if q3 = s.size then some (setM m (unz z, unz z2) (mkBA r)) else none) else none
      else if sb s 0 = 100 then (if okP (unz z, 0) ∧ (dropM m (unz z)).length < m.length then (if q = s.size then some (dropM m (unz z)) else none) else none)
      else none) = r → replayF m s = r := fun h => by unfold replayF; rw [if_neg (by omega)]; exact h
  refine hwYE ?_
  refine HL.build (cs := [.string s, zv 1]) rfl rfl rfl ?_
  refine hwYE ?_
  refine HL.one (H1.boxAgg (cs := [.string s, zv 1]) rfl rfl (fun br => ?_))
  refine hwYE ?_
  refine HL.one (H1.callE (vs := [.pointer (some ⟨br, 0, none⟩)]) rfl rfl (fun w' hM => number27_fn (p := 1) s hE hM (by omega) hs) (fun x hx => ?_) (fun _ hb2 => ?_))
  rotate_left
  · repeat (first | apply HX.p_then | apply HX.p_block | apply HX.p_again)
    exact HX.panE fun w' hM => .inr ⟨(), hF0 (by rw [hb2]), rfl, hM.tail⟩
  obtain ⟨z, q⟩ := x
  rw [hx] at hF0
  dsimp only at hF0 ⊢
  have hq := decI_le (by omega) hx
  rw [hlen] at hq
  obtain ⟨o, ho⟩ : ∃ o, o = unz z := ⟨_, rfl⟩
  rw [← ho] at hF0 ⊢
  refine hwYE ?_
  refine HL.build (cs := [zv o, zv 0]) rfl rfl rfl ?_
  refine hwYE ?_
  refine HL.one (H1.alloc (cs := [zv 0, zv 0]) rfl rfl (fun b5 => ?_))
  refine hwYE ?_
  refine HL.one (H1.stAgg (cs := [zv 0, zv 0]) (vs := [zv o, zv 0]) rfl rfl rfl (by intro v hv; rcases List.mem_cons.1 hv with rfl | hv; rfl; rcases List.mem_cons.1 hv with rfl | hv; rfl; cases hv) rplA rfl ?_)
  refine hnYE ?_
  by_cases h1 : sb s 0 = 115
  · have h1' : ((sb s 0 : Nat) : Int) = 115 := by omega
    rw [if_pos h1] at hF0
    refine hwYE ?_
    refine HL.one (H1.callE (vs := [.pointer (some ⟨br, 0, none⟩)]) rfl rfl (fun w' hM => number27_fn (p := q) s hE (hM.sub (Hs.cons (Pick.there Pick.here) (Hs.refl _))) (by omega) hs) (fun x hx2 => ?_) (fun _ hb2 => ?_))
    rotate_left
    · repeat (first | apply HX.p_then | apply HX.p_block | apply HX.p_again)
      exact HX.panE fun w' hM => .inr ⟨(), hF0 (by rw [hb2]), rfl, hM.tail.tail⟩
    obtain ⟨z2, q2⟩ := x
    rw [hx2] at hF0
    dsimp only at hF0 ⊢
    have hq2 := decI_le (by omega) hx2
    rw [hlen] at hq2
    obtain ⟨f, hf⟩ : ∃ f, f = unz z2 := ⟨_, rfl⟩
    rw [← hf] at hF0 ⊢
    refine hwYE ?_
    refine HL.one (H1.st (b := b5) rfl rfl (by intro _ h; cases h) (by intro _ h; cases h) rplA (by show 1 < 2; decide) ?_)
    refine hwYE ?_
    refine HL.one (H1.callE (vs := [.pointer (some ⟨br, 0, none⟩)]) rfl rfl (fun w' hM => text27_fn (p := q2) s hE hM (by omega) hs) (fun x hx3 => ?_) (fun _ hb2 => ?_))
    rotate_left
    · repeat (first | apply HX.p_then | apply HX.p_block | apply HX.p_again)
      exact HX.panE fun w' hM => .inr ⟨(), hF0 (by rw [hb2]), rfl, hM.tail.tail⟩
    obtain ⟨r, q3⟩ := x
    rw [hx3] at hF0
    dsimp only at hF0 ⊢
    have hq3 := decS_le hx3
    rw [hlen] at hq3
    have hrs := mkBA_size2 r
    refine hwYE ?_
    refine HL.one (H1.ldAgg (vs := [zv o, zv f]) rfl memA rfl (fun i v hv => by show [zv o, zv f][0 + i]? = _; rw [Nat.zero_add]; exact hv) rfl ?_)
    refine hwYE ?_
    refine HL.one (H1.callx (vs := [pkV (o, f)]) rfl rfl (fun w' _ => isValid_fn (o, f) w') ?_)
    by_cases hok : okP (o, f) ∧ r.length ≤ 4096
    rotate_left
    · rw [if_neg hok] at hF0
      by_cases hv : okP (o, f)
      · have hl2 : ¬ ((mkBA r).size : Int) ≤ 4096 := fun h => hok ⟨hv, by omega⟩
        rw [decide_eq_true hv]
        refine hwYE ?_
        rw [decide_eq_false hl2]
        refine HL.one (H1.callE (vs := [.bool false]) rfl rfl (fun w' hM => ccheck_fn _ hM hE) (fun _ hb2 => by cases hb2) (fun _ hb2 => ?_))
        repeat (first | apply HX.p_then | apply HX.p_block | apply HX.p_again)
        exact HX.panE fun w' hM => .inr ⟨(), hF0 rfl, rfl, hM.tail.tail.tail⟩
      · rw [decide_eq_false hv]
        refine hwYE ?_
        refine HL.one (H1.callE (vs := [.bool false]) rfl rfl (fun w' hM => ccheck_fn _ hM hE) (fun _ hb2 => by cases hb2) (fun _ hb2 => ?_))
        repeat (first | apply HX.p_then | apply HX.p_block | apply HX.p_again)
        exact HX.panE fun w' hM => .inr ⟨(), hF0 rfl, rfl, hM.tail.tail.tail⟩
    rw [if_pos hok] at hF0
    have hl2 : ((mkBA r).size : Int) ≤ 4096 := by have := hok.2; omega
    rw [decide_eq_true hok.1]
    refine hwYE ?_
    rw [decide_eq_true hl2]
    refine HL.one (H1.callE (vs := [.bool true]) rfl rfl (fun w' hM => ccheck_fn _ hM hE) (fun _ hb2 => ?_) (fun _ hb2 => by cases hb2))
    refine hwYE ?_
    refine HL.one (H1.ldAgg (vs := [zv o, zv f]) rfl memA rfl (fun i v hv => by show [zv o, zv f][0 + i]? = _; rw [Nat.zero_add]; exact hv) rfl ?_)
    refine hwYE ?_
    refine HL.one (H1.pmset (n := (o, f)) (v := .string (mkBA r)) rfl rfl rfl rplA ?_)
    rw [msetP_lift]
    refine hwYE ?_
    refine HL.one (H1.callE (vs := [.bool (decide ((q3 : Int) = (s.size : Int)))]) rfl rfl (fun w' hM => ccheck_fn _ hM hE) (fun _ hb2 => ?_) (fun _ hb2 => ?_))
    rotate_left
    · repeat (first | apply HX.p_then | apply HX.p_block | apply HX.p_again)
      exact HX.panE fun w' hM => .inr ⟨(), hF0 (by rw [if_neg (fun h => of_decide_eq_false hb2 (by omega))]), rfl, hM.tail.tail.tail⟩
    have hfin : q3 = s.size := by have h := of_decide_eq_true hb2; omega
    refine hwYE ?_
    exact HX.end0E rfl fun w' hM => .inl ⟨_, hF0 (by rw [if_pos hfin]), rfl, hM.tail.tail⟩
  have h1' : ¬ ((sb s 0 : Nat) : Int) = 115 := by omega
  rw [if_neg h1] at hF0
  by_cases h2 : sb s 0 = 100
  rotate_left
  · have h2' : ¬ ((sb s 0 : Nat) : Int) = 100 := by omega
    rw [if_neg h2] at hF0
    refine hwYE ?_
    refine HL.one (H1.callE (vs := [.bool false]) rfl rfl (fun w' hM => ccheck_fn _ hM hE) (fun _ hb2 => by cases hb2) (fun _ hb2 => ?_))
    repeat (first | apply HX.p_then | apply HX.p_block | apply HX.p_again)
    exact HX.panE fun w' hM => .inr ⟨(), hF0 rfl, rfl, hM.tail.tail.tail⟩
  have h2' : ((sb s 0 : Nat) : Int) = 100 := by omega
  have hdl := dropM_len m o
  rw [if_pos h2] at hF0
  refine hwYE ?_
  refine HL.one (H1.ldAgg (vs := [zv o, zv 0]) rfl memA rfl (fun i v hv => by rw [Nat.zero_add]; exact hv) rfl ?_)
  refine hwYE ?_
  refine HL.one (H1.callx (vs := [pkV (o, 0)]) rfl rfl (fun w' _ => isValid_fn (o, 0) w') ?_)
  by_cases hv : okP (o, 0)
  rotate_left
  · rw [if_neg (fun h => hv h.1)] at hF0
    rw [decide_eq_false hv]
    refine hwYE ?_
    refine HL.one (H1.callE (vs := [.bool false]) rfl rfl (fun w' hM => ccheck_fn _ hM hE) (fun _ hb2 => by cases hb2) (fun _ hb2 => ?_))
    repeat (first | apply HX.p_then | apply HX.p_block | apply HX.p_again)
    exact HX.panE fun w' hM => .inr ⟨(), hF0 rfl, rfl, hM.tail.tail.tail⟩
  rw [decide_eq_true hv]
  refine hwYE ?_
  refine HL.one (H1.callk (α := Unit) (V := fun _ => zv ((m.length : Int) - ((dropM m o).length : Int))) (I := fun _ => True) (H' := fun _ => A.pm b (liftP (dropM m o)) :: A.blk b5 [zv o, zv 0] 76 :: A.blk br [.string s, zv (q : Int)] 190 :: H) (vs := [.map (some b), _]) rfl rfl
    (fun w' hM => dropP_fn (hM.sub (Hs.cons (Pick.there (Pick.there Pick.here)) (Hs.refl _))) hk (by omega)) ?_)
  rintro - -
  refine hwYE ?_
  refine HL.one (H1.callE (vs := [.bool (decide (0 < (m.length : Int) - ((dropM m o).length : Int)))]) rfl rfl (fun w' hM => ccheck_fn _ hM hE) (fun _ hb2 => ?_) (fun _ hb2 => ?_))
  rotate_left
  · repeat (first | apply HX.p_then | apply HX.p_block | apply HX.p_again)
    exact HX.panE fun w' hM => .inr ⟨(), hF0 (by rw [if_neg (fun h => of_decide_eq_false hb2 (by have := h.2; omega))]), rfl, hM.tail.tail.tail⟩
  have hlt : (dropM m o).length < m.length := by have h := of_decide_eq_true hb2; omega
  rw [if_pos ⟨hv, hlt⟩] at hF0
  refine hwYE ?_
  refine HL.one (H1.callE (vs := [.bool (decide ((q : Int) = (s.size : Int)))]) rfl rfl (fun w' hM => ccheck_fn _ hM hE) (fun _ hb2 => ?_) (fun _ hb2 => ?_))
  rotate_left
  · repeat (first | apply HX.p_then | apply HX.p_block | apply HX.p_again)
    exact HX.panE fun w' hM => .inr ⟨(), hF0 (by rw [if_neg (fun h => of_decide_eq_false hb2 (by omega))]), rfl, hM.tail.tail.tail⟩
  have hfin : q = s.size := by have h := of_decide_eq_true hb2; omega
  refine hwYE ?_
  exact HX.end0E rfl fun w' hM => .inl ⟨_, hF0 (by rw [if_pos hfin]), rfl, hM.sub (Hs.cons Pick.here (Hs.refl _).skip.skip)⟩
end Go.Sx


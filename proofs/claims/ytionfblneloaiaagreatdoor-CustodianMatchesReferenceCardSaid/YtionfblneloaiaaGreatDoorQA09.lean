/- Chapter 25: the reference's disk: plain, and the walks. -/
import Derived.Test.YtionfblneloaiaaGreatDoorQA08
namespace Go.Sx
open Go Go.Proofs Go.RowKit
theorem hwKM {G G2 : Prop} (x : G2) (hwq : Hold G2 → G := by
    intro hQq
    repeat' (first | refine HL.pa ?_ (POp.nilCheck rfl) | apply HL.fold | apply HA.fold | apply HL.nil | apply HX.n_then | apply HC.seq | apply HC.region | refine HL.pa ?_ | refine HL.ga rfl ?_ | refine HL.na rfl ?_ | refine HL.nu rfl rfl ?_ | apply HC.block | apply HC.skip | apply HC.exit | apply HC.ret | apply HX.e_block | refine HX.e_other rfl ?_ | apply HX.e_then | apply HX.e_again | apply HX.n_block | apply HX.r_then | apply HX.r_block | apply HX.r_again | refine HC.cond_yes rfl ?_ | refine HC.cond_no rfl ?_ | refine HL.one (H1.ldb rfl memA rfl rfl ?_) | refine HC.cond rfl (fun hc => ?_) (fun hc => ?_) | refine HC.cond_b rfl (fun hc => ?_) (fun hc => ?_))
    exact hQq.get) : G := hwq ⟨x⟩
theorem hnKM {G G2 : Prop} (x : G2) (hwq : Hold G2 → G := by
    intro hQq
    repeat' (first | refine HL.pa ?_ (POp.nilCheck rfl) | apply HL.fold | apply HA.fold | apply HL.nil | apply HX.n_then | apply HC.seq | apply HC.region | refine HL.pa ?_ | refine HL.ga rfl ?_ | refine HL.na rfl ?_ | refine HL.nu rfl rfl ?_ | apply HC.block | apply HC.skip | apply HC.exit | apply HC.ret | apply HX.e_block | refine HX.e_other rfl ?_ | apply HX.e_then | apply HX.e_again | apply HX.n_block | apply HX.r_then | apply HX.r_block | apply HX.r_again | refine HC.cond_yes rfl ?_ | refine HC.cond_no rfl ?_ | refine HL.one (H1.ldb rfl memA rfl rfl ?_))
    exact hQq.get) : G := hwq ⟨x⟩
theorem hbKM {G G2 : Prop} (x : G2) (hwq : Hold G2 → G := by
    intro hQq
    repeat' (first | refine HL.pa ?_ (POp.nilCheck rfl) | apply HL.fold | apply HA.fold | apply HL.nil | apply HX.n_then | apply HC.seq | apply HC.region | refine HL.pa ?_ | refine HL.ga rfl ?_ | refine HL.na rfl ?_ | refine HL.nu rfl rfl ?_ | apply HC.skip | apply HC.exit | apply HC.ret | apply HX.e_block | refine HX.e_other rfl ?_ | apply HX.e_then | apply HX.e_again | apply HX.n_block | apply HX.r_then | apply HX.r_block | apply HX.r_again | refine HC.cond_yes rfl ?_ | refine HC.cond_no rfl ?_ | refine HL.one (H1.ldb rfl memA rfl rfl ?_) | refine HC.cond rfl (fun hc => ?_) (fun hc => ?_) | refine HC.cond_b rfl (fun hc => ?_) (fun hc => ?_))
    exact hQq.get) : G := hwq ⟨x⟩
/-- What is visible of a content with writes pending. -/
def visL (pend : List (Nat × ByteArray)) (d : List UInt8) : List UInt8 := pend.foldl (fun d x => splice d x.1 x.2.data.toList) d
/-- What is visible is what is durable, and all that is pending. -/
def Dk.Vis (k : Dk) : Prop := k.vis = visL k.pend k.dur
theorem visL_snoc (pend : List (Nat × ByteArray)) (x : Nat × ByteArray) (d : List UInt8) : visL (pend ++ [x]) d = splice (visL pend d) x.1 x.2.data.toList := by
  unfold visL; rw [List.foldl_append]; rfl
theorem Dk.Vis.used {k : Dk} (h : k.Vis) : k.used.Vis := by
  obtain ⟨h1, h2, h3, -⟩ := used_p k
  unfold Dk.Vis
  rw [h1, h2, h3]; exact h
theorem Dk.Vis.write {k : Dk} (h : k.Vis) (off : Nat) (s : ByteArray) : (k.write off s).2.Vis := by
  unfold Dk.write
  split
  · exact h
  · split
    · show (k.put off s).Vis
      unfold Dk.put
      refine Dk.Vis.used ?_
      show splice k.vis off s.data.toList = visL (k.pend ++ [(off, s)]) k.dur
      rw [visL_snoc, ← h]
    · exact h
theorem Dk.Vis.sync {k : Dk} (h : k.Vis) : k.sync.2.Vis := by
  unfold Dk.sync
  split
  · exact h
  · exact rfl
theorem Dk.Vis.cut {k : Dk} (h : k.Vis) (n : Nat) : (k.cut n).2.Vis := by
  unfold Dk.cut
  split
  · exact h
  · exact h
theorem Dk.Vis.runOps : ∀ (l : List DOp) {k : Dk}, k.Vis → (runOps l k).2.Vis
  | [], k, h => h
  | o :: l, k, h => by
    have h1 : (o.run k).2.Vis := by
      cases o with
      | wr off s => exact h.write off s
      | sy => exact h.sync
    by_cases h0 : (o.run k).1 = 0
    · rw [runOps_ok h0]; exact Dk.Vis.runOps l h1
    · rw [runOps_no h0]; exact h1
theorem newK_vis (n : Nat) : (newK n).Vis := rfl
theorem crash_vis (k : Dk) (keep : List Int) (torn : Int) : (k.crash keep torn).Vis := rfl
theorem visL_len : ∀ (pend : List (Nat × ByteArray)) (d : List UInt8), (∀ x ∈ pend, x.1 + x.2.size ≤ d.length) → (visL pend d).length = d.length
  | [], _, _ => rfl
  | x :: pend, d, h => by
    have h1 := h x (List.mem_cons_self ..)
    have h2 : x.2.data.toList.length = x.2.size := by rw [Array.length_toList]; rfl
    have h3 : (splice d x.1 x.2.data.toList).length = d.length := splice_len (by omega)
    show (visL pend (splice d x.1 x.2.data.toList)).length = _
    rw [visL_len pend _ (fun y hy => by rw [h3]; exact h y (List.mem_cons_of_mem _ hy)), h3]
theorem splice_none2 (D : List UInt8) (p : Nat) : splice D p [] = D := by
  unfold splice
  rw [List.append_nil, List.length_nil, Nat.add_zero, List.take_append_drop]
theorem splice_snoc {d s : List UInt8} {off i : Nat} {b : UInt8} (h : off + s.length ≤ d.length) (hi : s[i]? = some b) : (splice d off (s.take i)).set (off + i) b = splice d off (s.take (i + 1)) := by
  have hil : i < s.length := (List.getElem?_eq_some_iff.1 hi).1
  have hb : s[i] = b := (List.getElem?_eq_some_iff.1 hi).2
  have hd : d.drop (off + i) = d[off + i]'(by omega) :: d.drop (off + i + 1) := List.drop_eq_getElem_cons (by omega)
  have hl : (d.take off ++ s.take i).length = off + i := by rw [List.length_append, List.length_take, List.length_take]; omega
  unfold splice
  rw [List.take_succ_eq_append_getElem hil, hb, List.length_append, List.length_take, Nat.min_eq_left (by omega), hd, show off + (i + [b].length) = off + i + 1 from rfl]
  rw [List.set_append_right _ _ (by omega), hl, Nat.sub_self, List.set_cons_zero]
  simp
theorem pendC_get2 {l : List (Nat × ByteArray)} : ∀ {i : Nat}, i < l.length → (pendC l)[2 * i]? = some (zv ((pendAt l i).1 : Int)) ∧ (pendC l)[2 * i + 1]? = some (.string (pendAt l i).2) := by
  induction l with
  | nil => intro i h; cases h
  | cons x l ih =>
    intro i h
    have e : pendC (x :: l) = zv (x.1 : Int) :: .string x.2 :: pendC l := rfl
    cases i with
    | zero => rw [e]; exact ⟨rfl, rfl⟩
    | succ i =>
      have h2 := ih (i := i) (by rw [List.length_cons] at h; omega)
      rw [e, show 2 * (i + 1) = 2 * i + 1 + 1 from by omega]
      exact h2
/-- The cells of the reference's disk. -/
def rfC (sa : Option Addr) (sc : Nat) (la : Option Addr) (lc : Nat) (k : Dk) : List Value := [.slice sa k.dur.length sc, .slice la k.pend.length lc, .bool k.off, zv (k.left : Int)]
abbrev rfH (bf : Nat) (sa : Option Addr) (sc : Nat) (la : Option Addr) (lc : Nat) (k : Dk) (H : List Atom) : List Atom :=
  A.blk bf (rfC sa sc la lc k) 119 :: A.grow 5 1 sa sc k.dur.length (ub k.dur) :: A.grow 150 2 la lc k.pend.length (pendC k.pend) :: H
theorem ub_one (l : List UInt8) : ∀ u ∈ ub l, u.oneCell' = true := by
  intro u hu
  obtain ⟨x, -, rfl⟩ := List.mem_map.1 hu
  rfl
theorem ub_set {l : List UInt8} {i : Nat} {b : UInt8} : (ub l).set i (.int .u8 ((b.toNat : Nat) : Int)) = ub (l.set i b) := by
  unfold ub; rw [List.map_set]
theorem blkGrow3 {w0 w : World} {b n sz : Nat} {cs : List Value} {e : TypeId} {H : List Atom} (h : Mm w0 (A.blk b cs e :: H) w) (hl : cs.length = n * sz) (hn : n ≤ 1000000) : Mm w0 (A.grow e sz (some ⟨b, 0, none⟩) n n cs :: H) w := by
  refine ⟨h.ext, fun x hx => ?_, h.nd, h.rng⟩
  rcases List.mem_cons.1 hx with rfl | hx
  · refine ⟨hl, .inr ⟨b, n, cs.toArray, rfl, Nat.zero_le _, h.blk (List.Mem.head _), Nat.le_refl _, by simp only [maxLen]; omega, by simpa using hl, ?_⟩⟩
    rw [← hl, List.take_of_length_le (by simp)]
  · exact h.all x (List.mem_cons_of_mem _ hx)
attribute [local irreducible] WC WL WX POp Then Again Fn NX W1 WA WO QL RP RA Yld LoopAt HC HL HX HN H1 HA HO HQ HB HP A.blk A.grow A.rd A.obj A.mp AgainH CutH
theorem apply_fn {w0 w : World} {H : List Atom} {sa : Option Addr} {sc : Nat} {D : List UInt8} (off : Nat) (s : ByteArray) (hM : Mm w0 (A.grow 5 1 sa sc D.length (ub D) :: H) w) (ho : off + s.size ≤ D.length) (hD : D.length ≤ 4194304) :
    Fn Tryz.prog 79 #[.slice sa D.length sc, zv (off : Int), .string s] w fun v w' => v = .tuple #[] ∧ Mm w0 (A.grow 5 1 sa sc D.length (ub (splice D off s.data.toList)) :: H) w' := by
  have hs : s.data.toList.length = s.size := by rw [Array.length_toList]; rfl
  refine enterK (l := [_, _, _]) hM rfl Tryz.ntmps79 rfl ?_
  refine hwKM ?_
  refine HC.loop (α := Nat) (fun i => [(0, .slice sa D.length sc), (1, zv (off : Int)), (2, .string s), (6, zv (i : Int))]) (fun i => A.grow 5 1 sa sc D.length (ub (splice D off (s.data.toList.take i))) :: H) (fun i => i ≤ s.size) (fun i => s.size - i) 0 (Nat.zero_le _) esA (by rw [List.take_zero, splice_none2]; exact Hs.refl _) ?_
  intro i hi
  by_cases hlt : i < s.size
  · obtain ⟨b, hb⟩ : ∃ b, s.data.toList[i]? = some b := ⟨_, List.getElem?_eq_getElem (by omega)⟩
    have hsb : sb s i = b.toNat := by unfold sb; rw [List.getD_eq_getElem?_getD, hb]; rfl
    have hsn := splice_snoc (d := D) (off := off) (s := s.data.toList) (by omega) hb
    have hln : (splice D off (s.data.toList.take i)).length = D.length := splice_len (by rw [List.length_take]; omega)
    refine HC.openg (e := 5) (sz := 1) (a := sa) (c := sc) (n := D.length) (xs := ub (splice D off (s.data.toList.take i))) (.head _) (by omega) ?_
    rintro g rfl
    have hoi : ((off : Int) + (i : Int)).toNat = off + i := by omega
    have hul : (ub (splice D off (s.data.toList.take i))).length = D.length := by rw [ub_len, hln]
    refine hwKM ?_
    rw [hoi, hsb]
    refine HL.one (H1.stg rfl rfl (by intro _ h; cases h) (by intro _ h; cases h) Rpl.here (by omega) ?_)
    rw [ub_set, hsn]
    refine hwKM ?_
    exact HX.again (i + 1) hlt (by show s.size - (i + 1) < s.size - i; omega) esA (Hs.refl _)
  · obtain rfl : i = s.size := by omega
    rw [List.take_of_length_le (by omega)]
    refine hwKM ?_
    exact HX.end0 rfl fun w' hM => ⟨rfl, hM⟩
theorem fit_take {k : Dk} (hf : k.Fit) (i : Nat) : (visL (k.pend.take i) k.dur).length = k.dur.length := visL_len _ _ fun x hx => hf x (List.mem_of_mem_take hx)
set_option maxHeartbeats 1000000 in
/-- Visible. -/
theorem visible_fn {w0 w : World} {H : List Atom} {bf sc lc : Nat} {sa la : Option Addr} {k : Dk} (hM : Mm w0 (rfH bf sa sc la lc k H) w) (hk : k.Ok) (hf : k.Fit) (hN : k.dur.length ≤ 100000) :
    Fn Tryz.prog 163 #[.pointer (some ⟨bf, 0, none⟩)] w fun v w' => ∃ z : Option Addr × Nat, True ∧ v = .slice z.1 k.dur.length z.2 ∧ Mm w0 (A.grow 5 1 z.1 z.2 k.dur.length (ub (visL k.pend k.dur)) :: rfH bf sa sc la lc k H) w' := by
  have hpn := hk.pend
  have hu1 := ub_len k.dur
  refine enterK (l := [_]) hM rfl Tryz.ntmps163 rfl ?_
  refine hwKM ?_
  refine HL.one (H1.lit0 rfl (fun b9 => ?_))
  refine hwKM ?_
  refine HL.one (H1.appR3 (n := 0) (m := k.dur.length) (vs := ub k.dur) rfl hu1 rfl rfl (fun _ _ => by first | ((repeat (first | with_reducible exact Rpl.here | with_reducible apply Rpl.there)); done) | (repeat (first | exact Rpl.here | apply Rpl.there))) (fun w' hM => Mm.gr (e := 5) (a := sa) (c := sc) hM memA) (ub_one k.dur) (by omega) (by decide) rfl (.inl rfl) (fun a3 c3 _ => ?_))
  rw [Nat.zero_add, List.nil_append]
  refine hwKM ?_
  refine HC.loop (α := Nat) (fun i => [(0, .pointer (some ⟨bf, 0, none⟩)), (3, .slice a3 k.dur.length c3), (4, zv (i : Int))]) (fun i => A.grow 5 1 a3 c3 k.dur.length (ub (visL (k.pend.take i) k.dur)) :: rfH bf sa sc la lc k H) (fun i => i ≤ k.pend.length) (fun i => k.pend.length - i) 0 (Nat.zero_le _) esA (Hs.refl _) ?_
  intro i hi
  by_cases hlt : i < k.pend.length
  · have hpm := hf _ (pendAt_mem hlt)
    obtain ⟨hg1, hg2⟩ := pendC_get2 hlt
    have hfl := fit_take hf i
    have hsn : k.pend.take (i + 1) = k.pend.take i ++ [pendAt k.pend i] := by
      rw [List.take_add_one, List.getElem?_eq_getElem hlt]
      simp [pendAt, hlt]
    have hvs : visL (k.pend.take (i + 1)) k.dur = splice (visL (k.pend.take i) k.dur) (pendAt k.pend i).1 (pendAt k.pend i).2.data.toList := by rw [hsn, visL_snoc]
    clear hsn
    have ei2 : (2 * i) = i * 2 := Nat.mul_comm _ _
    have ei3 : 2 * i + 1 = i * 2 + 1 := by omega
    rw [ei2] at hg1
    rw [ei3] at hg2
    generalize pendAt k.pend i = x at hpm hg1 hg2 hvs
    obtain ⟨off, s⟩ := x
    dsimp only at hpm hg1 hg2 hvs
    refine HC.openg (e := 150) (sz := 2) (a := la) (c := lc) (n := k.pend.length) (xs := pendC k.pend) (.tail _ (.tail _ (.tail _ (.head _)))) (by omega) ?_
    rintro gl rfl
    obtain ⟨D, hD⟩ : ∃ D, D = visL (k.pend.take i) k.dur := ⟨_, rfl⟩
    rw [← hD] at hfl hvs ⊢
    have hi2 : i * 2 + 0 = i * 2 := rfl
    refine hwKM ?_
    refine HC.anyC ([(⟨bf, 1, none⟩, .slice (some ⟨gl, 0, none⟩) k.pend.length lc), (⟨gl, i * 2, none⟩, zv (off : Int)), (⟨gl, i * 2 + 1, none⟩, .string s)]) rfl ?_
    refine HB.pa 0 rfl ?_
    refine HB.pa 1 rfl ?_
    refine HB.pa 2 rfl ?_ (POp.nilCheck rfl)
    refine HB.pa 3 rfl ?_
    refine HB.ld 4 rfl rfl memD ?_
    refine HB.pa 5 rfl ?_
    refine HB.pa 6 rfl ?_
    refine HB.pa 7 rfl ?_
    refine HB.ld 8 rfl rfl memD ?_
    refine HB.pa 9 rfl ?_
    refine HB.pa 10 rfl ?_ (POp.nilCheck rfl)
    refine HB.pa 11 rfl ?_
    refine HB.ld 12 rfl rfl memD ?_
    refine HB.pa 13 rfl ?_
    refine HB.pa 14 rfl ?_
    refine HB.pa 15 rfl ?_
    refine HB.ld 16 rfl rfl memD ?_
    refine HB.all (by (exact Keep.blk (b := bf) memD rfl (Keep.grow (b := gl) (e := 150) (sz := 2) memD hg1 (Keep.grow (b := gl) (e := 150) (sz := 2) memD hg2 Keep.nil)))) [17] (by kernel_rfl) rfl ⟨⟨_, rfl, ?_⟩, trivial⟩
    refine HP.one ?_
    refine H1.callk (α := Unit) (V := fun _ => .tuple #[]) (I := fun _ => True) (H' := fun _ => A.grow 5 1 a3 c3 k.dur.length (ub (splice D off s.data.toList)) :: rfH bf sa sc (some ⟨gl, 0, none⟩) lc k H) (vs := [_, zv (off : Int), .string s]) rfl rfl
        (fun w' hM => by
          have h := apply_fn (sa := a3) (sc := c3) (D := D) off s (H := rfH bf sa sc (some ⟨gl, 0, none⟩) lc k H) (w0 := w0) (w := w') (by rw [hfl]; exact hM) (by omega) (by omega)
          rw [hfl] at h
          exact h.mono fun v w2 h => ⟨(), trivial, h⟩) ?_
    rintro - -
    apply HB.fold
    refine HB.done (by (exact Keep.blk (b := bf) memD rfl (Keep.grow (b := gl) (e := 150) (sz := 2) memD hg1 (Keep.grow (b := gl) (e := 150) (sz := 2) memD hg2 Keep.nil)))) (by kernel_rfl) ?_
    refine hwKM ?_
    exact HX.again (i + 1) hlt (by show k.pend.length - (i + 1) < k.pend.length - i; omega) esA (by rw [hvs]; exact Hs.refl _)
  · obtain rfl : i = k.pend.length := by omega
    rw [List.take_length]
    refine hwKM ?_
    exact HX.ret1 rfl rfl fun w' hM => ⟨(a3, c3), trivial, rfl, hM⟩
theorem rnew_fn (n : Nat) (h1 : 1 ≤ n) (h2 : n ≤ 100000) (w : World) : Fn Tryz.prog 28 #[zv (n : Int)] w fun v w' => ∃ z : Nat × Option Addr × Nat, True ∧ v = .tuple #[.pointer (some ⟨z.1, 0, none⟩), zv 0] ∧ Mm w (rfH z.1 z.2.1 z.2.2 none 0 (newK n) []) w' := by
  refine enterH (l := [_]) rfl Tryz.ntmps28 rfl ?_
  have h1' : ¬ (n : Int) < 1 := by omega
  have h2' : ¬ (4194304 : Int) < (n : Int) := by omega
  refine hwKM ?_
  refine HL.one (H1.make (l := n) (c := n) rfl rfl rfl rfl rfl (Nat.le_refl _) (by omega) (by omega) rfl (fun b1 => ?_))
  rw [ub_zero]
  refine hwKM ?_
  refine HL.build (cs := [.slice (some ⟨b1, 0, none⟩) n n, .slice none 0 0, .bool false, zv 0]) rfl rfl rfl ?_
  refine hwKM ?_
  refine HL.one (H1.boxAgg (cs := [.slice (some ⟨b1, 0, none⟩) n n, .slice none 0 0, .bool false, zv 0]) rfl rfl (fun bf => ?_))
  refine hwKM ?_
  refine HX.ret2 rfl rfl rfl fun w' hM => ⟨(bf, some ⟨b1, 0, none⟩, n), trivial, rfl, ?_⟩
  have h3 := blkGrow3 (n := n) (sz := 1) (hM.sub (Hs.cons (Pick.there Pick.here) (Hs.cons Pick.here (Hs.nil _)))) (by rw [ub_len, List.length_replicate, Nat.mul_one]) (by omega)
  have h4 := h3.grow0 150 2
  have hl : (newK n).dur.length = n := by show (List.replicate n (0 : UInt8)).length = n; rw [List.length_replicate]
  have h5 := h4.sub (H' := [A.blk bf [.slice (some ⟨b1, 0, none⟩) n n, .slice none 0 0, .bool false, zv 0] 119, A.grow 5 1 (some ⟨b1, 0, none⟩) n n (ub (List.replicate n 0)), A.grow 150 2 none 0 0 []]) (Hs.cons (Pick.there (Pick.there Pick.here)) (Hs.cons (Pick.there Pick.here) (Hs.cons Pick.here (Hs.nil _))))
  have e1 : rfC (some ⟨b1, 0, none⟩) n none 0 (newK n) = [.slice (some ⟨b1, 0, none⟩) n n, .slice none 0 0, .bool false, zv 0] := by
    show [_, _, _, _] = [_, _, _, _]
    rw [hl]; rfl
  show Mm w [A.blk bf (rfC (some ⟨b1, 0, none⟩) n none 0 (newK n)) _, A.grow 5 1 (some ⟨b1, 0, none⟩) n (newK n).dur.length _, _] w'
  rw [e1, hl]
  exact h5
set_option maxHeartbeats 1000000 in
theorem rwrite_fn {w0 w : World} {H : List Atom} {bf sc lc : Nat} {sa la : Option Addr} {k : Dk} (off : Nat) (s : ByteArray) (hM : Mm w0 (rfH bf sa sc la lc k H) w) (hk : k.Ok) (ho : off ≤ 5000000) (hs : s.size ≤ 5000000) :
    Fn Tryz.prog 119 #[.pointer (some ⟨bf, 0, none⟩), zv (off : Int), .string s] w fun v w' => ∃ q : (Option Addr × Nat) × (Option Addr × Nat), True ∧ v = zv (k.write off s).1 ∧ Mm w0 (rfH bf q.1.1 q.1.2 q.2.1 q.2.2 (k.write off s).2 H) w' := by
  have hhi := hk.hi
  have hp := hk.pend
  have hl := hk.left
  refine enterK (l := [_, _, _]) hM rfl Tryz.ntmps119 rfl ?_
  cases hoff : k.off
  rotate_left
  · rw [Dk.write_off hoff]
    have e : rfC sa sc la lc k = [.slice sa k.dur.length sc, .slice la k.pend.length lc, .bool true, zv (k.left : Int)] := by unfold rfC; rw [hoff]
    unfold rfH
    rw [e]
    refine hwKM ?_
    refine HX.ret1 rfl rfl fun w' hM => ⟨((sa, sc), (la, lc)), trivial, rfl, ?_⟩
    show Mm w0 (A.blk bf (rfC sa sc la lc k) _ :: _) w'
    rw [e]; exact hM
  have e : rfC sa sc la lc k = [.slice sa k.dur.length sc, .slice la k.pend.length lc, .bool false, zv (k.left : Int)] := by unfold rfC; rw [hoff]
  by_cases hin : off + s.size ≤ k.dur.length
  rotate_left
  · rw [Dk.write_no hoff hin]
    have hfin : ∀ w', Mm w0 (A.blk bf [.slice sa k.dur.length sc, .slice la k.pend.length lc, .bool false, zv (k.left : Int)] 119 :: A.grow 5 1 sa sc k.dur.length (ub k.dur) :: A.grow 150 2 la lc k.pend.length (pendC k.pend) :: H) w' → ∃ q : (Option Addr × Nat) × (Option Addr × Nat), True ∧ zv 250 = zv 250 ∧ Mm w0 (rfH bf q.1.1 q.1.2 q.2.1 q.2.2 k H) w' := fun w' hM => by
      refine ⟨((sa, sc), (la, lc)), trivial, rfl, ?_⟩
      show Mm w0 (A.blk bf (rfC sa sc la lc k) _ :: _) w'
      rw [e]; exact hM
    unfold rfH
    rw [e]
    by_cases h1 : k.dur.length < off
    · refine hwKM ?_
      exact HX.ret1 rfl rfl fun w' hM => hfin w' hM
    · have h2 : (k.dur.length : Int) - (off : Int) < (s.size : Int) := by omega
      refine hwKM ?_
      exact HX.ret1 rfl rfl fun w' hM => hfin w' hM
  rw [Dk.write_on hoff hin]
  unfold rfH
  rw [e]
  have hpl : (k.pend ++ [(off, s)]).length = k.pend.length + 1 := by rw [List.length_append]; rfl
  refine hwKM ?_
  refine HL.build (cs := [zv (off : Int), .string s]) rfl rfl rfl ?_
  refine hwKM ?_
  refine HL.one (H1.lit (cs := [zv (off : Int), .string s]) rfl rfl rfl rfl rfl rfl (fun b9 => ?_))
  refine hwKM ?_
  refine HL.one (H1.app (sz := 2) (news := [zv (off : Int), .string s]) rfl (by decide) rfl rfl (fun _ _ => by first | ((repeat (first | with_reducible exact Rpl.here | with_reducible apply Rpl.there)); done) | (repeat (first | exact Rpl.here | apply Rpl.there))) rfl (fun w' hM j u hj => ?_) (by intro v hv; rcases List.mem_cons.1 hv with rfl | hv; rfl; rcases List.mem_cons.1 hv with rfl | hv; rfl; cases hv) (by omega) (by decide) rfl (fun a' c' hac => ?_))
  · rw [add_lit, Nat.zero_add]; exact (hM.blk (b := b9) memA).cell hj
  rw [pendC_snoc k.pend (off, s), ← hpl]
  refine hwKM ?_
  refine HL.one (H1.st (b := bf) rfl rfl (by intro _ h; cases h) (by intro _ h; cases h) rplA (by show 1 < 4; decide) ?_)
  obtain ⟨q1, -, q3⟩ := put_parts k off s
  have hfin : ∀ (o : Bool) (l : Int), (k.put off s).off = o → ((k.put off s).left : Int) = l → ∀ w', Mm w0 (A.blk bf [.slice sa k.dur.length sc, .slice a' (k.pend ++ [(off, s)]).length c', .bool o, zv l] 119 :: A.grow 5 1 sa sc k.dur.length (ub k.dur) :: A.grow 150 2 a' c' (k.pend ++ [(off, s)]).length (pendC (k.pend ++ [(off, s)])) :: H) w' → ∃ q : (Option Addr × Nat) × (Option Addr × Nat), True ∧ zv 0 = zv 0 ∧ Mm w0 (rfH bf q.1.1 q.1.2 q.2.1 q.2.2 (k.put off s) H) w' := fun o l h1 h2 w' hM => by
    refine ⟨((sa, sc), (a', c')), trivial, rfl, ?_⟩
    unfold rfH rfC
    rw [q1, q3, h1, h2]
    exact hM
  have hpu : k.put off s = Dk.used { k with pend := k.pend ++ [(off, s)], vis := splice k.vis off s.data.toList } := rfl
  by_cases hl0 : k.left = 0
  · have hl1 : ¬ (0 : Int) < (k.left : Int) := by omega
    have hpo : (k.put off s).off = false ∧ (k.put off s).left = k.left := by rw [hpu, used_zero (k := { k with pend := k.pend ++ [(off, s)], vis := splice k.vis off s.data.toList }) hl0]; exact ⟨hoff, rfl⟩
    refine hwKM ?_
    exact HX.ret1 rfl rfl fun w' hM => hfin false (k.left : Int) hpo.1 (by rw [hpo.2]) w' hM.tail
  · have hl1 : (0 : Int) < (k.left : Int) := by omega
    have hpo : (k.put off s).off = decide (k.left - 1 = 0) ∧ (k.put off s).left = k.left - 1 := by
      rw [hpu]
      unfold Dk.used
      rw [if_neg hl0]
      exact ⟨rfl, rfl⟩
    refine hwKM ?_
    refine HL.one (H1.st (b := bf) rfl rfl (by intro _ h; cases h) (by intro _ h; cases h) rplA (by show 3 < 4; decide) ?_)
    by_cases hl2 : (k.left : Int) - 1 = 0
    · have hd : decide (k.left - 1 = 0) = true := decide_eq_true (by omega)
      rw [hd] at hpo
      refine hwKM ?_
      refine HL.one (H1.st (b := bf) rfl rfl (by intro _ h; cases h) (by intro _ h; cases h) rplA (by show 2 < 4; decide) ?_)
      refine hwKM ?_
      exact HX.ret1 rfl rfl fun w' hM => hfin true ((k.left : Int) - 1) hpo.1 (by rw [hpo.2]; omega) w' hM.tail
    · have hd : decide (k.left - 1 = 0) = false := decide_eq_false (by omega)
      rw [hd] at hpo
      refine hwKM ?_
      exact HX.ret1 rfl rfl fun w' hM => hfin false ((k.left : Int) - 1) hpo.1 (by rw [hpo.2]; omega) w' hM.tail
theorem rsync_fn {w0 w : World} {H : List Atom} {bf sc lc : Nat} {sa la : Option Addr} {k : Dk} (hM : Mm w0 (rfH bf sa sc la lc k H) w) (hk : k.Ok) (hf : k.Fit) (hv : k.Vis) (hN : k.dur.length ≤ 100000) :
    Fn Tryz.prog 120 #[.pointer (some ⟨bf, 0, none⟩)] w fun v w' => ∃ q : (Option Addr × Nat) × (Option Addr × Nat), True ∧ v = zv k.sync.1 ∧ Mm w0 (rfH bf q.1.1 q.1.2 q.2.1 q.2.2 k.sync.2 H) w' := by
  have hlen := hk.len
  refine enterK (l := [_]) hM rfl Tryz.ntmps120 rfl ?_
  cases hoff : k.off
  rotate_left
  · rw [Dk.sync_off hoff]
    refine hwKM ?_
    exact HX.ret1 rfl rfl fun w' hM => ⟨((sa, sc), (la, lc)), trivial, rfl, hM⟩
  · rw [Dk.sync_on hoff]
    refine hnKM ?_
    refine HL.one (H1.callk (α := Option Addr × Nat) (V := fun z => .slice z.1 k.dur.length z.2) (I := fun _ => True) (H' := fun z => A.grow 5 1 z.1 z.2 k.dur.length (ub (visL k.pend k.dur)) :: rfH bf sa sc la lc k H) (vs := [_]) rfl rfl (fun w' hM => visible_fn hM hk hf hN) ?_)
    rintro ⟨a3, c3⟩ -
    dsimp only
    refine hwKM ?_
    refine HL.one (H1.st (b := bf) rfl rfl (by intro _ h; cases h) (by intro _ h; cases h) rplA (by show 0 < 4; decide) ?_)
    refine hwKM ?_
    refine HL.one (H1.st (b := bf) rfl rfl (by intro _ h; cases h) (by intro _ h; cases h) rplA (by show 1 < 4; decide) ?_)
    refine hwKM ?_
    refine HX.ret1 rfl rfl fun w' hM => ⟨((a3, c3), (none, 0)), trivial, rfl, ?_⟩
    have h3 := hM.grow0 150 2
    unfold rfH rfC
    show Mm w0 (A.blk bf [.slice a3 k.vis.length c3, .slice none 0 0, .bool k.off, zv (k.left : Int)] _ :: A.grow _ 1 a3 c3 k.vis.length (ub k.vis) :: A.grow _ 2 none 0 0 [] :: H) w'
    rw [hlen, hv]
    exact h3.sub (Hs.cons (Pick.there (Pick.there Pick.here)) (Hs.cons (Pick.there Pick.here) (Hs.cons Pick.here (Hs.refl _).skip.skip)))
theorem rread_fn {w0 w : World} {H : List Atom} {bf sc lc : Nat} {sa la : Option Addr} {k : Dk} (hM : Mm w0 (rfH bf sa sc la lc k H) w) (hk : k.Ok) (hf : k.Fit) (hv : k.Vis) (hN : k.dur.length ≤ 100000) :
    Fn Tryz.prog 115 #[.pointer (some ⟨bf, 0, none⟩), zv 0, zv (k.dur.length : Int)] w fun v w' => ∃ _ : Unit, True ∧ v = .tuple #[.string (if k.off then mkBA [] else mkBA k.vis), zv (if k.off then 251 else 0)] ∧ Mm w0 (rfH bf sa sc la lc k H) w' := by
  have hlo := hk.lo
  have hlen := hk.len
  refine enterK (l := [_, _, _]) hM rfl Tryz.ntmps115 rfl ?_
  cases hoff : k.off
  rotate_left
  · refine hwKM ?_
    exact HX.ret2 rfl rfl rfl fun w' hM => ⟨(), trivial, rfl, hM⟩
  · have hge : ¬ (k.dur.length : Int) < 0 := by omega
    have hge2 : ¬ (k.dur.length : Int) - 0 < (k.dur.length : Int) := by omega
    refine hwKM ?_
    refine HL.one (H1.callk (α := Option Addr × Nat) (V := fun z => .slice z.1 k.dur.length z.2) (I := fun _ => True) (H' := fun z => A.grow 5 1 z.1 z.2 k.dur.length (ub (visL k.pend k.dur)) :: rfH bf sa sc la lc k H) (vs := [_]) rfl rfl (fun w' hM => visible_fn hM hk hf hN) ?_)
    rintro ⟨a3, c3⟩ -
    dsimp only
    rw [← hv]
    refine HN.openg2 (e := 5) (sz := 1) (a := a3) (c := c3) (n := k.dur.length) (xs := ub k.vis) (.head _) (by omega) ?_
    rintro g rfl
    refine hwKM ?_
    refine HL.growCap (e := 5) (sz := 1) (a := some ⟨g, 0, none⟩) (c := c3) (n := k.dur.length) (xs := ub k.vis) (.head _) fun hcx => ?_
    have e0 : (0 : Int) + (k.dur.length : Int) = (k.dur.length : Int) := by omega
    rw [e0]
    refine HL.pa ?_ (POp.cut_lh rfl rfl rfl (by decide) (by omega) (by omega) (by omega))
    rw [show (k.dur.length : Int).toNat - (0 : Int).toNat = k.dur.length from by omega]
    refine hwKM ?_
    refine HL.one (H1.bstrC (ys := k.vis) rfl (by omega) (fun w' hM => Mm.gr (e := 5) (a := some ⟨g, 0, none⟩) (c := c3) hM (.head _)) rfl ?_)
    refine hwKM ?_
    exact HX.ret2 rfl rfl rfl fun w' hM => ⟨(), trivial, rfl, hM.tail⟩
theorem rcut_fn {w0 w : World} {H : List Atom} {bf sc lc : Nat} {sa la : Option Addr} {k : Dk} (n : Nat) (hM : Mm w0 (rfH bf sa sc la lc k H) w) :
    Fn Tryz.prog 32 #[.pointer (some ⟨bf, 0, none⟩), zv (n : Int)] w fun v w' => ∃ _ : Unit, True ∧ v = zv (k.cut n).1 ∧ Mm w0 (rfH bf sa sc la lc (k.cut n).2 H) w' := by
  refine enterK (l := [_, _]) hM rfl Tryz.ntmps32 rfl ?_
  have hn : ¬ (n : Int) < 0 := by omega
  cases hoff : k.off
  rotate_left
  · rw [Dk.cut_off hoff]
    refine hwKM ?_
    exact HX.ret1 rfl rfl fun w' hM => ⟨(), trivial, rfl, hM⟩
  · rw [Dk.cut_on hoff]
    refine hwKM ?_
    refine HL.one (H1.st (b := bf) rfl rfl (by intro _ h; cases h) (by intro _ h; cases h) rplA (by show 3 < 4; decide) ?_)
    refine hwKM ?_
    refine HL.one (H1.st (b := bf) rfl rfl (by intro _ h; cases h) (by intro _ h; cases h) rplA (by show 2 < 4; decide) ?_)
    refine hwKM ?_
    have hd : decide ((n : Int) = 0) = decide (n = 0) := decide_eq_decide.2 (by omega)
    rw [hd]
    exact HX.ret1 rfl rfl fun w' hM => ⟨(), trivial, rfl, hM⟩
theorem rhas_fn (v : Value) (l : List Int) (n : Int) (hl : l.length ≤ 1000000) (w : World) (hR : Rd w v (ints l)) :
    Fn Tryz.prog 78 #[v, zv n] w fun v w' => v = .bool (l.contains n) ∧ Ext w w' := by
  obtain ⟨a0, c0, rfl, hc0⟩ : ∃ a0 c0, v = .slice a0 l.length c0 ∧ l.length ≤ c0 := by
    obtain ⟨a, c, h1, h2, -⟩ := hR
    rw [ints_len] at h1 h2
    exact ⟨a, c, h1, h2⟩
  refine enterH (l := [_, _]) rfl Tryz.ntmps78 rfl ?_
  refine hwKM ?_
  refine HC.loop (α := Nat) (fun i => [(0, .slice a0 l.length c0), (1, zv n), (5, zv (i : Int))]) (fun _ => []) (fun i => i ≤ l.length ∧ (l.take i).contains n = false) (fun i => l.length - i) 0 ⟨Nat.zero_le _, rfl⟩ esA (Hs.refl _) ?_
  rintro i ⟨hi, hno⟩
  by_cases hlt : i < l.length
  · obtain ⟨b, off, rfl⟩ : ∃ b off, a0 = some ⟨b, off, none⟩ := by
      obtain ⟨a, c, h1, h2, h3⟩ := hR
      rw [ints_len] at h1
      cases h1
      rcases h3 with h3 | ⟨b, off, h4, -⟩
      · have : l = [] := by simpa [ints] using h3
        subst this; cases hlt
      · exact ⟨b, off, h4⟩
    have hget : w.cell? ⟨b, off + i, none⟩ = some (zv l[i]) := hR.cell (by unfold ints; rw [List.getElem?_map, List.getElem?_eq_getElem hlt]; rfl)
    have htk : l.take (i + 1) = l.take i ++ [l[i]] := List.take_succ_eq_append_getElem hlt
    by_cases he : l[i] = n
    · have hyes : l.contains n = true := List.contains_iff_mem.2 (he ▸ List.getElem_mem hlt)
      generalize l[i] = x at hget he
      refine hwKM ?_
      refine HL.one (H1.ld0 rfl hget rfl ?_)
      refine hwKM ?_
      exact HX.ret1 rfl rfl fun w' hM => ⟨by rw [hyes], hM.ext⟩
    · have hno2 : (l.take (i + 1)).contains n = false := by
        rw [htk]
        simp only [List.contains_eq_mem, List.mem_append, List.mem_singleton, decide_eq_false_iff_not] at hno ⊢
        rintro (h | h)
        · exact hno h
        · exact he h.symm
      generalize l[i] = x at hget he
      refine hwKM ?_
      refine HL.one (H1.ld0 rfl hget rfl ?_)
      refine hwKM ?_
      exact HX.again (i + 1) ⟨hlt, hno2⟩ (by show l.length - (i + 1) < l.length - i; omega) esA (Hs.refl _)
  · obtain rfl : i = l.length := by omega
    rw [List.take_length] at hno
    refine hwKM ?_
    exact HX.ret1 rfl rfl fun w' hM => ⟨by rw [hno], hM.ext⟩
theorem crashL_succ (keep : List Int) (n : Nat) : crashL keep (n + 1) = crashL keep n ++ (if keep.contains (n : Int) then [n] else []) := by
  unfold crashL
  rw [List.range_succ, List.filter_append]
  congr 1
  rw [List.filter_cons, List.filter_nil]
theorem pendC_one (x : Nat × ByteArray) : ∀ v ∈ [zv (x.1 : Int), Value.string x.2], v.oneCell' = true := by
  intro v hv
  rcases List.mem_cons.1 hv with rfl | hv
  · rfl
  rcases List.mem_cons.1 hv with rfl | hv
  · rfl
  · cases hv
set_option maxHeartbeats 4000000 in
theorem rcrash_fn {w0 w : World} {H : List Atom} {bf sc lc ck : Nat} {sa la ak : Option Addr} {k : Dk} (keep : List Int) (torn : Int) (ht1 : -9223372036854775808 ≤ torn) (ht2 : torn ≤ 9223372036854775807) (hM : Mm w0 (rfH bf sa sc la lc k H) w) (hk : k.Ok) (hf : k.Fit) (hl : keep.length ≤ 1000)
    (hR : ∀ w', Mm w0 (rfH bf sa sc la lc k H) w' → Rd w' (.slice ak keep.length ck) (ints keep)) :
    Fn Tryz.prog 34 #[.pointer (some ⟨bf, 0, none⟩), .slice ak keep.length ck, zv torn] w fun v w' => ∃ _ : Unit, True ∧ v = .tuple #[] ∧ Mm w0 (rfH bf sa sc none 0 (k.crash keep torn) H) w' := by
  have hpn := hk.pend
  have hhi := hk.hi
  refine enterK (l := [_, _, _]) hM rfl Tryz.ntmps34 rfl ?_
  refine hbKM ?_
  refine HC.grow0 150 2 ?_
  repeat refine HC.seq ?_
  refine HC.cut (α := Option Addr × Nat) (fun q => [(0, .pointer (some ⟨bf, 0, none⟩)), (2, zv torn), (6, .slice q.1 ((crashL keep k.pend.length).map (pendAt k.pend)).length q.2)]) (fun q => A.grow 150 2 q.1 q.2 ((crashL keep k.pend.length).map (pendAt k.pend)).length (pendC ((crashL keep k.pend.length).map (pendAt k.pend))) :: rfH bf sa sc la lc k H) (fun _ => True) ?_ ?_
  · refine HC.block ?_
    refine HC.loop (α := Nat × Option Addr × Nat) (fun z => [(0, .pointer (some ⟨bf, 0, none⟩)), (1, .slice ak keep.length ck), (2, zv torn), (6, .slice z.2.1 ((crashL keep z.1).map (pendAt k.pend)).length z.2.2), (7, zv (z.1 : Int))]) (fun z => A.grow 150 2 z.2.1 z.2.2 ((crashL keep z.1).map (pendAt k.pend)).length (pendC ((crashL keep z.1).map (pendAt k.pend))) :: rfH bf sa sc la lc k H) (fun z => z.1 ≤ k.pend.length) (fun z => k.pend.length - z.1) (0, none, 0) (Nat.zero_le _) esA (Hs.refl _) ?_
    rintro ⟨i, a, c⟩ hi
    dsimp only at hi ⊢
    by_cases hlt : i < k.pend.length
    · obtain ⟨hg1, hg2⟩ := pendC_get2 hlt
      have hcs := crashL_succ keep i
      have hll : (crashL keep i).length ≤ i := by unfold crashL; exact Nat.le_trans (List.length_filter_le _ _) (by rw [List.length_range]; exact Nat.le_refl _)
      have hml : ((crashL keep i).map (pendAt k.pend)).length = (crashL keep i).length := List.length_map ..
      refine HC.openg (e := 150) (sz := 2) (a := la) (c := lc) (n := k.pend.length) (xs := pendC k.pend) (.tail _ (.tail _ (.tail _ (.head _)))) (by omega) ?_
      rintro gl rfl
      cases hct : keep.contains (i : Int)
      · rw [hct] at hcs
        have hcs' : crashL keep (i + 1) = crashL keep i := by rw [hcs]; exact List.append_nil _
        refine hwKM ?_
        refine HL.one (H1.callx (vs := [_, _]) rfl rfl (fun w' hM => rhas_fn _ keep (i : Int) (by omega) w' (hR w' hM.tail)) ?_)
        rw [hct]
        refine hwKM ?_
        exact HX.again (i + 1, a, c) hlt (by show k.pend.length - (i + 1) < k.pend.length - i; omega) (by rw [hcs']; repeat (first | exact trivial | refine ⟨rfl, ?_⟩)) (by rw [hcs']; exact Hs.refl _)
      · rw [hct] at hcs
        have hcs' : (crashL keep (i + 1)).map (pendAt k.pend) = (crashL keep i).map (pendAt k.pend) ++ [pendAt k.pend i] := by rw [hcs, List.map_append]; rfl
        generalize hL2 : (crashL keep (i + 1)).map (pendAt k.pend) = L2 at hcs'
        generalize (crashL keep i).map (pendAt k.pend) = L1 at hcs' hml
        rw [show 2 * i = i * 2 from Nat.mul_comm _ _] at hg1
        rw [show 2 * i + 1 = i * 2 + 1 from by omega] at hg2
        generalize pendAt k.pend i = x at hg1 hg2 hcs'
        have hpl : (L1 ++ [x]).length = L1.length + 1 := by rw [List.length_append]; rfl
        refine hwKM ?_
        refine HL.one (H1.callx (vs := [_, _]) rfl rfl (fun w' hM => rhas_fn _ keep (i : Int) (by omega) w' (hR w' hM.tail)) ?_)
        rw [hct]
        refine hwKM ?_
        obtain ⟨off, s⟩ := x
        dsimp only at hg1 hg2
        refine HL.one (H1.ldAggw (b := gl) (off := i * 2) (vs := [zv (off : Int), .string s]) rfl rfl (fun w' hM j u hu => ?_) rfl ?_)
        · have hown := hM.own (e := 150) (sz := 2) (a := some ⟨gl, 0, none⟩) (c := lc) (xs := pendC k.pend) memA
          match j, hu with
          | 0, hu => cases hu; exact ownsRow_cell hown hg1
          | 1, hu => cases hu; exact ownsRow_cell hown hg2
          | j + 2, hu => cases hu
        refine hwKM ?_
        refine HL.one (H1.lit (cs := [zv (off : Int), .string s]) rfl rfl rfl rfl rfl rfl (fun b9 => ?_))
        refine hwKM ?_
        refine HL.one (H1.app (sz := 2) (news := [zv (off : Int), .string s]) rfl (by decide) rfl rfl (fun _ _ => by first | ((repeat (first | with_reducible exact Rpl.here | with_reducible apply Rpl.there)); done) | (repeat (first | exact Rpl.here | apply Rpl.there))) rfl (fun w' hM j u hj => ?_) (pendC_one (off, s)) (by omega) (by decide) rfl (fun a' c' hac => ?_))
        · rw [add_lit, Nat.zero_add]; exact (hM.blk (b := b9) memA).cell hj
        rw [pendC_snoc L1 (off, s), ← hcs']
        rw [← hcs'] at hpl
        rw [← hpl]
        refine hwKM ?_
        exact HX.again (i + 1, a', c') hlt (by show k.pend.length - (i + 1) < k.pend.length - i; omega) (by rw [hL2]; repeat (first | exact trivial | refine ⟨rfl, ?_⟩)) (by rw [hL2]; exact (Hs.refl _).skip)
    · obtain rfl : i = k.pend.length := by omega
      refine hwKM ?_
      exact HX.cut (a, c) trivial esA (Hs.refl _)
  rintro ⟨a, c⟩ -
  dsimp only
  obtain ⟨L, hL⟩ : ∃ L, L = crashL keep k.pend.length := ⟨_, rfl⟩
  obtain ⟨S, hS⟩ : ∃ S, S = L.map (pendAt k.pend) := ⟨_, rfl⟩
  rw [← hL, ← hS]
  have hcr : (k.crash keep torn).dur = applyL k.pend torn L k.dur := by show applyL k.pend torn (crashL keep k.pend.length) k.dur = _; rw [← hL]
  have hcrl := crash_len hf keep torn
  have hLlt : ∀ i ∈ L, i < k.pend.length := fun i hi => crashL_lt (by rw [← hL]; exact hi)
  have hSl : S.length = L.length := by rw [hS, List.length_map]
  have hSn : S.length ≤ 10000 := by
    have : L.length ≤ k.pend.length := by rw [hL]; unfold crashL; exact Nat.le_trans (List.length_filter_le _ _) (by rw [List.length_range]; exact Nat.le_refl _)
    omega
  refine hbKM ?_
  repeat refine HC.seq ?_
  refine HC.cut (α := Unit) (fun _ => [(0, .pointer (some ⟨bf, 0, none⟩))]) (fun _ => rfH bf sa sc la lc { k with dur := (k.crash keep torn).dur } H) (fun _ => True) ?_ ?_
  · refine HC.block ?_
    refine HC.loop (α := Nat × List UInt8) (fun z => [(0, .pointer (some ⟨bf, 0, none⟩)), (2, zv torn), (6, .slice a S.length c), (8, zv (z.1 : Int))]) (fun z => A.grow 150 2 a c S.length (pendC S) :: rfH bf sa sc la lc { k with dur := z.2 } H)
      (fun z => z.1 ≤ S.length ∧ applyL k.pend torn (L.drop z.1) z.2 = (k.crash keep torn).dur ∧ z.2.length = k.dur.length) (fun z => S.length - z.1) (0, k.dur) ⟨Nat.zero_le _, hcr.symm, rfl⟩ esA (Hs.refl _) ?_
    rintro ⟨i, D⟩ ⟨hi, happ, hDl⟩
    dsimp only at hi happ hDl ⊢
    by_cases hlt : i < S.length
    · have hltL : i < L.length := by omega
      obtain ⟨i0, hi0⟩ : ∃ i0, L[i]? = some i0 := ⟨_, List.getElem?_eq_getElem hltL⟩
      have hi0lt : i0 < k.pend.length := hLlt i0 (List.mem_of_getElem? hi0)
      have hdr : L.drop i = i0 :: L.drop (i + 1) := by
        rw [List.drop_eq_getElem_cons hltL]
        congr 1
        rw [List.getElem?_eq_getElem hltL] at hi0
        exact Option.some.inj hi0
      have hpS : pendAt S i = pendAt k.pend i0 := by
        rw [hS]
        show ((L.map (pendAt k.pend)).getD i (0, ByteArray.mk #[])) = _
        rw [List.getD_eq_getElem?_getD, List.getElem?_map, hi0]; rfl
      have hpm := hf _ (pendAt_mem hi0lt)
      obtain ⟨hg1, hg2⟩ := pendC_get2 hlt
      rw [hpS] at hg1 hg2
      rw [show 2 * i = i * 2 from Nat.mul_comm _ _] at hg1
      rw [show 2 * i + 1 = i * 2 + 1 from by omega] at hg2
      rw [hdr] at happ
      have hunf : applyL k.pend torn (i0 :: L.drop (i + 1)) D = applyL k.pend torn (L.drop (i + 1)) (splice D (pendAt k.pend i0).1 (tornS torn (L.drop (i + 1)).isEmpty (pendAt k.pend i0).2).data.toList) := rfl
      rw [hunf] at happ
      have hts := tornS_size torn (L.drop (i + 1)).isEmpty (pendAt k.pend i0).2
      have hlast : (L.drop (i + 1)).isEmpty = decide (i + 1 = S.length) := by
        by_cases h : i + 1 = S.length
        · rw [List.drop_of_length_le (by omega), decide_eq_true h]; rfl
        · rw [decide_eq_false h]
          have : L.drop (i + 1) ≠ [] := by
            intro e
            have := congrArg List.length e
            rw [List.length_drop] at this
            simp at this; omega
          cases hx : L.drop (i + 1) with
          | nil => exact absurd hx this
          | cons _ _ => rfl
      generalize (pendAt k.pend i0).1 = off at hg1 happ hpm
      generalize (pendAt k.pend i0).2 = s at hg2 happ hts hpm
      obtain ⟨s', hs'⟩ : ∃ s', s' = tornS torn (L.drop (i + 1)).isEmpty s := ⟨_, rfl⟩
      rw [← hs'] at happ hts
      rw [hlast] at hs'
      have hs'l : s'.data.toList.length = s'.size := by rw [Array.length_toList]; rfl
      have hspl : (splice D off s'.data.toList).length = D.length := splice_len (by omega)
      have hrf : rfC sa sc la lc { k with dur := splice D off s'.data.toList } = rfC sa sc la lc { k with dur := D } := by unfold rfC; rw [hspl]
      have hkeep : ¬ (i + 1 = S.length ∧ 0 ≤ torn ∧ torn < (s.size : Int)) → s' = s := fun hn => by
        rw [hs']
        unfold tornS
        split
        · rename_i h
          have h1 : i + 1 = S.length := of_decide_eq_true h.1
          have h2 : min torn (s.size : Int) = (s.size : Int) := by omega
          rw [h2, Int.toNat_natCast, ByteArray.extract_zero_size]
        · rfl
      refine HC.openg (e := 150) (sz := 2) (a := a) (c := c) (n := S.length) (xs := pendC S) (.head _) (by omega) ?_
      rintro gp rfl
      by_cases hla : (i : Int) = (S.length : Int) - 1
      · by_cases htn : 0 ≤ torn
        · by_cases hlt2 : torn < (s.size : Int)
          · have hse : s' = s.extract 0 torn.toNat := by
              rw [hs']; unfold tornS
              rw [if_pos ⟨decide_eq_true (by omega), htn⟩, show min torn (s.size : Int) = torn from by omega]
            refine hwKM ?_
            refine HL.one (H1.ldg rfl (.head _) hg2 rfl ?_)
            refine hwKM ?_
            rw [← hse]
            refine hwKM ?_
            refine HC.anyC ([(⟨bf, 0, none⟩, .slice sa D.length sc), (⟨gp, i * 2, none⟩, zv (off : Int))]) rfl ?_
            refine HB.pa 0 rfl ?_
            refine HB.pa 1 rfl ?_ (POp.nilCheck rfl)
            refine HB.pa 2 rfl ?_
            refine HB.ld 3 rfl rfl memD ?_
            refine HB.pa 4 rfl ?_
            refine HB.pa 5 rfl ?_
            refine HB.pa 6 rfl ?_
            refine HB.pa 7 rfl ?_
            refine HB.ld 8 rfl rfl memD ?_
            refine HB.pa 9 rfl ?_
            refine HB.all (by (exact Keep.blk (b := bf) memD rfl (Keep.grow (b := gp) (e := 150) (sz := 2) memD hg1 Keep.nil))) [10] (by kernel_rfl) rfl ⟨⟨_, rfl, ?_⟩, trivial⟩
            refine HP.one ?_
            refine H1.callk (α := Unit) (V := fun _ => .tuple #[]) (I := fun _ => True) (H' := fun _ => A.grow 5 1 sa sc D.length (ub (splice D off s'.data.toList)) :: A.blk bf (rfC sa sc la lc { k with dur := D }) 119 :: A.grow 150 2 la lc k.pend.length (pendC k.pend) :: A.grow 150 2 (some ⟨gp, 0, none⟩) c S.length (pendC S) :: H) (vs := [_, _, .string s']) rfl rfl
                (fun w' hM => (apply_fn (D := D) off s' (hM.sub (Hs.cons (Pick.there (Pick.there Pick.here)) (Hs.cons (Pick.there Pick.here) (Hs.cons (Pick.there Pick.here) (Hs.cons Pick.here (Hs.refl _)))))) (by omega) (by omega)).mono fun v w2 h => ⟨(), trivial, h⟩) ?_
            rintro - -
            apply HB.fold
            refine HB.done (by (exact Keep.blk (b := bf) memD rfl (Keep.grow (b := gp) (e := 150) (sz := 2) memD hg1 Keep.nil))) (by kernel_rfl) ?_
            refine hwKM ?_
            exact HX.again (i + 1, splice D off s'.data.toList) ⟨hlt, happ, by rw [hspl]; exact hDl⟩ (by show S.length - (i + 1) < S.length - i; omega) esA (by dsimp only; unfold rfH; rw [hrf]; dsimp only; rw [hspl]; exact Hs.cons (Pick.there (Pick.there (Pick.there Pick.here))) (Hs.cons (Pick.there Pick.here) (Hs.cons Pick.here (Hs.cons Pick.here (Hs.refl _)))))
          · obtain rfl := hkeep (by omega)
            refine hwKM ?_
            refine HL.one (H1.ldg rfl (.head _) hg2 rfl ?_)
            refine hwKM ?_
            refine HC.anyC ([(⟨bf, 0, none⟩, .slice sa D.length sc), (⟨gp, i * 2, none⟩, zv (off : Int))]) rfl ?_
            refine HB.pa 0 rfl ?_
            refine HB.pa 1 rfl ?_ (POp.nilCheck rfl)
            refine HB.pa 2 rfl ?_
            refine HB.ld 3 rfl rfl memD ?_
            refine HB.pa 4 rfl ?_
            refine HB.pa 5 rfl ?_
            refine HB.pa 6 rfl ?_
            refine HB.pa 7 rfl ?_
            refine HB.ld 8 rfl rfl memD ?_
            refine HB.pa 9 rfl ?_
            refine HB.all (by (exact Keep.blk (b := bf) memD rfl (Keep.grow (b := gp) (e := 150) (sz := 2) memD hg1 Keep.nil))) [10] (by kernel_rfl) rfl ⟨⟨_, rfl, ?_⟩, trivial⟩
            refine HP.one ?_
            refine H1.callk (α := Unit) (V := fun _ => .tuple #[]) (I := fun _ => True) (H' := fun _ => A.grow 5 1 sa sc D.length (ub (splice D off s'.data.toList)) :: A.blk bf (rfC sa sc la lc { k with dur := D }) 119 :: A.grow 150 2 la lc k.pend.length (pendC k.pend) :: A.grow 150 2 (some ⟨gp, 0, none⟩) c S.length (pendC S) :: H) (vs := [_, _, .string s']) rfl rfl
                (fun w' hM => (apply_fn (D := D) off s' (hM.sub (Hs.cons (Pick.there (Pick.there Pick.here)) (Hs.cons (Pick.there Pick.here) (Hs.cons (Pick.there Pick.here) (Hs.cons Pick.here (Hs.refl _)))))) (by omega) (by omega)).mono fun v w2 h => ⟨(), trivial, h⟩) ?_
            rintro - -
            apply HB.fold
            refine HB.done (by (exact Keep.blk (b := bf) memD rfl (Keep.grow (b := gp) (e := 150) (sz := 2) memD hg1 Keep.nil))) (by kernel_rfl) ?_
            refine hwKM ?_
            exact HX.again (i + 1, splice D off s'.data.toList) ⟨hlt, happ, by rw [hspl]; exact hDl⟩ (by show S.length - (i + 1) < S.length - i; omega) esA (by dsimp only; unfold rfH; rw [hrf]; dsimp only; rw [hspl]; exact Hs.cons (Pick.there (Pick.there (Pick.there Pick.here))) (Hs.cons (Pick.there Pick.here) (Hs.cons Pick.here (Hs.cons Pick.here (Hs.refl _)))))
        · obtain rfl := hkeep (by omega)
          refine hwKM ?_
          refine HL.one (H1.ldg rfl (.head _) hg2 rfl ?_)
          refine hwKM ?_
          refine HC.anyC ([(⟨bf, 0, none⟩, .slice sa D.length sc), (⟨gp, i * 2, none⟩, zv (off : Int))]) rfl ?_
          refine HB.pa 0 rfl ?_
          refine HB.pa 1 rfl ?_ (POp.nilCheck rfl)
          refine HB.pa 2 rfl ?_
          refine HB.ld 3 rfl rfl memD ?_
          refine HB.pa 4 rfl ?_
          refine HB.pa 5 rfl ?_
          refine HB.pa 6 rfl ?_
          refine HB.pa 7 rfl ?_
          refine HB.ld 8 rfl rfl memD ?_
          refine HB.pa 9 rfl ?_
          refine HB.all (by (exact Keep.blk (b := bf) memD rfl (Keep.grow (b := gp) (e := 150) (sz := 2) memD hg1 Keep.nil))) [10] (by kernel_rfl) rfl ⟨⟨_, rfl, ?_⟩, trivial⟩
          refine HP.one ?_
          refine H1.callk (α := Unit) (V := fun _ => .tuple #[]) (I := fun _ => True) (H' := fun _ => A.grow 5 1 sa sc D.length (ub (splice D off s'.data.toList)) :: A.blk bf (rfC sa sc la lc { k with dur := D }) 119 :: A.grow 150 2 la lc k.pend.length (pendC k.pend) :: A.grow 150 2 (some ⟨gp, 0, none⟩) c S.length (pendC S) :: H) (vs := [_, _, .string s']) rfl rfl
              (fun w' hM => (apply_fn (D := D) off s' (hM.sub (Hs.cons (Pick.there (Pick.there Pick.here)) (Hs.cons (Pick.there Pick.here) (Hs.cons (Pick.there Pick.here) (Hs.cons Pick.here (Hs.refl _)))))) (by omega) (by omega)).mono fun v w2 h => ⟨(), trivial, h⟩) ?_
          rintro - -
          apply HB.fold
          refine HB.done (by (exact Keep.blk (b := bf) memD rfl (Keep.grow (b := gp) (e := 150) (sz := 2) memD hg1 Keep.nil))) (by kernel_rfl) ?_
          refine hwKM ?_
          exact HX.again (i + 1, splice D off s'.data.toList) ⟨hlt, happ, by rw [hspl]; exact hDl⟩ (by show S.length - (i + 1) < S.length - i; omega) esA (by dsimp only; unfold rfH; rw [hrf]; dsimp only; rw [hspl]; exact Hs.cons (Pick.there (Pick.there (Pick.there Pick.here))) (Hs.cons (Pick.there Pick.here) (Hs.cons Pick.here (Hs.cons Pick.here (Hs.refl _)))))
      · obtain rfl := hkeep (by omega)
        refine hwKM ?_
        refine HL.one (H1.ldg rfl (.head _) hg2 rfl ?_)
        refine hwKM ?_
        refine HC.anyC ([(⟨bf, 0, none⟩, .slice sa D.length sc), (⟨gp, i * 2, none⟩, zv (off : Int))]) rfl ?_
        refine HB.pa 0 rfl ?_
        refine HB.pa 1 rfl ?_ (POp.nilCheck rfl)
        refine HB.pa 2 rfl ?_
        refine HB.ld 3 rfl rfl memD ?_
        refine HB.pa 4 rfl ?_
        refine HB.pa 5 rfl ?_
        refine HB.pa 6 rfl ?_
        refine HB.pa 7 rfl ?_
        refine HB.ld 8 rfl rfl memD ?_
        refine HB.pa 9 rfl ?_
        refine HB.all (by (exact Keep.blk (b := bf) memD rfl (Keep.grow (b := gp) (e := 150) (sz := 2) memD hg1 Keep.nil))) [10] (by kernel_rfl) rfl ⟨⟨_, rfl, ?_⟩, trivial⟩
        refine HP.one ?_
        refine H1.callk (α := Unit) (V := fun _ => .tuple #[]) (I := fun _ => True) (H' := fun _ => A.grow 5 1 sa sc D.length (ub (splice D off s'.data.toList)) :: A.blk bf (rfC sa sc la lc { k with dur := D }) 119 :: A.grow 150 2 la lc k.pend.length (pendC k.pend) :: A.grow 150 2 (some ⟨gp, 0, none⟩) c S.length (pendC S) :: H) (vs := [_, _, .string s']) rfl rfl
            (fun w' hM => (apply_fn (D := D) off s' (hM.sub (Hs.cons (Pick.there (Pick.there Pick.here)) (Hs.cons (Pick.there Pick.here) (Hs.cons (Pick.there Pick.here) (Hs.cons Pick.here (Hs.refl _)))))) (by omega) (by omega)).mono fun v w2 h => ⟨(), trivial, h⟩) ?_
        rintro - -
        apply HB.fold
        refine HB.done (by (exact Keep.blk (b := bf) memD rfl (Keep.grow (b := gp) (e := 150) (sz := 2) memD hg1 Keep.nil))) (by kernel_rfl) ?_
        refine hwKM ?_
        exact HX.again (i + 1, splice D off s'.data.toList) ⟨hlt, happ, by rw [hspl]; exact hDl⟩ (by show S.length - (i + 1) < S.length - i; omega) esA (by dsimp only; unfold rfH; rw [hrf]; dsimp only; rw [hspl]; exact Hs.cons (Pick.there (Pick.there (Pick.there Pick.here))) (Hs.cons (Pick.there Pick.here) (Hs.cons Pick.here (Hs.cons Pick.here (Hs.refl _)))))
    · obtain rfl : i = S.length := by omega
      rw [hSl, List.drop_length] at happ
      have happ' : D = (k.crash keep torn).dur := happ
      refine hwKM ?_
      exact HX.cut () trivial esA (by rw [← happ']; exact (Hs.refl _).skip)
  rintro - -
  refine hwKM ?_
  refine HL.one (H1.st (b := bf) rfl rfl (by intro _ h; cases h) (by intro _ h; cases h) rplA (by show 1 < 4; decide) ?_)
  refine hwKM ?_
  refine HL.one (H1.st (b := bf) rfl rfl (by intro _ h; cases h) (by intro _ h; cases h) rplA (by show 2 < 4; decide) ?_)
  refine hwKM ?_
  refine HL.one (H1.st (b := bf) rfl rfl (by intro _ h; cases h) (by intro _ h; cases h) rplA (by show 3 < 4; decide) ?_)
  refine hwKM ?_
  refine HX.end0 rfl fun w' hM => ⟨(), trivial, rfl, ?_⟩
  have h3 := hM.grow0 150 2
  exact h3.sub (Hs.cons (Pick.there Pick.here) (Hs.cons (Pick.there Pick.here) (Hs.cons Pick.here (Hs.refl _).skip)))
end Go.Sx
/- Plain, chapters 1 and 26: what is read back is what would be written; and the reference's numbers and strings: the walks. -/
namespace Go.Sx
open Go
theorem hwKQ {G G2 : Prop} (x : G2) (hwq : Hold G2 → G := by
    intro hQq
    repeat' (first | refine HL.pa ?_ (POp.nilCheck rfl) | apply HL.fold | apply HA.fold | apply HL.nil | apply HX.n_then | apply HC.seq | apply HC.region | refine HL.pa ?_ | refine HL.ga rfl ?_ | refine HL.na rfl ?_ | refine HL.nu rfl rfl ?_ | apply HC.block | apply HC.skip | apply HC.exit | apply HC.ret | apply HX.e_block | refine HX.e_other rfl ?_ | apply HX.e_then | apply HX.e_again | apply HX.n_block | apply HX.r_then | apply HX.r_block | apply HX.r_again | refine HC.cond_yes rfl ?_ | refine HC.cond_no rfl ?_ | refine HL.one (H1.ldb rfl memA rfl rfl ?_) | refine HC.cond rfl (fun hc => ?_) (fun hc => ?_) | refine HC.cond_b rfl (fun hc => ?_) (fun hc => ?_))
    exact hQq.get) : G := hwq ⟨x⟩
theorem hnKQ {G G2 : Prop} (x : G2) (hwq : Hold G2 → G := by
    intro hQq
    repeat' (first | refine HL.pa ?_ (POp.nilCheck rfl) | apply HL.fold | apply HA.fold | apply HL.nil | apply HX.n_then | apply HC.seq | apply HC.region | refine HL.pa ?_ | refine HL.ga rfl ?_ | refine HL.na rfl ?_ | refine HL.nu rfl rfl ?_ | apply HC.block | apply HC.skip | apply HC.exit | apply HC.ret | apply HX.e_block | refine HX.e_other rfl ?_ | apply HX.e_then | apply HX.e_again | apply HX.n_block | apply HX.r_then | apply HX.r_block | apply HX.r_again | refine HC.cond_yes rfl ?_ | refine HC.cond_no rfl ?_ | refine HL.one (H1.ldb rfl memA rfl rfl ?_))
    exact hQq.get) : G := hwq ⟨x⟩
/-- The bytes that were read, each of them with another one behind it. -/
def Pre (s : List UInt8) (p i z : Nat) : Prop := z < 2 ^ (7 * i) ∧ p + i ≤ s.length ∧ ∀ v, 1 ≤ v → vint (z + v * 2 ^ (7 * i)) = (s.drop p).take i ++ vint v
theorem pre0 {s : List UInt8} {p : Nat} (h : p ≤ s.length) : Pre s p 0 0 := ⟨by decide, h, fun v _ => by simp⟩
theorem take_drop_snoc {s : List UInt8} {p i : Nat} (h : p + i < s.length) : (s.drop p).take (i + 1) = (s.drop p).take i ++ [s.getD (p + i) 0] := by
  rw [List.take_add_one, List.getElem?_drop, List.getElem?_eq_getElem h]
  simp [h]
theorem pow7 (i : Nat) : 2 ^ (7 * (i + 1)) = 128 * 2 ^ (7 * i) := by rw [Nat.mul_add, Nat.pow_add, Nat.mul_comm]
theorem Pre.next {s : List UInt8} {p i z : Nat} (h : Pre s p i z) (hp : p + i < s.length) (hb : 128 ≤ (s.getD (p + i) 0).toNat) : Pre s p (i + 1) (z + (s.getD (p + i) 0).toNat % 128 * 2 ^ (7 * i)) := by
  obtain ⟨h1, h2, h3⟩ := h
  obtain ⟨b, hbd⟩ : ∃ b, b = (s.getD (p + i) 0).toNat := ⟨_, rfl⟩
  have hbl : b < 256 := by rw [hbd]; exact UInt8.toNat_lt _
  rw [← hbd] at hb ⊢
  have hpw := pow7 i
  have hmul : b % 128 * 2 ^ (7 * i) ≤ 127 * 2 ^ (7 * i) := Nat.mul_le_mul_right _ (by omega)
  refine ⟨by omega, by omega, fun v hv => ?_⟩
  have e : z + b % 128 * 2 ^ (7 * i) + v * 2 ^ (7 * (i + 1)) = z + (b % 128 + 128 * v) * 2 ^ (7 * i) := by
    rw [hpw, Nat.add_mul, ← Nat.mul_assoc, Nat.mul_comm v 128, Nat.add_assoc]
  rw [e, h3 _ (by omega), vint_ge (by omega), take_drop_snoc hp, List.append_assoc]
  congr 1
  have e1 : (b % 128 + 128 * v) % 128 + 128 = b := by omega
  have e2 : (b % 128 + 128 * v) / 128 = v := by omega
  rw [e1, e2]
  show UInt8.ofNat b :: vint v = s.getD (p + i) 0 :: vint v
  congr 1
  rw [hbd]; simp
theorem Pre.last {s : List UInt8} {p i z : Nat} (h : Pre s p i z) (hp : p + i < s.length) (hb : ¬ 128 ≤ (s.getD (p + i) 0).toNat) :
    vint (z + (s.getD (p + i) 0).toNat % 128 * 2 ^ (7 * i)) = (s.drop p).take (i + 1) ↔ ¬ ((s.getD (p + i) 0).toNat = 0 ∧ 0 < i) := by
  obtain ⟨h1, h2, h3⟩ := h
  have hts := take_drop_snoc hp
  obtain ⟨b, hbd⟩ : ∃ b, b = (s.getD (p + i) 0).toNat := ⟨_, rfl⟩
  rw [← hbd] at hb ⊢
  have hof : UInt8.ofNat b = s.getD (p + i) 0 := by rw [hbd]; simp
  have hm : b % 128 = b := Nat.mod_eq_of_lt (by omega)
  rw [hm]
  by_cases hb0 : b = 0
  · rw [hb0, Nat.zero_mul, Nat.add_zero]
    cases i with
    | zero =>
      have hz : z = 0 := by simp at h1; exact h1
      refine ⟨fun _ h => by omega, fun _ => ?_⟩
      rw [hts, hz, vint_lt (by decide), List.take_zero, List.nil_append, ← hof, hb0]
    | succ i =>
      refine ⟨fun e => ?_, fun h => absurd ⟨rfl, Nat.succ_pos _⟩ h⟩
      have h4 := vint_len i z (by rw [show (128 : Nat) = 2 ^ 7 from rfl, ← Nat.pow_mul]; exact h1)
      have h5 := congrArg List.length e
      rw [List.length_take, List.length_drop] at h5
      omega
  · refine ⟨fun _ h => hb0 h.1, fun _ => ?_⟩
    rw [h3 b (by omega), hts, vint_lt (by omega), hof]
/-- What is read back is what would be written. -/
theorem decG_canon {s : List UInt8} {p : Nat} : ∀ (k i z : Nat), 9 - i ≤ k → Pre s p i z → ∀ {x : Nat × Nat}, decG s p i z = some x → vint x.1 = (s.drop p).take (x.2 - p) ∧ x.2 ≤ s.length
  | 0, i, z, hk, _, x, h => by
    rw [decG, dif_neg (by omega)] at h; cases h
  | k + 1, i, z, hk, hpre, x, h => by
    by_cases hi : i < 9
    · by_cases hp : p + i < s.length
      · by_cases hb : 128 ≤ (s.getD (p + i) 0).toNat
        · rw [decG_on hi hp hb] at h
          exact decG_canon k (i + 1) _ (by omega) (hpre.next hp hb) h
        · by_cases hn : ((s.getD (p + i) 0).toNat = 0 ∧ 0 < i) ∨ unz (z + (s.getD (p + i) 0).toNat % 128 * 2 ^ (7 * i)) < -4611686018427387903
          · rw [decG_no hi hp hb hn] at h; cases h
          · rw [decG_yes hi hp hb hn] at h
            cases h
            have hl := (hpre.last hp hb).2 fun h => hn (.inl h)
            refine ⟨?_, hp⟩
            show vint _ = (s.drop p).take (p + i + 1 - p)
            rw [show p + i + 1 - p = i + 1 from by omega]
            exact hl
      · rw [decG_end hp] at h; cases h
    · rw [decG, dif_neg hi] at h; cases h
theorem unz_ev {z : Nat} (h : 0 ≤ unz z) : z = 2 * (unz z).toNat := by
  unfold unz at h ⊢
  by_cases h2 : z % 2 = 0
  · rw [if_pos h2] at h ⊢; omega
  · rw [if_neg h2] at h; omega
theorem decS_canon {s : List UInt8} {p : Nat} (hp : p ≤ s.length) {r : List UInt8} {q : Nat} (h : decS s p = some (r, q)) : (s.drop p).take (q - p) = putN r.length ++ r := by
  unfold decS at h
  cases hd : decI s p with
  | none => rw [hd] at h; cases h
  | some x =>
    obtain ⟨z, q0⟩ := x
    rw [hd] at h
    dsimp only at h
    have hq := decG_le 9 0 0 (by omega) hd
    dsimp only at hq
    have hc := decG_canon 9 0 0 (by omega) (pre0 hp) hd
    dsimp only at hc
    split at h
    · cases h
    · rename_i hn
      simp only [Option.some.injEq, Prod.mk.injEq] at h
      obtain ⟨rfl, rfl⟩ := h
      have he := unz_ev (z := z) (by omega)
      have hrl : ((s.drop q0).take (unz z).toNat).length = (unz z).toNat := by
        rw [List.length_take, List.length_drop]; omega
      rw [hrl]
      unfold putN
      rw [← he, hc.1, show q0 + (unz z).toNat - p = (q0 - p) + (unz z).toNat from by omega, List.take_add, List.drop_drop, show p + (q0 - p) = q0 from by omega]
/-- A record is as it was stored exactly if its head is. -/
theorem rec_eq {s : List UInt8} {t : Tp} {r : List UInt8} {q : Nat} (h0 : t.size < s.length) (h1 : s.getD t.size 0 = 1) (hd : decS s (t.size + 1) = some (r, q)) (_hq : q + 32 ≤ s.length) :
    outL t.head (mkBA r) = (s.drop t.size).take (q + 32 - t.size) ↔ (s.drop q).take 32 = (chainS t.head (mkBA r)).data.toList := by
  have hle := decS_le hd
  have hc := decS_canon (by omega) hd
  have e : (s.drop t.size).take (q + 32 - t.size) = 1 :: (putN r.length ++ r ++ (s.drop q).take 32) := by
    rw [List.drop_eq_getElem_cons h0, show q + 32 - t.size = (q - (t.size + 1) + 32) + 1 from by omega, List.take_succ_cons, List.take_add, hc, List.drop_drop, show t.size + 1 + (q - (t.size + 1)) = q from by omega]
    rw [List.getD_eq_getElem?_getD, List.getElem?_eq_getElem h0] at h1
    congr 1
  have hs : (mkBA r).size = r.length := by show r.toArray.size = _; rw [List.size_toArray]
  have ho : outL t.head (mkBA r) = 1 :: (putN r.length ++ r ++ (chainS t.head (mkBA r)).data.toList) := by unfold outL; rw [hs]; rfl
  rw [e, ho]
  constructor
  · intro h
    injection h with _ h
    exact (List.append_cancel_left h).symm
  · intro h; rw [h]
theorem unz_hi {z : Nat} (h : z < 9223372036854775808) : unz z ≤ 4611686018427387903 ∧ -4611686018427387904 ≤ unz z := by
  unfold unz; split <;> omega
end Go.Sx
/- Chapter 1: the reference's numbers and strings: the walks. -/
namespace Go.Sx
open Go Go.Proofs Go.RowKit
/-- The reference's numbers, written. -/
def refIntV (z : Nat) : Value := if unz z < -4611686018427387903 then .tuple #[.string (mkBA []), zv 10] else .tuple #[.string (mkBA (vint z)), zv 0]
theorem HX.ret3 {P : Program} {N : Nat} {E : Env} {w0 : World} {H : List Atom} {fn : Func} {t1 t2 t3 : Nat} {v1 v2 v3 : Value} {R : Value → World → Prop} (hr : fn.results = #[.tmp t1, .tmp t2, .tmp t3]) (h1 : Env.g E t1 = some v1) (h2 : Env.g E t2 = some v2) (h3 : Env.g E t3 = some v3) (h : ∀ w, Mm w0 H w → R (.tuple #[v1, v2, v3]) w) :
    HX N [] .ret (bodyPost P fn (RetP R)) E w0 H := fun w hM => WX.ret3 (P := P) hr h1 h2 h3 (h w hM)
attribute [local irreducible] WC WL WX POp Then Again Fn NX W1 WA WO QL RP RA Yld LoopAt HC HL HX HN H1 HA HO HQ HB HP A.blk A.grow A.rd A.obj A.mp AgainH CutH
theorem zigzagZ_fn (z : Nat) (hz : z < 9223372036854775808) (w : World) : Fn Tryz.prog 164 #[zv (unz z)] w fun v w' => v = .int .u64 (z : Int) ∧ w = w' := by
  refine enter (l := [_]) rfl Tryz.ntmps164 rfl ?_
  by_cases h : z % 2 = 0
  · have hu : unz z = ((z / 2 : Nat) : Int) := by unfold unz; rw [if_pos h]
    have h0 : ¬ ((z / 2 : Nat) : Int) < 0 := by omega
    have e : z / 2 * 2 = z := by omega
    rw [hu]
    repeat' (first | apply WL.fold | apply WA.fold | apply WL.nil | apply WX.n_then | apply WC.seq | apply WC.region | refine WL.pa ?_ | refine WL.ga rfl ?_ | refine WL.na rfl ?_ | refine WL.nu rfl rfl ?_ | apply WC.block | apply WC.skip | apply WC.exit | apply WC.ret | apply WX.e_block | refine WX.e_other rfl ?_ | apply WX.e_then | apply WX.e_again | apply WX.n_block | apply WX.r_then | apply WX.r_block | apply WX.r_again | refine WC.cond_yes rfl ?_ | refine WC.cond_no rfl ?_ | refine WC.cond rfl (fun hc => ?_) (fun hc => ?_) | refine WC.cond_b rfl (fun hc => ?_) (fun hc => ?_))
    refine WL.pa ?_ ((POp.conv (k' := .u64) rfl).of (v' := .int .u64 ((z / 2 : Nat) : Int)) (by rw [wrap_u64 (by omega)]))
    repeat' (first | apply WL.fold | apply WA.fold | apply WL.nil | apply WX.n_then | apply WC.seq | apply WC.region | refine WL.pa ?_ | refine WL.ga rfl ?_ | refine WL.na rfl ?_ | refine WL.nu rfl rfl ?_ | apply WC.block | apply WC.skip | apply WC.exit | apply WC.ret | apply WX.e_block | refine WX.e_other rfl ?_ | apply WX.e_then | apply WX.e_again | apply WX.n_block | apply WX.r_then | apply WX.r_block | apply WX.r_again | refine WC.cond_yes rfl ?_ | refine WC.cond_no rfl ?_ | refine WC.cond rfl (fun hc => ?_) (fun hc => ?_) | refine WC.cond_b rfl (fun hc => ?_) (fun hc => ?_))
    refine WL.pa ?_ (POp.mul64 (a := z / 2) (b := 2) rfl rfl (by omega))
    rw [e]
    repeat' (first | apply WL.fold | apply WA.fold | apply WL.nil | apply WX.n_then | apply WC.seq | apply WC.region | refine WL.pa ?_ | refine WL.ga rfl ?_ | refine WL.na rfl ?_ | refine WL.nu rfl rfl ?_ | apply WC.block | apply WC.skip | apply WC.exit | apply WC.ret | apply WX.e_block | refine WX.e_other rfl ?_ | apply WX.e_then | apply WX.e_again | apply WX.n_block | apply WX.r_then | apply WX.r_block | apply WX.r_again | refine WC.cond_yes rfl ?_ | refine WC.cond_no rfl ?_ | refine WC.cond rfl (fun hc => ?_) (fun hc => ?_) | refine WC.cond_b rfl (fun hc => ?_) (fun hc => ?_))
    exact WX.ret1 rfl rfl ⟨rfl, rfl⟩
  · have hu : unz z = -((z / 2 : Nat) : Int) - 1 := by unfold unz; rw [if_neg h]
    obtain ⟨m, hm⟩ : ∃ m, m = z / 2 := ⟨_, rfl⟩
    rw [← hm] at hu
    have h0 : -(m : Int) - 1 < 0 := by omega
    have e1 : -(-(m : Int) - 1) = ((m + 1 : Nat) : Int) := by omega
    have e2 : (m + 1) * 2 - 1 = z := by omega
    rw [hu]
    repeat' (first | apply WL.fold | apply WA.fold | apply WL.nil | apply WX.n_then | apply WC.seq | apply WC.region | refine WL.pa ?_ | refine WL.ga rfl ?_ | refine WL.na rfl ?_ | refine WL.nu rfl rfl ?_ | apply WC.block | apply WC.skip | apply WC.exit | apply WC.ret | apply WX.e_block | refine WX.e_other rfl ?_ | apply WX.e_then | apply WX.e_again | apply WX.n_block | apply WX.r_then | apply WX.r_block | apply WX.r_again | refine WC.cond_yes rfl ?_ | refine WC.cond_no rfl ?_ | refine WC.cond rfl (fun hc => ?_) (fun hc => ?_) | refine WC.cond_b rfl (fun hc => ?_) (fun hc => ?_))
    rw [e1]
    refine WL.pa ?_ ((POp.conv (k' := .u64) rfl).of (v' := .int .u64 ((m + 1 : Nat) : Int)) (by rw [wrap_u64 (by omega)]))
    repeat' (first | apply WL.fold | apply WA.fold | apply WL.nil | apply WX.n_then | apply WC.seq | apply WC.region | refine WL.pa ?_ | refine WL.ga rfl ?_ | refine WL.na rfl ?_ | refine WL.nu rfl rfl ?_ | apply WC.block | apply WC.skip | apply WC.exit | apply WC.ret | apply WX.e_block | refine WX.e_other rfl ?_ | apply WX.e_then | apply WX.e_again | apply WX.n_block | apply WX.r_then | apply WX.r_block | apply WX.r_again | refine WC.cond_yes rfl ?_ | refine WC.cond_no rfl ?_ | refine WC.cond rfl (fun hc => ?_) (fun hc => ?_) | refine WC.cond_b rfl (fun hc => ?_) (fun hc => ?_))
    refine WL.pa ?_ (POp.mul64 (a := m + 1) (b := 2) rfl rfl (by omega))
    repeat' (first | apply WL.fold | apply WA.fold | apply WL.nil | apply WX.n_then | apply WC.seq | apply WC.region | refine WL.pa ?_ | refine WL.ga rfl ?_ | refine WL.na rfl ?_ | refine WL.nu rfl rfl ?_ | apply WC.block | apply WC.skip | apply WC.exit | apply WC.ret | apply WX.e_block | refine WX.e_other rfl ?_ | apply WX.e_then | apply WX.e_again | apply WX.n_block | apply WX.r_then | apply WX.r_block | apply WX.r_again | refine WC.cond_yes rfl ?_ | refine WC.cond_no rfl ?_ | refine WC.cond rfl (fun hc => ?_) (fun hc => ?_) | refine WC.cond_b rfl (fun hc => ?_) (fun hc => ?_))
    refine WL.pa ?_ (POp.sub64 (a := (m + 1) * 2) (b := 1) rfl rfl rfl rfl (by omega) (by omega))
    rw [e2]
    repeat' (first | apply WL.fold | apply WA.fold | apply WL.nil | apply WX.n_then | apply WC.seq | apply WC.region | refine WL.pa ?_ | refine WL.ga rfl ?_ | refine WL.na rfl ?_ | refine WL.nu rfl rfl ?_ | apply WC.block | apply WC.skip | apply WC.exit | apply WC.ret | apply WX.e_block | refine WX.e_other rfl ?_ | apply WX.e_then | apply WX.e_again | apply WX.n_block | apply WX.r_then | apply WX.r_block | apply WX.r_again | refine WC.cond_yes rfl ?_ | refine WC.cond_no rfl ?_ | refine WC.cond rfl (fun hc => ?_) (fun hc => ?_) | refine WC.cond_b rfl (fun hc => ?_) (fun hc => ?_))
    exact WX.ret1 rfl rfl ⟨rfl, rfl⟩
attribute [local irreducible] unz
set_option maxHeartbeats 1000000 in
theorem refPutIntZ_fn (z0 : Nat) (hz0 : z0 < 9223372036854775808) (w : World) : Fn Tryz.prog 124 #[zv (unz z0)] w fun v w' => v = refIntV z0 ∧ Ext w w' := by
  have hub := unz_hi hz0
  refine enterH (l := [_]) rfl Tryz.ntmps124 rfl ?_
  by_cases h1 : unz z0 < -4611686018427387903
  · refine hwKQ ?_
    exact HX.ret2 rfl rfl rfl fun w' hM => ⟨by unfold refIntV; rw [if_pos h1]; rfl, hM.ext⟩
  have h2 : ¬ (4611686018427387903 : Int) < unz z0 := by omega
  have hvl := vint_len 8 z0 (by omega)
  refine hwKQ ?_
  refine HL.one (H1.call0 (vs := [_]) rfl rfl (fun w' hM => zigzagZ_fn z0 hz0 w') ?_)
  refine hwKQ ?_
  refine HC.grow0 5 1 ?_
  refine HC.loop (α := Nat × List UInt8 × Option Addr × Nat) (fun z => [(4, .int .u64 (z.1 : Int)), (5, .slice z.2.2.1 z.2.1.length z.2.2.2)]) (fun z => [A.grow 5 1 z.2.2.1 z.2.2.2 z.2.1.length (ub z.2.1)]) (fun z => z.1 ≤ z0 ∧ z.2.1 ++ vint z.1 = vint z0) (fun z => z.1) (z0, [], none, 0) ⟨Nat.le_refl _, rfl⟩ esA (Hs.refl _) ?_
  rintro ⟨z, ys, a, c⟩ ⟨hz, hv⟩
  dsimp only at hz hv ⊢
  have hlen : ys.length ≤ 9 := by
    have h3 := congrArg List.length hv
    rw [List.length_append] at h3
    omega
  by_cases hlt : z < 128
  · have hge : ¬ (128 : Int) ≤ (z : Int) := by omega
    have hvz := vint_lt hlt
    have hub := ub_snoc ys (g := z) (by omega)
    refine hwKQ ?_
    refine HL.one (H1.lit (cs := [.int .u8 (z : Int)]) rfl rfl rfl rfl rfl rfl (fun b9 => ?_))
    refine hwKQ ?_
    refine HL.one (H1.app1 (u := .int .u8 (z : Int)) rfl rfl (fun _ _ => by first | ((repeat (first | with_reducible exact Rpl.here | with_reducible apply Rpl.there)); done) | (repeat (first | exact Rpl.here | apply Rpl.there))) memA rfl rfl (by omega) rfl rfl (fun a' c' => ?_))
    rw [hub, show ys.length + 1 = (ys ++ [UInt8.ofNat z]).length from by rw [List.length_append]; rfl]
    refine hwKQ ?_
    refine HL.one (H1.bstrg (ys := ys ++ [UInt8.ofNat z]) (c := c') (b := a') rfl memA rfl ?_)
    refine hwKQ ?_
    refine HX.ret2 rfl rfl rfl fun w' hM => ⟨?_, hM.ext⟩
    unfold refIntV
    rw [if_neg h1, ← hvz, hv]; rfl
  · have hge : (128 : Int) ≤ (z : Int) := by omega
    have hvz := vint_ge hlt
    have hub := ub_snoc ys (g := z % 128 + 128) (by omega)
    refine hwKQ ?_
    refine HL.pa ?_ (POp.rem64 (a := z) (b := 128) rfl rfl (by decide))
    refine hwKQ ?_
    refine HL.pa ?_ (POp.add64 (a := z % 128) (b := 128) rfl rfl (by omega))
    refine hwKQ ?_
    refine HL.one (H1.lit (cs := [.int .u8 ((z % 128 + 128 : Nat) : Int)]) rfl rfl rfl rfl rfl rfl (fun b9 => ?_))
    refine hwKQ ?_
    refine HL.one (H1.app1 (u := .int .u8 ((z % 128 + 128 : Nat) : Int)) rfl rfl (fun _ _ => by first | ((repeat (first | with_reducible exact Rpl.here | with_reducible apply Rpl.there)); done) | (repeat (first | exact Rpl.here | apply Rpl.there))) memA rfl rfl (by omega) rfl rfl (fun a' c' => ?_))
    rw [hub, show ys.length + 1 = (ys ++ [UInt8.ofNat (z % 128 + 128)]).length from by rw [List.length_append]; rfl]
    refine hwKQ ?_
    refine HL.pa ?_ (POp.quo64 (a := z) (b := 128) rfl rfl (by omega) (by decide))
    refine hwKQ ?_
    exact HX.again (z / 128, ys ++ [UInt8.ofNat (z % 128 + 128)], some ⟨a', 0, none⟩, c') ⟨by show z / 128 ≤ _; omega, by show (ys ++ _) ++ vint (z / 128) = _; rw [← hv, hvz, List.append_assoc]; rfl⟩ (by show z / 128 < z; omega) esA (Hs.cons (Pick.there Pick.here) (Hs.nil _))
set_option maxHeartbeats 4000000 in
theorem refInt_fn (s : ByteArray) (p : Nat) (hp : p ≤ s.size) (hs : s.size ≤ 5000000) (w : World) : Fn Tryz.prog 121 #[.string s, zv (p : Int)] w fun v w' => v = intV (decI s.data.toList p) ∧ Ext w w' := by
  have hlen : s.data.toList.length = s.size := by rw [Array.length_toList]; rfl
  have hp2 : ¬ (s.size : Int) < (p : Int) := by omega
  refine enterH (l := [_, _]) rfl Tryz.ntmps121 rfl ?_
  refine hwKQ ?_
  refine HC.loop (α := Nat × Nat) (fun x => [(0, .string s), (1, zv (p : Int)), (7, .int .u64 (x.2 : Int)), (8, zv (x.1 : Int))]) (fun _ => [])
    (fun x => x.1 ≤ 9 ∧ Pre s.data.toList p x.1 x.2 ∧ decG s.data.toList p x.1 x.2 = decI s.data.toList p) (fun x => 9 - x.1) (0, 0) ⟨Nat.zero_le _, pre0 (by omega), rfl⟩ esA (Hs.refl _) ?_
  rintro ⟨i, z⟩ ⟨hi, hpre, hd⟩
  dsimp only at hi hpre hd ⊢
  by_cases hlt : i < 9
  · by_cases hin : p + i < s.size
    · have hin' : p + i < s.data.toList.length := by omega
      obtain ⟨b, hb⟩ : ∃ b, b = (s.data.toList.getD (p + i) 0).toNat := ⟨_, rfl⟩
      have hbl : b < 256 := by rw [hb]; exact UInt8.toNat_lt _
      have hsb : sb s (p + i) = b := hb.symm
      have hz := hpre.1
      have hpw : 2 ^ (7 * i) ≤ 2 ^ 56 := Nat.pow_le_pow_right (by decide) (by omega)
      have hmul : b % 128 * 2 ^ (7 * i) ≤ 127 * 2 ^ 56 := Nat.mul_le_mul (by omega) hpw
      have hz3 : z + b % 128 * 2 ^ (7 * i) < 9223372036854775808 := by
        have e := pow7 i
        have h3 : b % 128 * 2 ^ (7 * i) ≤ 127 * 2 ^ (7 * i) := Nat.mul_le_mul_right _ (by omega)
        have h2 : 2 ^ (7 * (i + 1)) ≤ 2 ^ 63 := Nat.pow_le_pow_right (by decide) (by omega)
        omega
      have hsh : (b % 128) <<< (7 * i) = b % 128 * 2 ^ (7 * i) := Nat.shiftLeft_eq _ _
      have hshl : (b % 128) <<< (7 * i) < 18446744073709551616 := by rw [hsh]; omega
      have hnx := hpre.next hin'
      have hla := hpre.last hin'
      have on := decG_on (s := s.data.toList) (p := p) (z := z) hlt hin'
      have no := decG_no (s := s.data.toList) (p := p) (z := z) hlt hin'
      have yes := decG_yes (s := s.data.toList) (p := p) (z := z) hlt hin'
      rw [← hb] at on no yes hnx hla
      have e7 : (7 : Int) * (i : Int) = ((7 * i : Nat) : Int) := by omega
      have epi : (p : Int) + (i : Int) = ((p + i : Nat) : Int) := by omega
      generalize hz' : z + b % 128 * 2 ^ (7 * i) = z' at hz3 on no yes hnx hla
      refine hwKQ ?_
      rw [hsb]
      refine HL.pa ?_ ((POp.conv (k' := .u64) rfl).of (v' := .int .u64 (b : Int)) (by rw [wrap_u64 (by omega)]))
      refine hwKQ ?_
      refine HL.pa ?_ (POp.rem64 (a := b) (b := 128) rfl rfl (by decide))
      refine hwKQ ?_
      refine HL.pa ?_ (POp.shl64 (a := b % 128) (b := 7 * i) rfl rfl rfl e7 (by omega) hshl)
      rw [hsh]
      refine hwKQ ?_
      refine HL.pa ?_ (POp.add64 (a := z) (b := b % 128 * 2 ^ (7 * i)) rfl rfl (by omega))
      rw [hz']
      by_cases h128 : 128 ≤ b
      · have h128' : (128 : Int) ≤ (b : Int) := by omega
        refine hwKQ ?_
        exact HX.again (i + 1, z') ⟨hlt, hnx h128, by rw [← on h128]; exact hd⟩ (by show 9 - (i + 1) < 9 - i; omega) esA (Hs.refl _)
      · have h128' : ¬ (128 : Int) ≤ (b : Int) := by omega
        refine hwKQ ?_
        refine HL.pa ?_ (POp.quo64 (a := z') (b := 2) rfl rfl (by omega) (by decide))
        refine hwKQ ?_
        refine HL.pa ?_ (POp.rem64 (a := z') (b := 2) rfl rfl (by decide))
        refine hnKQ ?_
        repeat refine HC.seq ?_
        refine HC.cut (α := Unit) (fun _ => [(0, .string s), (1, zv (p : Int)), (8, zv (i : Int)), (10, zv (unz z'))]) (fun _ => []) (fun _ => True) ?_ ?_
        · by_cases hodd : z' % 2 = 1
          · have hu : unz z' = -((z' / 2 : Nat) : Int) - 1 := by unfold unz; rw [if_neg (by omega)]
            have hodd' : ((z' % 2 : Nat) : Int) = 1 := by omega
            refine hwKQ ?_
            rw [← hu]
            refine hwKQ ?_
            exact HX.cut () trivial esA (Hs.refl _)
          · have hu : unz z' = ((z' / 2 : Nat) : Int) := by unfold unz; rw [if_pos (by omega)]
            have hodd' : ¬ ((z' % 2 : Nat) : Int) = 1 := by omega
            rw [hu]
            refine hwKQ ?_
            exact HX.cut () trivial esA (Hs.refl _)
        rintro - -
        have hpi := refPutIntZ_fn z' hz3
        unfold refIntV at hpi
        by_cases hu : unz z' < -4611686018427387903
        · have hno := no h128 (.inr hu)
          simp only [if_pos hu] at hpi
          refine hwKQ ?_
          refine HL.one (H1.callx (vs := [_]) rfl rfl (fun w' _ => hpi w') ?_)
          refine hwKQ ?_
          exact HX.ret3 (P := Tryz.prog) rfl rfl rfl rfl fun w' hM => ⟨by rw [← hd, hno]; rfl, hM.ext⟩
        · simp only [if_neg hu] at hpi
          have hex := extract_mk s p (p + i + 1)
          rw [show p + i + 1 - p = i + 1 from by omega] at hex
          refine hwKQ ?_
          refine HL.one (H1.callx (vs := [_]) rfl rfl (fun w' _ => hpi w') ?_)
          have key : mkBA (vint z') = s.extract (p : Int).toNat ((p : Int) + (i : Int) + 1).toNat ↔ ¬ (b = 0 ∧ 0 < i) := by
            rw [show (p : Int).toNat = p from by omega, show ((p : Int) + (i : Int) + 1).toNat = p + i + 1 from by omega, hex, ← hla h128]
            constructor
            · intro h
              have := congrArg (fun x : ByteArray => x.data.toList) h
              exact this
            · intro h; rw [h]
          repeat' (first | refine HL.pa ?_ (POp.nilCheck rfl) | apply HL.fold | apply HA.fold | apply HL.nil | apply HX.n_then | apply HC.seq | apply HC.region | refine HL.pa ?_ | refine HL.ga rfl ?_ | refine HL.na rfl ?_ | refine HL.nu rfl rfl ?_ | apply HC.block | apply HC.skip | apply HC.exit | apply HC.ret | apply HX.e_block | refine HX.e_other rfl ?_ | apply HX.e_then | apply HX.e_again | apply HX.n_block | apply HX.r_then | apply HX.r_block | apply HX.r_again | refine HC.cond_yes rfl ?_ | refine HC.cond_no rfl ?_ | refine HL.one (H1.ldb rfl memA rfl rfl ?_) | refine HC.cond rfl (fun hc => ?_) (fun hc => ?_) | refine HC.cond_b rfl (fun hc => ?_) (fun hc => ?_))
          · have hno := no h128 (.inl (by
              by_cases hx : b = 0 ∧ 0 < i
              · exact hx
              · exact absurd (key.2 hx) hc))
            exact HX.ret3 (P := Tryz.prog) rfl rfl rfl rfl fun w' hM => ⟨by rw [← hd, hno]; rfl, hM.ext⟩
          · have hyes := yes h128 (by
              rintro (h | h)
              · exact (key.1 (Classical.byContradiction hc)) h
              · exact hu h)
            refine HX.ret3 (P := Tryz.prog) rfl rfl rfl rfl fun w' hM => ⟨?_, hM.ext⟩
            rw [← hd, hyes]
            show Value.tuple #[_, zv ((p : Int) + (i : Int) + 1), _] = Value.tuple #[_, zv ((p + i + 1 : Nat) : Int), _]
            rw [show ((p + i + 1 : Nat) : Int) = (p : Int) + (i : Int) + 1 from by omega]
    · have hno := decG_end (s := s.data.toList) (p := p) (i := i) (z := z) (by omega)
      refine hwKQ ?_
      exact HX.ret3 (P := Tryz.prog) rfl rfl rfl rfl fun w' hM => ⟨by rw [← hd, hno]; rfl, hM.ext⟩
  · obtain rfl : i = 9 := by omega
    have hno := decG_9 s.data.toList p z
    refine hwKQ ?_
    exact HX.ret3 (P := Tryz.prog) rfl rfl rfl rfl fun w' hM => ⟨by rw [← hd, hno]; rfl, hM.ext⟩
theorem refString_fn (s : ByteArray) (p : Nat) (hp : p ≤ s.size) (hs : s.size ≤ 5000000) (w : World) : Fn Tryz.prog 117 #[.string s, zv (p : Int)] w fun v w' => v = strV (decS s.data.toList p) ∧ Ext w w' := by
  have hlen : s.data.toList.length = s.size := by rw [Array.length_toList]; rfl
  have hint := fun w' => refInt_fn s p hp hs w'
  refine enterH (l := [_, _]) rfl Tryz.ntmps117 rfl ?_
  unfold decS
  cases hd : decI s.data.toList p with
  | none =>
    rw [hd] at hint
    unfold intV at hint
    refine hwKQ ?_
    refine HL.one (H1.callx (vs := [_, _]) rfl rfl (fun w' _ => hint w') ?_)
    refine hwKQ ?_
    exact HX.ret3 (P := Tryz.prog) rfl rfl rfl rfl fun w' hM => ⟨rfl, hM.ext⟩
  | some x =>
    obtain ⟨z, q⟩ := x
    rw [hd] at hint
    unfold intV at hint
    have hq := decG_le 9 0 0 (by omega) hd
    simp only at hq
    rw [hlen] at hq ⊢
    dsimp only at hint ⊢
    refine hwKQ ?_
    refine HL.one (H1.callx (vs := [_, _]) rfl rfl (fun w' _ => hint w') ?_)
    obtain ⟨u, hu⟩ : ∃ u, u = unz z := ⟨_, rfl⟩
    rw [← hu]
    by_cases h1 : u < 0
    · rw [if_pos (.inl h1)]
      refine hwKQ ?_
      exact HX.ret3 (P := Tryz.prog) rfl rfl rfl rfl fun w' hM => ⟨rfl, hM.ext⟩
    · by_cases h2 : u > 65536
      · rw [if_pos (.inr (.inl h2))]
        refine hwKQ ?_
        exact HX.ret3 (P := Tryz.prog) rfl rfl rfl rfl fun w' hM => ⟨rfl, hM.ext⟩
      · by_cases h3 : u > (s.size : Int) - (q : Int)
        · rw [if_pos (.inr (.inr h3))]
          refine hwKQ ?_
          exact HX.ret3 (P := Tryz.prog) rfl rfl rfl rfl fun w' hM => ⟨rfl, hM.ext⟩
        · rw [if_neg (by omega)]
          obtain ⟨n, rfl⟩ := Int.eq_ofNat_of_zero_le (show 0 ≤ u by omega)
          have e1 : ((q : Int) + (n : Int)).toNat = q + n := by omega
          have e2 := extract_mk s q (q + n)
          rw [show q + n - q = n from by omega] at e2
          refine hwKQ ?_
          refine HX.ret3 (P := Tryz.prog) rfl rfl rfl rfl fun w' hM => ⟨?_, hM.ext⟩
          rw [e1, Int.toNat_natCast, Int.toNat_natCast, e2]
          rfl
end Go.Sx
/- Chapter 2, the reference: a block: the walk. -/
namespace Go.Sx
open Go Go.Proofs Go.RowKit
theorem hwDH {G G2 : Prop} (x : G2) (hwq : Hold G2 → G := by
    intro hQq
    repeat' (first | apply HL.fold | apply HA.fold | apply HL.nil | apply HX.n_then | apply HC.seq | apply HC.region | refine HL.pa ?_ | refine HL.ga rfl ?_ | refine HL.na rfl ?_ | refine HL.nu rfl rfl ?_ | apply HC.block | apply HC.skip | apply HC.exit | apply HC.ret | apply HX.e_block | refine HX.e_other rfl ?_ | apply HX.e_then | apply HX.e_again | apply HX.n_block | apply HX.r_then | apply HX.r_block | apply HX.r_again | refine HC.cond_yes rfl ?_ | refine HC.cond_no rfl ?_ | refine HL.one (H1.ldb rfl memA rfl rfl ?_) | refine HC.cond rfl (fun hc => ?_) (fun hc => ?_) | refine HC.cond_b rfl (fun hc => ?_) (fun hc => ?_))
    exact hQq.get) : G := hwq ⟨x⟩
theorem hbDH {G G2 : Prop} (x : G2) (hwq : Hold G2 → G := by
    intro hQq
    repeat' (first | apply HL.fold | apply HA.fold | apply HL.nil | apply HX.n_then | apply HC.seq | apply HC.region | refine HL.pa ?_ | refine HL.ga rfl ?_ | refine HL.na rfl ?_ | refine HL.nu rfl rfl ?_ | apply HC.skip | apply HC.exit | apply HC.ret | apply HX.e_block | refine HX.e_other rfl ?_ | apply HX.e_then | apply HX.e_again | apply HX.n_block | apply HX.r_then | apply HX.r_block | apply HX.r_again | refine HC.cond_yes rfl ?_ | refine HC.cond_no rfl ?_ | refine HL.one (H1.ldb rfl memA rfl rfl ?_) | refine HC.cond rfl (fun hc => ?_) (fun hc => ?_) | refine HC.cond_b rfl (fun hc => ?_) (fun hc => ?_))
    exact hQq.get) : G := hwq ⟨x⟩
theorem blkGr {w0 w : World} {b n sz : Nat} {cs : List Value} {e : TypeId} {H : List Atom} (h : Mm w0 (A.blk b cs e :: H) w) (hl : cs.length = n * sz) (hn : n ≤ 1000000) : Mm w0 (A.grow e sz (some ⟨b, 0, none⟩) n n cs :: H) w := by
  refine ⟨h.ext, fun x hx => ?_, h.nd, h.rng⟩
  rcases List.mem_cons.1 hx with rfl | hx
  · refine ⟨hl, .inr ⟨b, n, cs.toArray, rfl, Nat.zero_le _, h.blk (List.Mem.head _), Nat.le_refl _, by simp only [maxLen]; omega, by simpa using hl, ?_⟩⟩
    rw [← hl, List.take_of_length_le (by simp)]
  · exact h.all x (List.mem_cons_of_mem _ hx)
/-- The words of a block, as far as they are there. -/
def wsr (l : List UInt8) (i : Nat) : List Value := ws ((List.range i).map (wW l))
theorem wsr_snoc (l : List UInt8) (i : Nat) : wsr l i ++ [w32 (wW l i)] = wsr l (i + 1) := by unfold wsr ws; rw [List.range_succ]; simp
theorem wsr_get {l : List UInt8} {i j : Nat} (h : j < i) : (wsr l i)[j]? = some (w32 (wW l j)) := by unfold wsr ws; simp [h]
theorem ws_snoc (l : List UInt32) (x : UInt32) : ws l ++ [w32 x] = ws (l ++ [x]) := by simp [ws]
def sumsL (s v : S8) (i : Nat) : List UInt32 := (List.range i).map fun j => s.l.getD j 0 + v.l.getD j 0
theorem sumsL_snoc (s v : S8) (i : Nat) : sumsL s v i ++ [s.l.getD i 0 + v.l.getD i 0] = sumsL s v (i + 1) := by unfold sumsL; rw [List.range_succ]; simp
theorem rot_or (x : UInt32) (n : Nat) : x >>> UInt32.ofNat n ||| x <<< UInt32.ofNat (32 - n) = rot x n := by unfold rot; rw [UInt32.or_comm]
theorem mix2 (x : UInt32) (a b : Nat) : mixW x [a, b] = rot x a ^^^ rot x b := by
  show (0 ^^^ rot x a) ^^^ rot x b = _
  rw [UInt32.zero_xor]
theorem mix3 (x : UInt32) (a b c : Nat) : mixW x [a, b, c] = rot x a ^^^ rot x b ^^^ rot x c := by
  show ((0 ^^^ rot x a) ^^^ rot x b) ^^^ rot x c = _
  rw [UInt32.zero_xor]
attribute [local irreducible] WC WL WX POp Then Again Fn NX W1 WA WO QL RP RA Yld LoopAt HC HL HX HN H1 HA HO HQ HB HP A.blk A.grow A.rd A.obj A.mp AgainH CutH
theorem rotated_fn (x : UInt32) (n : Nat) (h0 : 0 < n) (h : n < 32) (w : World) : Fn Tryz.prog 94 #[w32 x, zv (n : Int)] w fun v w' => v = w32 (rot x n) ∧ Ext w w' := by
  have e : (32 : Int) - (n : Int) = ((32 - n : Nat) : Int) := by omega
  refine enterH (l := [_, _]) rfl Tryz.ntmps94 rfl ?_
  refine hwDH ?_
  refine HC.quietS [(some 5, [0], []), (some 6, [1], []), (some 7, [5, 6], [0, 1]), (some 8, [0], []), (some 9, [1], []), (some 10, [9], [4]), (some 11, [8, 10], [3, 5]), (some 12, [7, 11], [2, 6]), (some 4, [12], [7, 0, 1, 2, 3, 4, 5, 6, 7])] (by kernel_rfl) (by kernel_rfl) (by kernel_rfl) ?_
  refine HQ.pa ?_ (POp.move rfl)
  refine HQ.pa ?_ (POp.move rfl)
  refine HQ.pa ?_ (POp.shr32 (s := n) rfl rfl rfl h)
  refine HQ.pa ?_ (POp.move rfl)
  refine HQ.pa ?_ (POp.move rfl)
  refine HQ.pa ?_ (POp.sub rfl rfl (by omega) (by omega))
  rw [e]
  refine HQ.pa ?_ (POp.shl32 (s := 32 - n) rfl rfl rfl (by omega))
  repeat' (first | refine HQ.pa ?_ | refine HQ.ga rfl ?_ | refine HQ.na rfl ?_ | refine HQ.nu rfl ?_ | refine HQ.ldb rfl memA rfl rfl ?_)
  rw [rot_or]
  refine HQ.nil ?_
  refine hwDH ?_
  exact HX.ret1 rfl rfl fun w' hM => ⟨rfl, hM.ext⟩
attribute [local irreducible] kL
set_option maxRecDepth 100000 in
theorem constants_fn (w : World) : Fn Tryz.prog 95 #[] w fun v w' => ∃ b : Nat, True ∧ v = .slice (some ⟨b, 0, none⟩) 64 64 ∧ Mm w [A.blk b (ws kL) 85] w' := by
  refine enterH (l := []) rfl Tryz.ntmps95 rfl ?_
  refine hwDH ?_
  refine HL.one (H1.lit (cs := ws kL) rfl rfl (by kernel_rfl) rfl rfl rfl (fun b => ?_))
  refine hwDH ?_
  exact HX.ret1 rfl rfl fun w' hM => ⟨b, trivial, rfl, hM⟩
end Go.Sx
/- Chapter 2, the reference: what a block does to a state: the walk. -/
namespace Go.Sx
open Go Go.Proofs Go.RowKit
attribute [local irreducible] WC WL WX POp Then Again Fn NX W1 WA WO QL RP RA Yld LoopAt HC HL HX HN H1 HA HO HQ HB HP A.blk A.grow A.rd A.obj A.mp AgainH CutH
attribute [local irreducible] kL mixW wsr
set_option maxRecDepth 100000 in
set_option maxHeartbeats 4000000 in
theorem block_fn {bh oh ch bb off c : Nat} (s : S8) (l : List UInt8) (hl : l.length = 64) (w : World) (hr : Rd w (.slice (some ⟨bb, off, none⟩) 64 c) (ub l)) (hh : Rd w (.slice (some ⟨bh, oh, none⟩) 8 ch) (ws s.l)) :
    Fn Tryz.prog 49 #[.slice (some ⟨bh, oh, none⟩) 8 ch, .slice (some ⟨bb, off, none⟩) 64 c] w fun v w' => ∃ z : Nat × Nat, True ∧ v = .slice (some ⟨z.1, 0, none⟩) 8 z.2 ∧ Mm w [A.grow 85 1 (some ⟨z.1, 0, none⟩) z.2 8 (ws (comp s l).l)] w' := by
  refine enterH (l := [_, _]) rfl Tryz.ntmps49 rfl ?_
  refine hbDH ?_
  repeat refine HC.seq ?_
  refine HC.cut (α := Option Addr × Nat) (fun z => [(0, .slice (some ⟨bh, oh, none⟩) 8 ch), (5, .slice z.1 16 z.2)]) (fun z => [A.grow 85 1 z.1 z.2 16 (wsr l 16)]) (fun _ => True) ?_ ?_
  · refine HC.block ?_
    refine HC.grow0 85 1 ?_
    refine HC.loop (α := Nat × Option Addr × Nat) (fun z => [(0, .slice (some ⟨bh, oh, none⟩) 8 ch), (1, .slice (some ⟨bb, off, none⟩) 64 c), (5, .slice z.2.1 z.1 z.2.2), (6, zv (z.1 : Int))]) (fun z => [A.grow 85 1 z.2.1 z.2.2 z.1 (wsr l z.1)]) (fun z => z.1 ≤ 16) (fun z => 16 - z.1) (0, none, 0) (Nat.zero_le _) esA (by show Hs _ [A.grow 85 1 none 0 0 (wsr l 0)]; unfold wsr; exact Hs.refl _) ?_
    rintro ⟨i, a1, c1⟩ hi
    dsimp only at hi ⊢
    by_cases hlt : i < 16
    · have h0 := ub_at hr (i := 4 * i) (by omega)
      have h1 := ub_at hr (i := 4 * i + 1) (by omega)
      have h2 := ub_at hr (i := 4 * i + 2) (by omega)
      have h3 := ub_at hr (i := 4 * i + 3) (by omega)
      have hset := wsr_snoc l i
      rw [wW_lo hlt] at hset
      unfold wordAt bt at hset
      refine hwDH ?_
      refine HC.anyC ([(⟨bb, off + 4 * i, none⟩, b8 (l.getD (4 * i) 0)), (⟨bb, off + (4 * i + 1), none⟩, b8 (l.getD (4 * i + 1) 0)), (⟨bb, off + (4 * i + 2), none⟩, b8 (l.getD (4 * i + 2) 0)), (⟨bb, off + (4 * i + 3), none⟩, b8 (l.getD (4 * i + 3) 0))]) rfl ?_
      refine HB.pa 0 rfl ?_
      refine HB.pa 1 rfl ?_
      refine HB.pa 2 rfl ?_
      refine HB.pa 3 rfl ?_
      refine HB.pa 4 rfl ?_ (POp.index_slice (o := off + 4 * i) rfl rfl (by omega) (by omega) (by omega))
      refine HB.ld 5 rfl rfl memD ?_
      refine HB.pa 6 rfl ?_
      refine HB.pa 7 rfl ?_
      refine HB.pa 8 rfl ?_
      refine HB.pa 9 rfl ?_
      refine HB.pa 10 rfl ?_
      refine HB.pa 11 rfl ?_
      refine HB.pa 12 rfl ?_ (POp.index_slice (o := off + (4 * i + 1)) rfl rfl (by omega) (by omega) (by omega))
      refine HB.ld 13 rfl rfl memD ?_
      refine HB.pa 14 rfl ?_
      refine HB.pa 15 rfl ?_
      refine HB.pa 16 rfl ?_
      refine HB.pa 17 rfl ?_
      refine HB.pa 18 rfl ?_
      refine HB.pa 19 rfl ?_
      refine HB.pa 20 rfl ?_
      refine HB.pa 21 rfl ?_ (POp.index_slice (o := off + (4 * i + 2)) rfl rfl (by omega) (by omega) (by omega))
      refine HB.ld 22 rfl rfl memD ?_
      refine HB.pa 23 rfl ?_
      refine HB.pa 24 rfl ?_
      refine HB.pa 25 rfl ?_
      refine HB.pa 26 rfl ?_
      refine HB.pa 27 rfl ?_
      refine HB.pa 28 rfl ?_
      refine HB.pa 29 rfl ?_
      refine HB.pa 30 rfl ?_ (POp.index_slice (o := off + (4 * i + 3)) rfl rfl (by omega) (by omega) (by omega))
      refine HB.ld 31 rfl rfl memD ?_
      refine HB.pa 32 rfl ?_
      refine HB.pa 33 rfl ?_
      refine HB.all (by (exact Keep.base h0 (Keep.base h1 (Keep.base h2 (Keep.base h3 Keep.nil))))) [34] (by kernel_rfl) rfl ⟨⟨_, rfl, ?_⟩, trivial⟩
      refine HP.one ?_
      refine H1.lit (cs := [w32 (bt l (4 * i) <<< UInt32.ofNat 24 ||| bt l (4 * i + 1) <<< UInt32.ofNat 16 ||| bt l (4 * i + 2) <<< UInt32.ofNat 8 ||| bt l (4 * i + 3))]) rfl rfl rfl rfl rfl rfl (fun b9 => ?_)
      apply HB.fold
      refine HB.all (by (exact Keep.base h0 (Keep.base h1 (Keep.base h2 (Keep.base h3 Keep.nil))))) [35] (by kernel_rfl) rfl ⟨⟨_, rfl, ?_⟩, trivial⟩
      refine HP.one ?_
      refine H1.app1 (u := w32 (bt l (4 * i) <<< UInt32.ofNat 24 ||| bt l (4 * i + 1) <<< UInt32.ofNat 16 ||| bt l (4 * i + 2) <<< UInt32.ofNat 8 ||| bt l (4 * i + 3))) rfl rfl (fun _ _ => by first | ((repeat (first | with_reducible exact Rpl.here | with_reducible apply Rpl.there)); done) | (repeat (first | exact Rpl.here | apply Rpl.there))) memA rfl rfl (by omega) rfl rfl (fun a' c' => ?_)
      unfold bt
      rw [hset]
      apply HB.fold
      refine HB.pa 36 rfl ?_
      refine HB.done (by (exact Keep.base h0 (Keep.base h1 (Keep.base h2 (Keep.base h3 Keep.nil))))) (by kernel_rfl) ?_
      refine hwDH ?_
      exact HX.again (i + 1, some ⟨a', 0, none⟩, c') hlt (by show 16 - (i + 1) < 16 - i; omega) esA (Hs.cons (Pick.there Pick.here) (Hs.nil _))
    · obtain rfl : i = 16 := by omega
      refine hwDH ?_
      exact HX.cut (a1, c1) trivial esA (Hs.refl _)
  rintro ⟨a1, c1⟩ -
  dsimp only
  repeat refine HC.seq ?_
  refine hbDH ?_
  repeat refine HC.seq ?_
  refine HC.cut (α := Option Addr × Nat) (fun z => [(0, .slice (some ⟨bh, oh, none⟩) 8 ch), (5, .slice z.1 64 z.2)]) (fun z => [A.grow 85 1 z.1 z.2 64 (wsr l 64)]) (fun _ => True) ?_ ?_
  · refine HC.block ?_
    refine HC.loop (α := Nat × Option Addr × Nat) (fun z => [(0, .slice (some ⟨bh, oh, none⟩) 8 ch), (5, .slice z.2.1 z.1 z.2.2), (7, zv (z.1 : Int))]) (fun z => [A.grow 85 1 z.2.1 z.2.2 z.1 (wsr l z.1)]) (fun z => 16 ≤ z.1 ∧ z.1 ≤ 64) (fun z => 64 - z.1) (16, a1, c1) ⟨Nat.le_refl _, by show 16 ≤ 64; decide⟩ esA (Hs.refl _) ?_
    rintro ⟨i, a2, c2⟩ ⟨hi0, hi⟩
    dsimp only at hi0 hi ⊢
    by_cases hlt : i < 64
    · refine HC.openg (e := 85) (sz := 1) (a := a2) (c := c2) (n := i) (xs := wsr l i) memA (by omega) ?_
      rintro g2 rfl
      have g2' := wsr_get (l := l) (i := i) (j := i - 2) (by omega)
      have g7 := wsr_get (l := l) (i := i) (j := i - 7) (by omega)
      have g15 := wsr_get (l := l) (i := i) (j := i - 15) (by omega)
      have g16 := wsr_get (l := l) (i := i) (j := i - 16) (by omega)
      have hset := wsr_snoc l i
      rw [wW_hi (by omega), mix2, mix2] at hset
      have e2 : ((i : Int) - 2).toNat = i - 2 := by omega
      have e15 : ((i : Int) - 15).toNat = i - 15 := by omega
      generalize hx2 : wW l (i - 2) = x2 at g2' hset
      generalize hx7 : wW l (i - 7) = x7 at g7 hset
      generalize hx15 : wW l (i - 15) = x15 at g15 hset
      generalize hx16 : wW l (i - 16) = x16 at g16 hset
      refine hwDH ?_
      refine HC.quietS [(some 63, [5], []), (some 64, [7], []), (some 65, [64], [1]), (some 66, [63, 65], [0, 2]), (some 67, [66], [3]), (some 68, [67], [4]), (some 69, [5], []), (some 70, [7], []), (some 71, [70], [7]), (some 72, [69, 71], [6, 8]), (some 73, [72], [9]), (some 74, [73], [10, 5]), (some 75, [68, 74], [5, 11]), (some 76, [5], []), (some 77, [7], []), (some 78, [77], [14]), (some 79, [76, 78], [13, 15]), (some 80, [79], [16]), (some 81, [80], [17]), (some 82, [75, 81], [12, 18]), (some 8, [82], [19, 11, 0, 1, 2, 3, 4, 5, 6, 7, 8, 9, 10, 11, 12, 13, 14, 15, 16, 17, 18, 19])] (by kernel_rfl) (by kernel_rfl) (by kernel_rfl) ?_
      repeat' (first | refine HQ.pa ?_ | refine HQ.ga rfl ?_ | refine HQ.na rfl ?_ | refine HQ.nu rfl ?_ | refine HQ.ldb rfl memA rfl rfl ?_)
      rw [e15]
      refine HQ.ld rfl (fun w' hM => ownsRow_cell (hM.own memA) g15) rfl ?_
      repeat' (first | refine HQ.pa ?_ | refine HQ.ga rfl ?_ | refine HQ.na rfl ?_ | refine HQ.nu rfl ?_ | refine HQ.ldb rfl memA rfl rfl ?_)
      refine HQ.call (vs := [_, zv ((7 : Nat) : Int)]) rfl rfl (fun w' _ => rotated_fn x15 7 (by decide) (by decide) w') ?_
      repeat' (first | refine HQ.pa ?_ | refine HQ.ga rfl ?_ | refine HQ.na rfl ?_ | refine HQ.nu rfl ?_ | refine HQ.ldb rfl memA rfl rfl ?_)
      rw [e15]
      refine HQ.ld rfl (fun w' hM => ownsRow_cell (hM.own memA) g15) rfl ?_
      repeat' (first | refine HQ.pa ?_ | refine HQ.ga rfl ?_ | refine HQ.na rfl ?_ | refine HQ.nu rfl ?_ | refine HQ.ldb rfl memA rfl rfl ?_)
      refine HQ.call (vs := [_, zv ((18 : Nat) : Int)]) rfl rfl (fun w' _ => rotated_fn x15 18 (by decide) (by decide) w') ?_
      repeat' (first | refine HQ.pa ?_ | refine HQ.ga rfl ?_ | refine HQ.na rfl ?_ | refine HQ.nu rfl ?_ | refine HQ.ldb rfl memA rfl rfl ?_)
      rw [e15]
      refine HQ.ld rfl (fun w' hM => ownsRow_cell (hM.own memA) g15) rfl ?_
      repeat' (first | refine HQ.pa ?_ | refine HQ.ga rfl ?_ | refine HQ.na rfl ?_ | refine HQ.nu rfl ?_ | refine HQ.ldb rfl memA rfl rfl ?_)
      refine HQ.nil ?_
      refine hwDH ?_
      refine HC.quietS [(some 83, [5], []), (some 84, [7], []), (some 85, [84], [1]), (some 86, [83, 85], [0, 2]), (some 87, [86], [3]), (some 88, [87], [4]), (some 89, [5], []), (some 90, [7], []), (some 91, [90], [7]), (some 92, [89, 91], [6, 8]), (some 93, [92], [9]), (some 94, [93], [10, 5]), (some 95, [88, 94], [5, 11]), (some 96, [5], []), (some 97, [7], []), (some 98, [97], [14]), (some 99, [96, 98], [13, 15]), (some 100, [99], [16]), (some 101, [100], [17]), (some 102, [95, 101], [12, 18]), (some 9, [102], [19, 11, 0, 1, 2, 3, 4, 5, 6, 7, 8, 9, 10, 11, 12, 13, 14, 15, 16, 17, 18, 19])] (by kernel_rfl) (by kernel_rfl) (by kernel_rfl) ?_
      repeat' (first | refine HQ.pa ?_ | refine HQ.ga rfl ?_ | refine HQ.na rfl ?_ | refine HQ.nu rfl ?_ | refine HQ.ldb rfl memA rfl rfl ?_)
      rw [e2]
      refine HQ.ld rfl (fun w' hM => ownsRow_cell (hM.own memA) g2') rfl ?_
      repeat' (first | refine HQ.pa ?_ | refine HQ.ga rfl ?_ | refine HQ.na rfl ?_ | refine HQ.nu rfl ?_ | refine HQ.ldb rfl memA rfl rfl ?_)
      refine HQ.call (vs := [_, zv ((17 : Nat) : Int)]) rfl rfl (fun w' _ => rotated_fn x2 17 (by decide) (by decide) w') ?_
      repeat' (first | refine HQ.pa ?_ | refine HQ.ga rfl ?_ | refine HQ.na rfl ?_ | refine HQ.nu rfl ?_ | refine HQ.ldb rfl memA rfl rfl ?_)
      rw [e2]
      refine HQ.ld rfl (fun w' hM => ownsRow_cell (hM.own memA) g2') rfl ?_
      repeat' (first | refine HQ.pa ?_ | refine HQ.ga rfl ?_ | refine HQ.na rfl ?_ | refine HQ.nu rfl ?_ | refine HQ.ldb rfl memA rfl rfl ?_)
      refine HQ.call (vs := [_, zv ((19 : Nat) : Int)]) rfl rfl (fun w' _ => rotated_fn x2 19 (by decide) (by decide) w') ?_
      repeat' (first | refine HQ.pa ?_ | refine HQ.ga rfl ?_ | refine HQ.na rfl ?_ | refine HQ.nu rfl ?_ | refine HQ.ldb rfl memA rfl rfl ?_)
      rw [e2]
      refine HQ.ld rfl (fun w' hM => ownsRow_cell (hM.own memA) g2') rfl ?_
      repeat' (first | refine HQ.pa ?_ | refine HQ.ga rfl ?_ | refine HQ.na rfl ?_ | refine HQ.nu rfl ?_ | refine HQ.ldb rfl memA rfl rfl ?_)
      refine HQ.nil ?_
      refine hwDH ?_
      refine HC.sub [(0, .slice (some ⟨bh, oh, none⟩) 8 ch), (5, .slice (some ⟨g2, 0, none⟩) i c2), (7, zv (i : Int)), (8, w32 (rot x15 7 ^^^ rot x15 18 ^^^ x15 >>> UInt32.ofNat 3)), (9, w32 (rot x2 17 ^^^ rot x2 19 ^^^ x2 >>> UInt32.ofNat 10))] [A.grow 85 1 (some ⟨g2, 0, none⟩) c2 i (wsr l i)] ?_ esA (Hs.refl _)
      have e16 : ((i : Int) - 16).toNat = i - 16 := by omega
      have e7 : ((i : Int) - 7).toNat = i - 7 := by omega
      obtain ⟨X, hX⟩ : ∃ X, X = rot x15 7 ^^^ rot x15 18 ^^^ x15 >>> UInt32.ofNat 3 := ⟨_, rfl⟩
      obtain ⟨Y, hY⟩ : ∃ Y, Y = rot x2 17 ^^^ rot x2 19 ^^^ x2 >>> UInt32.ofNat 10 := ⟨_, rfl⟩
      rw [← hX, ← hY] at hset ⊢
      refine HC.any rfl ?_
      refine HA.pa 0 rfl ?_
      refine HA.pa 1 rfl ?_
      refine HA.pa 2 rfl ?_
      refine HA.pa 3 rfl ?_
      refine HA.pa 4 rfl ?_ (POp.index_slice (o := i - 16) rfl rfl (by omega) (by omega) (by omega))
      refine HA.pa 6 rfl ?_
      refine HA.pa 8 rfl ?_
      refine HA.pa 9 rfl ?_
      refine HA.pa 10 rfl ?_
      refine HA.pa 11 rfl ?_ (POp.index_slice (o := i - 7) rfl rfl (by omega) (by omega) (by omega))
      refine HA.pa 14 rfl ?_
      refine HA.all [5, 12] (by kernel_rfl) rfl ⟨⟨_, rfl, ?_⟩, ⟨_, rfl, ?_⟩, trivial⟩
      · refine HO.one ?_
        refine H1.ldg (b := g2) (c := c2) (n := i) (vs := wsr l i) rfl memA g16 rfl ?_
        apply HA.fold
        refine HA.pa 7 rfl ?_
        refine HA.all [12] (by kernel_rfl) rfl ⟨⟨_, rfl, ?_⟩, trivial⟩
        refine HO.one ?_
        refine H1.ldg (b := g2) (c := c2) (n := i) (vs := wsr l i) rfl memA g7 rfl ?_
        apply HA.fold
        refine HA.pa 13 rfl ?_
        refine HA.pa 15 rfl ?_
        refine HA.all [16] (by kernel_rfl) rfl ⟨⟨_, rfl, ?_⟩, trivial⟩
        refine HO.one ?_
        refine H1.lit (cs := [w32 (x16 + X + x7 + Y)]) rfl rfl rfl rfl rfl rfl (fun b9 => ?_)
        apply HA.fold
        refine HA.all [17] (by kernel_rfl) rfl ⟨⟨_, rfl, ?_⟩, trivial⟩
        refine HO.one ?_
        refine H1.app1 (u := w32 (x16 + X + x7 + Y)) rfl rfl (fun _ _ => by first | ((repeat (first | with_reducible exact Rpl.here | with_reducible apply Rpl.there)); done) | (repeat (first | exact Rpl.here | apply Rpl.there))) memA rfl rfl (by omega) rfl rfl (fun a' c' => ?_)
        rw [hset]
        apply HA.fold
        refine HA.pa 18 rfl ?_
        refine HA.done (by kernel_rfl) ?_
        refine hwDH ?_
        exact HX.again (i + 1, some ⟨a', 0, none⟩, c') ⟨by show 16 ≤ i + 1; omega, hlt⟩ (by show 64 - (i + 1) < 64 - i; omega) esA (Hs.cons (Pick.there Pick.here) (Hs.nil _))
      · refine HO.one ?_
        refine H1.ldg (b := g2) (c := c2) (n := i) (vs := wsr l i) rfl memA g7 rfl ?_
        apply HA.fold
        refine HA.all [5] (by kernel_rfl) rfl ⟨⟨_, rfl, ?_⟩, trivial⟩
        refine HO.one ?_
        refine H1.ldg (b := g2) (c := c2) (n := i) (vs := wsr l i) rfl memA g16 rfl ?_
        apply HA.fold
        refine HA.pa 7 rfl ?_
        refine HA.pa 13 rfl ?_
        refine HA.pa 15 rfl ?_
        refine HA.all [16] (by kernel_rfl) rfl ⟨⟨_, rfl, ?_⟩, trivial⟩
        refine HO.one ?_
        refine H1.lit (cs := [w32 (x16 + X + x7 + Y)]) rfl rfl rfl rfl rfl rfl (fun b9 => ?_)
        apply HA.fold
        refine HA.all [17] (by kernel_rfl) rfl ⟨⟨_, rfl, ?_⟩, trivial⟩
        refine HO.one ?_
        refine H1.app1 (u := w32 (x16 + X + x7 + Y)) rfl rfl (fun _ _ => by first | ((repeat (first | with_reducible exact Rpl.here | with_reducible apply Rpl.there)); done) | (repeat (first | exact Rpl.here | apply Rpl.there))) memA rfl rfl (by omega) rfl rfl (fun a' c' => ?_)
        rw [hset]
        apply HA.fold
        refine HA.pa 18 rfl ?_
        refine HA.done (by kernel_rfl) ?_
        refine hwDH ?_
        exact HX.again (i + 1, some ⟨a', 0, none⟩, c') ⟨by show 16 ≤ i + 1; omega, hlt⟩ (by show 64 - (i + 1) < 64 - i; omega) esA (Hs.cons (Pick.there Pick.here) (Hs.nil _))
    · obtain rfl : i = 64 := by omega
      refine hwDH ?_
      exact HX.cut (a2, c2) trivial esA (Hs.refl _)
  rintro ⟨a2, c2⟩ -
  dsimp only
  refine HC.openg (e := 85) (sz := 1) (a := a2) (c := c2) (n := 64) (xs := wsr l 64) memA (by decide) ?_
  rintro g2 rfl
  refine hwDH ?_
  refine HL.one (H1.callz (vs := []) rfl rfl (fun w' _ => constants_fn w') ?_)
  rintro bk -
  refine hwDH ?_
  refine HL.grow0 85 1 ?_
  refine HL.one (H1.appR (n := 0) (vs := ws s.l) rfl rfl rfl (fun _ _ => by first | ((repeat (first | with_reducible exact Rpl.here | with_reducible apply Rpl.there)); done) | (repeat (first | exact Rpl.here | apply Rpl.there))) (fun w' hM => hh.ext hM.ext) ws_one (by show 0 + 8 ≤ 1000000; decide) (by decide) rfl (.inl rfl) (fun av0 cv0 hav => ?_))
  obtain ⟨gv0, rfl⟩ : ∃ b, av0 = some ⟨b, 0, none⟩ := by
    rcases hav with h | h
    · cases h
    · exact h
  refine hbDH ?_
  repeat refine HC.seq ?_
  refine HC.cut (α := Nat × Nat) (fun z => [(0, .slice (some ⟨bh, oh, none⟩) 8 ch), (11, .slice (some ⟨z.1, 0, none⟩) 8 z.2)]) (fun z => [A.grow 85 1 (some ⟨z.1, 0, none⟩) z.2 8 (ws (rnds l s 64).l)]) (fun _ => True) ?_ ?_
  · refine HC.block ?_
    refine HC.loop (α := Nat × Nat × Nat) (fun z => [(0, .slice (some ⟨bh, oh, none⟩) 8 ch), (5, .slice (some ⟨g2, 0, none⟩) 64 c2), (10, .slice (some ⟨bk, 0, none⟩) 64 64), (11, .slice (some ⟨z.2.1, 0, none⟩) 8 z.2.2), (12, zv (z.1 : Int))])
      (fun z => [A.grow 85 1 (some ⟨z.2.1, 0, none⟩) z.2.2 8 (ws (rnds l s z.1).l), A.blk bk (ws kL) 85, A.grow 85 1 (some ⟨g2, 0, none⟩) c2 64 (wsr l 64)]) (fun z => z.1 ≤ 64) (fun z => 64 - z.1) (0, gv0, cv0) (Nat.zero_le _) esA (Hs.refl _) ?_
    rintro ⟨i, gv, cv⟩ hi
    dsimp only at hi ⊢
    by_cases hlt : i < 64
    · have hk := kW_get hlt
      have hw := wsr_get (l := l) (i := 64) hlt
      have hstep : rnds l s (i + 1) = rnd (kW i) (wW l i) (rnds l s i) := rfl
      generalize rnds l s i = S at hstep
      generalize hkk : kW i = kk at hk hstep
      generalize hww : wW l i = ww at hw hstep
      have hT : S.h + (rot S.e 6 ^^^ rot S.e 11 ^^^ rot S.e 25) + (S.e &&& S.f ^^^ ~~~S.e &&& S.g) + kk + ww = rT kk ww S := by unfold rT; rw [mix3]
      have hU : rot S.a 2 ^^^ rot S.a 13 ^^^ rot S.a 22 = mixW S.a [2, 13, 22] := by rw [mix3]
      refine hwDH ?_
      refine HL.one (H1.ldg (b := gv) (c := cv) (n := 8) (vs := ws S.l) (v := w32 S.a) rfl memA rfl rfl ?_)
      refine hwDH ?_
      refine HL.one (H1.ldg (b := gv) (c := cv) (n := 8) (vs := ws S.l) (v := w32 S.e) rfl memA rfl rfl ?_)
      refine hwDH ?_
      refine HC.quietS [(some 135, [11], []), (some 136, [135], [0]), (some 137, [136], [1]), (some 138, [14], []), (some 139, [138], [3]), (some 140, [14], []), (some 141, [140], [5, 4]), (some 142, [139, 141], [4, 6]), (some 143, [14], []), (some 144, [143], [8, 6]), (some 145, [142, 144], [7, 9]), (some 146, [137, 145], [2, 10]), (some 147, [14], []), (some 148, [11], []), (some 149, [148], [13]), (some 150, [149], [14]), (some 151, [147, 150], [12, 15]), (some 152, [14], []), (some 153, [152], [17]), (some 154, [11], []), (some 155, [154], [19]), (some 156, [155], [20]), (some 157, [153, 156], [18, 21]), (some 158, [151, 157], [16, 22]), (some 159, [146, 158], [11, 23]), (some 160, [10], []), (some 161, [12], []), (some 162, [160, 161], [25, 26]), (some 163, [162], [27]), (some 164, [159, 163], [24, 28]), (some 165, [5], []), (some 166, [12], []), (some 167, [165, 166], [30, 31]), (some 168, [167], [32]), (some 169, [164, 168], [29, 33]), (some 15, [169], [34, 9, 0, 1, 2, 3, 4, 5, 6, 7, 8, 9, 10, 11, 12, 13, 14, 15, 16, 17, 18, 19, 20, 21, 22, 23, 24, 25, 26, 27, 28, 29, 30, 31, 32, 33, 34])] (by kernel_rfl) (by kernel_rfl) (by kernel_rfl) ?_
      repeat' (first | refine HQ.pa ?_ | refine HQ.ga rfl ?_ | refine HQ.na rfl ?_ | refine HQ.nu rfl ?_ | refine HQ.ldb rfl memA rfl rfl ?_)
      refine HQ.ld rfl (fun w' hM => ownsRow_cell (hM.own (.head _)) (i := 7) rfl) rfl ?_
      repeat' (first | refine HQ.pa ?_ | refine HQ.ga rfl ?_ | refine HQ.na rfl ?_ | refine HQ.nu rfl ?_ | refine HQ.ldb rfl memA rfl rfl ?_)
      refine HQ.call (vs := [_, zv ((6 : Nat) : Int)]) rfl rfl (fun w' _ => rotated_fn S.e 6 (by decide) (by decide) w') ?_
      repeat' (first | refine HQ.pa ?_ | refine HQ.ga rfl ?_ | refine HQ.na rfl ?_ | refine HQ.nu rfl ?_ | refine HQ.ldb rfl memA rfl rfl ?_)
      refine HQ.call (vs := [_, zv ((11 : Nat) : Int)]) rfl rfl (fun w' _ => rotated_fn S.e 11 (by decide) (by decide) w') ?_
      repeat' (first | refine HQ.pa ?_ | refine HQ.ga rfl ?_ | refine HQ.na rfl ?_ | refine HQ.nu rfl ?_ | refine HQ.ldb rfl memA rfl rfl ?_)
      refine HQ.call (vs := [_, zv ((25 : Nat) : Int)]) rfl rfl (fun w' _ => rotated_fn S.e 25 (by decide) (by decide) w') ?_
      repeat' (first | refine HQ.pa ?_ | refine HQ.ga rfl ?_ | refine HQ.na rfl ?_ | refine HQ.nu rfl ?_ | refine HQ.ldb rfl memA rfl rfl ?_)
      refine HQ.ld rfl (fun w' hM => ownsRow_cell (hM.own (.head _)) (i := 5) rfl) rfl ?_
      repeat' (first | refine HQ.pa ?_ | refine HQ.ga rfl ?_ | refine HQ.na rfl ?_ | refine HQ.nu rfl ?_ | refine HQ.ldb rfl memA rfl rfl ?_)
      refine HQ.ld rfl (fun w' hM => ownsRow_cell (hM.own (.head _)) (i := 6) rfl) rfl ?_
      repeat' (first | refine HQ.pa ?_ | refine HQ.ga rfl ?_ | refine HQ.na rfl ?_ | refine HQ.nu rfl ?_ | refine HQ.ldb rfl memA rfl rfl ?_)
      refine HQ.ldb rfl (.tail _ (.head _)) hk rfl ?_
      repeat' (first | refine HQ.pa ?_ | refine HQ.ga rfl ?_ | refine HQ.na rfl ?_ | refine HQ.nu rfl ?_ | refine HQ.ldb rfl memA rfl rfl ?_)
      refine HQ.ld rfl (fun w' hM => ownsRow_cell (hM.own (.tail _ (.tail _ (.head _)))) hw) rfl ?_
      repeat' (first | refine HQ.pa ?_ | refine HQ.ga rfl ?_ | refine HQ.na rfl ?_ | refine HQ.nu rfl ?_ | refine HQ.ldb rfl memA rfl rfl ?_)
      refine HQ.nil ?_
      rw [hT]
      refine hwDH ?_
      refine HC.quietS [(some 170, [13], []), (some 171, [170], [0]), (some 172, [13], []), (some 173, [172], [2, 1]), (some 174, [171, 173], [1, 3]), (some 175, [13], []), (some 176, [175], [5, 3]), (some 177, [174, 176], [4, 6]), (some 178, [13], []), (some 179, [11], []), (some 180, [179], [9]), (some 181, [180], [10]), (some 182, [178, 181], [8, 11]), (some 183, [13], []), (some 184, [11], []), (some 185, [184], [14]), (some 186, [185], [15]), (some 187, [183, 186], [13, 16]), (some 188, [182, 187], [12, 17]), (some 189, [11], []), (some 190, [189], [19]), (some 191, [190], [20]), (some 192, [11], []), (some 193, [192], [22]), (some 194, [193], [23]), (some 195, [191, 194], [21, 24]), (some 196, [188, 195], [18, 25]), (some 197, [177, 196], [7, 26]), (some 16, [197], [27, 6, 0, 1, 2, 3, 4, 5, 6, 7, 8, 9, 10, 11, 12, 13, 14, 15, 16, 17, 18, 19, 20, 21, 22, 23, 24, 25, 26, 27])] (by kernel_rfl) (by kernel_rfl) (by kernel_rfl) ?_
      repeat' (first | refine HQ.pa ?_ | refine HQ.ga rfl ?_ | refine HQ.na rfl ?_ | refine HQ.nu rfl ?_ | refine HQ.ldb rfl memA rfl rfl ?_)
      refine HQ.call (vs := [_, zv ((2 : Nat) : Int)]) rfl rfl (fun w' _ => rotated_fn S.a 2 (by decide) (by decide) w') ?_
      repeat' (first | refine HQ.pa ?_ | refine HQ.ga rfl ?_ | refine HQ.na rfl ?_ | refine HQ.nu rfl ?_ | refine HQ.ldb rfl memA rfl rfl ?_)
      refine HQ.call (vs := [_, zv ((13 : Nat) : Int)]) rfl rfl (fun w' _ => rotated_fn S.a 13 (by decide) (by decide) w') ?_
      repeat' (first | refine HQ.pa ?_ | refine HQ.ga rfl ?_ | refine HQ.na rfl ?_ | refine HQ.nu rfl ?_ | refine HQ.ldb rfl memA rfl rfl ?_)
      refine HQ.call (vs := [_, zv ((22 : Nat) : Int)]) rfl rfl (fun w' _ => rotated_fn S.a 22 (by decide) (by decide) w') ?_
      repeat' (first | refine HQ.pa ?_ | refine HQ.ga rfl ?_ | refine HQ.na rfl ?_ | refine HQ.nu rfl ?_ | refine HQ.ldb rfl memA rfl rfl ?_)
      refine HQ.ld rfl (fun w' hM => ownsRow_cell (hM.own (.head _)) (i := 1) rfl) rfl ?_
      repeat' (first | refine HQ.pa ?_ | refine HQ.ga rfl ?_ | refine HQ.na rfl ?_ | refine HQ.nu rfl ?_ | refine HQ.ldb rfl memA rfl rfl ?_)
      refine HQ.ld rfl (fun w' hM => ownsRow_cell (hM.own (.head _)) (i := 2) rfl) rfl ?_
      repeat' (first | refine HQ.pa ?_ | refine HQ.ga rfl ?_ | refine HQ.na rfl ?_ | refine HQ.nu rfl ?_ | refine HQ.ldb rfl memA rfl rfl ?_)
      refine HQ.ld rfl (fun w' hM => ownsRow_cell (hM.own (.head _)) (i := 1) rfl) rfl ?_
      repeat' (first | refine HQ.pa ?_ | refine HQ.ga rfl ?_ | refine HQ.na rfl ?_ | refine HQ.nu rfl ?_ | refine HQ.ldb rfl memA rfl rfl ?_)
      refine HQ.ld rfl (fun w' hM => ownsRow_cell (hM.own (.head _)) (i := 2) rfl) rfl ?_
      repeat' (first | refine HQ.pa ?_ | refine HQ.ga rfl ?_ | refine HQ.na rfl ?_ | refine HQ.nu rfl ?_ | refine HQ.ldb rfl memA rfl rfl ?_)
      refine HQ.nil ?_
      refine hwDH ?_
      have hU2 : (rot S.a 2 ^^^ rot S.a 13 ^^^ rot S.a 22) + (S.a &&& S.b ^^^ S.a &&& S.c ^^^ S.b &&& S.c) = rU S := by unfold rU; rw [mix3]
      rw [hU2]
      refine HC.sub [(0, .slice (some ⟨bh, oh, none⟩) 8 ch), (5, .slice (some ⟨g2, 0, none⟩) 64 c2), (10, .slice (some ⟨bk, 0, none⟩) 64 64), (11, .slice (some ⟨gv, 0, none⟩) 8 cv), (12, zv (i : Int)), (13, w32 S.a), (14, w32 S.e), (15, w32 (rT kk ww S)), (16, w32 (rU S))] [A.grow 85 1 (some ⟨gv, 0, none⟩) cv 8 (ws S.l), A.blk bk (ws kL) 85, A.grow 85 1 (some ⟨g2, 0, none⟩) c2 64 (wsr l 64)] ?_ esA (Hs.refl _)
      obtain ⟨T, hTT⟩ : ∃ T, T = rT kk ww S := ⟨_, rfl⟩
      obtain ⟨U, hUU⟩ : ∃ U, U = rU S := ⟨_, rfl⟩
      have hnew : ws (rnd kk ww S).l = [w32 (T + U), w32 S.a, w32 S.b, w32 S.c, w32 (S.d + T), w32 S.e, w32 S.f, w32 S.g] := by rw [hTT, hUU]; rfl
      rw [← hTT, ← hUU]
      refine HC.anyC ([(⟨gv, 1, none⟩, w32 S.b), (⟨gv, 2, none⟩, w32 S.c), (⟨gv, 3, none⟩, w32 S.d), (⟨gv, 5, none⟩, w32 S.f), (⟨gv, 6, none⟩, w32 S.g)]) rfl ?_
      refine HB.pa 0 rfl ?_
      refine HB.pa 1 rfl ?_
      refine HB.pa 2 rfl ?_
      refine HB.pa 3 rfl ?_
      refine HB.pa 4 rfl ?_
      refine HB.pa 5 rfl ?_
      refine HB.ld 6 rfl rfl memD ?_
      refine HB.pa 7 rfl ?_
      refine HB.pa 8 rfl ?_
      refine HB.ld 9 rfl rfl memD ?_
      refine HB.pa 10 rfl ?_
      refine HB.pa 11 rfl ?_
      refine HB.ld 12 rfl rfl memD ?_
      refine HB.pa 13 rfl ?_
      refine HB.pa 14 rfl ?_
      refine HB.pa 15 rfl ?_
      refine HB.pa 16 rfl ?_
      refine HB.pa 17 rfl ?_
      refine HB.ld 18 rfl rfl memD ?_
      refine HB.pa 19 rfl ?_
      refine HB.pa 20 rfl ?_
      refine HB.ld 21 rfl rfl memD ?_
      refine HB.all (by (exact Keep.grow memD rfl (Keep.grow memD rfl (Keep.grow memD rfl (Keep.grow memD rfl (Keep.grow memD rfl Keep.nil)))))) [22] (by kernel_rfl) rfl ⟨⟨_, rfl, ?_⟩, trivial⟩
      refine HP.one ?_
      refine H1.lit (cs := [w32 (T + U), w32 S.a, w32 S.b, w32 S.c, w32 (S.d + T), w32 S.e, w32 S.f, w32 S.g]) rfl rfl rfl rfl rfl rfl (fun b9 => ?_)
      apply HB.fold
      refine HB.pa 23 rfl ?_
      refine HB.done (by (exact Keep.grow memD rfl (Keep.grow memD rfl (Keep.grow memD rfl (Keep.grow memD rfl (Keep.grow memD rfl Keep.nil)))))) (by kernel_rfl) ?_
      refine hwDH ?_
      rw [← hnew]
      refine HX.conv (H2 := A.grow 85 1 (some ⟨b9, 0, none⟩) 8 8 (ws (rnd kk ww S).l) :: _) (fun w h => blkGr h rfl (by decide)) ?_
      exact HX.again (i + 1, b9, 8) hlt (by show 64 - (i + 1) < 64 - i; omega) esA (by dsimp only; rw [hstep]; exact Hs.cons Pick.here (Hs.refl _).skip)
    · obtain rfl : i = 64 := by omega
      refine hwDH ?_
      exact HX.cut (gv, cv) trivial esA (Hs.cons Pick.here (Hs.nil _))
  rintro ⟨gv, cv⟩ -
  dsimp only
  obtain ⟨V, hVd⟩ : ∃ V, V = rnds l s 64 := ⟨_, rfl⟩
  have hcomp : comp s l = s.add V := by rw [hVd]; rfl
  rw [hcomp, ← hVd]
  refine hwDH ?_
  refine HC.grow0 85 1 ?_
  refine HC.loop (α := Nat × Option Addr × Nat) (fun z => [(0, .slice (some ⟨bh, oh, none⟩) 8 ch), (11, .slice (some ⟨gv, 0, none⟩) 8 cv), (17, .slice z.2.1 z.1 z.2.2), (18, zv (z.1 : Int))]) (fun z => [A.grow 85 1 z.2.1 z.2.2 z.1 (ws (sumsL s V z.1)), A.grow 85 1 (some ⟨gv, 0, none⟩) cv 8 (ws V.l)]) (fun z => z.1 ≤ 8) (fun z => 8 - z.1) (0, none, 0) (Nat.zero_le _) esA (Hs.refl _) ?_
  rintro ⟨i, ao, co⟩ hi
  dsimp only at hi ⊢
  by_cases hlt : i < 8
  · have hb := hh.cell (S8.get (s := s) hlt)
    have hv := S8.get (s := V) hlt
    have hsn := sumsL_snoc s V i
    generalize s.l.getD i 0 = x at hb hsn
    generalize V.l.getD i 0 = y at hv hsn
    refine hwDH ?_
    refine HC.anyC ([(⟨bh, oh + i, none⟩, w32 x), (⟨gv, i, none⟩, w32 y)]) rfl ?_
    refine HB.pa 0 rfl ?_
    refine HB.pa 1 rfl ?_
    refine HB.pa 2 rfl ?_
    refine HB.pa 3 rfl ?_
    refine HB.ld 4 rfl rfl memD ?_
    refine HB.pa 5 rfl ?_
    refine HB.pa 6 rfl ?_
    refine HB.pa 7 rfl ?_
    refine HB.ld 8 rfl rfl memD ?_
    refine HB.pa 9 rfl ?_
    refine HB.all (by (exact Keep.base hb (Keep.grow (b := gv) (c := cv) (n := 8) (vs := ws V.l) memD hv Keep.nil))) [10] (by kernel_rfl) rfl ⟨⟨_, rfl, ?_⟩, trivial⟩
    refine HP.one ?_
    refine H1.lit (cs := [w32 (x + y)]) rfl rfl rfl rfl rfl rfl (fun b9 => ?_)
    apply HB.fold
    refine HB.all (by (exact Keep.base hb (Keep.grow (b := gv) (c := cv) (n := 8) (vs := ws V.l) memD hv Keep.nil))) [11] (by kernel_rfl) rfl ⟨⟨_, rfl, ?_⟩, trivial⟩
    refine HP.one ?_
    refine H1.app1 (u := w32 (x + y)) rfl rfl (fun _ _ => by first | ((repeat (first | with_reducible exact Rpl.here | with_reducible apply Rpl.there)); done) | (repeat (first | exact Rpl.here | apply Rpl.there))) memA rfl rfl (by omega) rfl rfl (fun a' c' => ?_)
    rw [ws_snoc, hsn]
    apply HB.fold
    refine HB.pa 12 rfl ?_
    refine HB.done (by (exact Keep.base hb (Keep.grow (b := gv) (c := cv) (n := 8) (vs := ws V.l) memD hv Keep.nil))) (by kernel_rfl) ?_
    refine hwDH ?_
    exact HX.again (i + 1, some ⟨a', 0, none⟩, c') hlt (by show 8 - (i + 1) < 8 - i; omega) esA (Hs.cons (Pick.there Pick.here) (Hs.cons (Pick.there Pick.here) (Hs.nil _)))
  · obtain rfl : i = 8 := by omega
    refine HC.openg (e := 85) (sz := 1) (a := ao) (c := co) (n := 8) (xs := ws (sumsL s V 8)) memA (by decide) ?_
    rintro go rfl
    refine hwDH ?_
    exact HX.ret1 rfl rfl fun w' hM => ⟨(go, co), trivial, rfl, hM.sub (Hs.cons Pick.here (Hs.refl _).skip)⟩
end Go.Sx
/- Chapter 2, the reference: the digest of a string; Chain, Head: the walks. -/
namespace Go.Sx
open Go Go.Proofs Go.RowKit
theorem grow_sub {w : World} {e : TypeId} {b n c off m c2 : Nat} {xs : List Value} (h : w.ownsRow 0 e 1 (.slice (some ⟨b, 0, none⟩) n c) n xs) (hl : xs.length = n) (ho : off + m ≤ n) (hm : m ≤ c2) : Rd w (.slice (some ⟨b, off, none⟩) m c2) ((xs.drop off).take m) := by
  have hlen : ((xs.drop off).take m).length = m := by rw [List.length_take, List.length_drop]; omega
  obtain ⟨hb, -⟩ : b < w.heap.size ∧ True := by
    rcases h.2 with ⟨h1, -⟩ | ⟨g, cap, cur, hv, -, hg, -⟩
    · cases h1
    · cases hv; exact ⟨(Array.getElem?_eq_some_iff.1 hg).1, trivial⟩
  refine ⟨_, _, by rw [hlen], by rw [hlen]; exact hm, .inr ⟨b, off, rfl, hb, fun i u hu => ?_⟩⟩
  have hi : i < m := by
    have := (List.getElem?_eq_some_iff.1 hu).1
    rw [hlen] at this; exact this
  rw [List.getElem?_take_of_lt hi, List.getElem?_drop] at hu
  exact ownsRow_cell h hu
theorem take_b8 {l : List UInt8} {i : Nat} (h : i < l.length) : ub (l.take i) ++ [b8 (l.getD i 0)] = ub (l.take (i + 1)) := by
  have e : l.getD i 0 = l[i] := by simp [h]
  rw [List.take_add_one, List.getElem?_eq_getElem h, ub_app1, e]; rfl
theorem shr_zero (x : UInt32) : x >>> UInt32.ofNat 0 = x := by
  refine UInt32.toNat_inj.1 ?_
  rw [UInt32.toNat_shiftRight]
  simp
def digI (s : S8) (i : Nat) : List UInt8 := (s.l.take i).flatMap by4
theorem digI_snoc (s : S8) {i : Nat} (h : i < 8) : digI s i ++ [(s.l.getD i 0 >>> UInt32.ofNat 24).toUInt8, (s.l.getD i 0 >>> UInt32.ofNat 16).toUInt8, (s.l.getD i 0 >>> UInt32.ofNat 8).toUInt8, (s.l.getD i 0).toUInt8] = digI s (i + 1) := by
  have h8 : i < s.l.length := h
  unfold digI
  rw [List.take_add_one, List.getElem?_eq_getElem h8, List.flatMap_append]
  congr 1
  have e : s.l.getD i 0 = s.l[i] := by simp [h8]
  rw [e]
  show _ = by4 s.l[i] ++ []
  rw [List.append_nil]
  unfold by4
  rw [shr_zero]
theorem digI_8 (s : S8) : digI s 8 = digL s := rfl
theorem ub_app4 (ys zs : List UInt8) : ub ys ++ ub zs = ub (ys ++ zs) := by unfold ub; rw [List.map_append]
theorem HC.capOfG2 {P : Program} {r : Option Nat} {N : Nat} {ds : List Deferred} {Q : Post} {E : Env} {w0 : World} {H : List Atom} {e : TypeId} {co : Code} {n c : Nat} {a : Option Addr} {xs : List Value} (hm : A.grow e 1 a c n xs ∈ H) (h : n ≤ c → HC P r N ds co Q E w0 H) : HC P r N ds co Q E w0 H := fun w hM => by
  refine h ?_ w hM
  rcases (hM.own hm).2 with ⟨h1, rfl⟩ | ⟨g, cap, cur, hv, -, -, hnc, -⟩
  · exact Nat.zero_le _
  · cases hv; exact hnc
attribute [local irreducible] WC WL WX POp Then Again Fn NX W1 WA WO QL RP RA Yld LoopAt HC HL HX HN H1 HA HO HQ HB HP A.blk A.grow A.rd A.obj A.mp AgainH CutH
attribute [local irreducible] shaI shaT
set_option maxHeartbeats 2000000 in
theorem extended_fn (s : ByteArray) (hs : s.size ≤ 900000) (w : World) : Fn Tryz.prog 48 #[.string s] w fun v w' => ∃ z : Nat × Nat, True ∧ v = .slice (some ⟨z.1, 0, none⟩) (shaP s.data.toList).length z.2 ∧ Mm w [A.grow 5 1 (some ⟨z.1, 0, none⟩) z.2 (shaP s.data.toList).length (ub (shaP s.data.toList))] w' := by
  have hlen : s.data.toList.length = s.size := by rw [Array.length_toList]; rfl
  obtain ⟨n, hn⟩ : ∃ n, n = s.size := ⟨_, rfl⟩
  have hz : shaZ n < 64 := by unfold shaZ; omega
  have hP : shaP s.data.toList = s.data.toList ++ [128] ++ List.replicate (shaZ n) 0 ++ (List.range 8).map (shaT n) := by unfold shaP; rw [hlen, hn]
  have hPl := shaP_len s.data.toList
  rw [hlen, ← hn] at hPl
  refine enterH (l := [_]) rfl Tryz.ntmps48 rfl ?_
  refine hwDH ?_
  refine HC.grow0 5 1 ?_
  refine HC.loop (α := Nat × Option Addr × Nat) (fun z => [(0, .string s), (3, .slice z.2.1 z.1 z.2.2), (4, zv (z.1 : Int))]) (fun z => [A.grow 5 1 z.2.1 z.2.2 z.1 (ub (s.data.toList.take z.1))]) (fun z => z.1 ≤ n) (fun z => n - z.1) (0, none, 0) (Nat.zero_le _) esA (Hs.refl _) ?_
  rintro ⟨i, a, c⟩ hi
  dsimp only at hi ⊢
  by_cases hlt : i < n
  · have hlt' : i < s.size := by omega
    have htk := take_b8 (l := s.data.toList) (i := i) (by omega)
    refine hwDH ?_
    refine HL.one (H1.lit (cs := [b8 (s.data.toList.getD i 0)]) rfl rfl rfl rfl rfl rfl (fun b9 => ?_))
    refine hwDH ?_
    refine HL.one (H1.app1 (u := b8 (s.data.toList.getD i 0)) rfl rfl (fun _ _ => by first | ((repeat (first | with_reducible exact Rpl.here | with_reducible apply Rpl.there)); done) | (repeat (first | exact Rpl.here | apply Rpl.there))) memA rfl rfl (by omega) rfl rfl (fun a' c' => ?_))
    rw [htk]
    refine hwDH ?_
    exact HX.again (i + 1, some ⟨a', 0, none⟩, c') hlt (by show n - (i + 1) < n - i; omega) esA (Hs.cons (Pick.there Pick.here) (Hs.nil _))
  have hlt' : ¬ i < s.size := by omega
  obtain rfl : i = n := by omega
  rw [List.take_of_length_le (by omega)]
  refine hwDH ?_
  refine HL.one (H1.lit (cs := [b8 128]) rfl rfl rfl rfl rfl rfl (fun b9 => ?_))
  refine hwDH ?_
  refine HL.one (H1.app1 (u := b8 128) rfl rfl (fun _ _ => by first | ((repeat (first | with_reducible exact Rpl.here | with_reducible apply Rpl.there)); done) | (repeat (first | exact Rpl.here | apply Rpl.there))) memA rfl rfl (by omega) rfl rfl (fun a1 c1 => ?_))
  rw [ub_app1]
  refine hwDH ?_
  refine HC.loop (α := Nat × Nat × Nat) (fun z => [(0, .string s), (3, .slice (some ⟨z.2.1, 0, none⟩) (i + 1 + z.1) z.2.2)]) (fun z => [A.grow 5 1 (some ⟨z.2.1, 0, none⟩) z.2.2 (i + 1 + z.1) (ub (s.data.toList ++ [128] ++ List.replicate z.1 0))]) (fun z => z.1 ≤ shaZ i) (fun z => shaZ i - z.1) (0, a1, c1) (Nat.zero_le _) esA
    (by show Hs _ [A.grow _ 1 _ c1 (i + 1) (ub (s.data.toList ++ [128] ++ []))]; rw [List.append_nil]; exact Hs.cons (Pick.there Pick.here) (Hs.nil _)) ?_
  rintro ⟨j, a2, c2⟩ hj
  dsimp only at hj ⊢
  by_cases hlt2 : j < shaZ i
  · have hne : ¬ (((i + 1 + j : Nat) : Int) % 64 = 56) := by unfold shaZ at hlt2; omega
    refine hwDH ?_
    refine HL.one (H1.lit (cs := [b8 0]) rfl rfl rfl rfl rfl rfl (fun b9 => ?_))
    refine hwDH ?_
    refine HL.one (H1.app1 (u := b8 0) rfl rfl (fun _ _ => by first | ((repeat (first | with_reducible exact Rpl.here | with_reducible apply Rpl.there)); done) | (repeat (first | exact Rpl.here | apply Rpl.there))) memA rfl rfl (by omega) rfl rfl (fun a' c' => ?_))
    rw [ub_app1, rep_snoc]
    refine hwDH ?_
    exact HX.again (j + 1, a', c') hlt2 (by show shaZ i - (j + 1) < shaZ i - j; omega) esA (Hs.cons (Pick.there Pick.here) (Hs.nil _))
  obtain rfl : j = shaZ i := by omega
  have hne : ((i + 1 + shaZ i : Nat) : Int) % 64 = 56 := by unfold shaZ; omega
  refine hwDH ?_
  refine HC.loop (α := Nat × Nat × Nat) (fun z => [(0, .string s), (3, .slice (some ⟨z.2.1, 0, none⟩) (i + 1 + shaZ i + z.1) z.2.2), (5, zv (7 - (z.1 : Int)))]) (fun z => [A.grow 5 1 (some ⟨z.2.1, 0, none⟩) z.2.2 (i + 1 + shaZ i + z.1) (ub (s.data.toList ++ [128] ++ List.replicate (shaZ i) 0 ++ (List.range z.1).map (shaT i)))]) (fun z => z.1 ≤ 8) (fun z => 8 - z.1) (0, a2, c2) (Nat.zero_le _) esA
    (by show Hs _ [A.grow _ 1 _ c2 (i + 1 + shaZ i) (ub (s.data.toList ++ [128] ++ List.replicate (shaZ i) 0 ++ []))]; rw [List.append_nil]; exact Hs.refl _) ?_
  rintro ⟨k, a3, c3⟩ hk
  dsimp only at hk ⊢
  by_cases hlt3 : k < 8
  · have hge : (0 : Int) ≤ 7 - (k : Int) := by omega
    refine hwDH ?_
    rw [← hn]
    refine hwDH ?_
    refine HL.pa ?_ (POp.shr (a := 8 * i) (b := 8 * (7 - k)) rfl rfl (by omega) (by omega) (by omega))
    refine hwDH ?_
    refine HL.one (H1.lit (cs := [b8 (shaT i k)]) rfl rfl (by unfold shaT; rfl) rfl rfl rfl (fun b9 => ?_))
    refine hwDH ?_
    refine HL.one (H1.app1 (u := b8 (shaT i k)) rfl rfl (fun _ _ => by first | ((repeat (first | with_reducible exact Rpl.here | with_reducible apply Rpl.there)); done) | (repeat (first | exact Rpl.here | apply Rpl.there))) memA rfl rfl (by omega) rfl rfl (fun a' c' => ?_))
    rw [ub_app1, rng_snoc]
    refine hwDH ?_
    refine HX.again (k + 1, a', c') hlt3 (by show 8 - (k + 1) < 8 - k; omega) ⟨rfl, rfl, ?_, trivial⟩ (Hs.cons (Pick.there Pick.here) (Hs.nil _))
    show some (zv _) = some (zv _)
    congr 2
    show (7 - (k : Int)) - 1 = 7 - ((k + 1 : Nat) : Int)
    omega
  · obtain rfl : k = 8 := by omega
    have hge : ¬ ((0 : Int) ≤ 7 - ((8 : Nat) : Int)) := by omega
    rw [← hP, show i + 1 + shaZ i + 8 = (shaP s.data.toList).length from by rw [hPl]]
    refine hwDH ?_
    exact HX.ret1 rfl rfl fun w' hM => ⟨(a3, c3), trivial, rfl, hM⟩
attribute [local irreducible] digL
set_option maxHeartbeats 4000000 in
theorem refSum_fn (s : ByteArray) (hs : s.size ≤ 900000) (w : World) : Fn Tryz.prog 17 #[.string s] w fun v w' => v = .string (sumS s) ∧ Ext w w' := by
  have hlen : s.data.toList.length = s.size := by rw [Array.length_toList]; rfl
  have hPl := shaP_len s.data.toList
  have hPm := shaP_mod s.data.toList
  have hz : shaZ s.data.toList.length < 64 := by unfold shaZ; omega
  obtain ⟨nq, hnq⟩ : ∃ nq, nq = (shaP s.data.toList).length / 64 := ⟨_, rfl⟩
  have hq : 64 * nq = (shaP s.data.toList).length := by omega
  have hsum : sumS s = ⟨(digL (sums (shaP s.data.toList) nq)).toArray⟩ := by unfold sumS sumL; rw [hnq]
  rw [hsum]
  refine enterH (l := [_]) rfl Tryz.ntmps17 rfl ?_
  refine hwDH ?_
  refine HL.one (H1.lit (cs := ws shaI.l) rfl rfl (by kernel_rfl) rfl rfl rfl (fun b0 => ?_))
  refine hwDH ?_
  refine HL.one (H1.callz (vs := [.string s]) rfl rfl (fun w' _ => extended_fn s hs w') ?_)
  rintro ⟨gb, cb⟩ -
  dsimp only
  refine hwDH ?_
  have hqb : nq ≤ 15000 := by omega
  generalize hPd : shaP s.data.toList = Pd at hq
  rw [← hq]
  refine HC.conv (H2 := A.grow 85 1 (some ⟨b0, 0, none⟩) 8 8 (ws (sums Pd 0).l) :: [A.grow 5 1 (some ⟨gb, 0, none⟩) cb (64 * nq) (ub Pd)]) (fun w h => blkGr (h.sub (Hs.cons (Pick.there Pick.here) (Hs.refl _))) rfl (by decide)) ?_
  refine HC.loop (α := Nat × Nat × Nat) (fun z => [(3, .slice (some ⟨z.2.1, 0, none⟩) 8 z.2.2), (4, .slice (some ⟨gb, 0, none⟩) (64 * nq) cb), (5, zv ((64 * z.1 : Nat) : Int))]) (fun z => A.grow 85 1 (some ⟨z.2.1, 0, none⟩) z.2.2 8 (ws (sums Pd z.1).l) :: [A.grow 5 1 (some ⟨gb, 0, none⟩) cb (64 * nq) (ub Pd)]) (fun z => z.1 ≤ nq) (fun z => nq - z.1) (0, b0, 8) (Nat.zero_le _) esA (Hs.refl _) ?_
  rintro ⟨q, gh, ch⟩ hqn
  dsimp only at hqn ⊢
  by_cases hlt : q < nq
  · have hstep : sums Pd (q + 1) = comp (sums Pd q) ((Pd.drop (64 * q)).take 64) := rfl
    have hl64 : ((Pd.drop (64 * q)).take 64).length = 64 := by rw [List.length_take, List.length_drop]; omega
    refine HC.capOfG2 (e := 5) (a := some ⟨gb, 0, none⟩) (c := cb) (n := 64 * nq) (xs := ub Pd) memA fun hcb => ?_
    refine HC.capOfG2 (e := 85) (a := some ⟨gh, 0, none⟩) (c := ch) (n := 8) (xs := ws (sums Pd q).l) memA fun hch => ?_
    refine hwDH ?_
    refine HL.pa ?_ (POp.cut_lh rfl rfl rfl (by omega) (by omega) (by omega) (by omega))
    rw [show 0 + ((64 * q : Nat) : Int).toNat * 1 = 64 * q from by omega, show (((64 * q : Nat) : Int) + 64).toNat - ((64 * q : Nat) : Int).toNat = 64 from by omega]
    refine hwDH ?_
    refine HL.one (H1.callz (vs := [_, _]) rfl rfl (fun w' hM => block_fn (sums Pd q) ((Pd.drop (64 * q)).take 64) hl64 w' ?_ ?_) ?_)
    · have := grow_sub (hM.own (e := 5) (sz := 1) (a := some ⟨gb, 0, none⟩) (c := cb) (n := 64 * nq) (xs := ub Pd) memA) (by rw [ub_len, ← hq]) (off := 64 * q) (m := 64) (c2 := cb - ((64 * q : Nat) : Int).toNat) (by omega) (by omega)
      rwa [ub_mid] at this
    · exact Mm.gr (e := 85) (a := some ⟨gh, 0, none⟩) (c := ch) hM (.head _)
    rintro ⟨g2, c2⟩ -
    dsimp only
    rw [← hstep]
    refine hwDH ?_
    exact HX.again (q + 1, g2, c2) hlt (by show nq - (q + 1) < nq - q; omega) esA (Hs.cons Pick.here (Hs.refl _).skip)
  obtain rfl : q = nq := by omega
  generalize hS : sums Pd q = S
  refine hwDH ?_
  refine HC.grow0 5 1 ?_
  refine HC.loop (α := Nat × Option Addr × Nat) (fun z => [(3, .slice (some ⟨gh, 0, none⟩) 8 ch), (6, .slice z.2.1 (4 * z.1) z.2.2), (7, zv (z.1 : Int))]) (fun z => [A.grow 5 1 z.2.1 z.2.2 (4 * z.1) (ub (digI S z.1)), A.grow 85 1 (some ⟨gh, 0, none⟩) ch 8 (ws S.l)]) (fun z => z.1 ≤ 8) (fun z => 8 - z.1) (0, none, 0) (Nat.zero_le _) esA (Hs.cons Pick.here (Hs.cons Pick.here (Hs.refl _).skip)) ?_
  rintro ⟨i, a, c⟩ hi
  dsimp only at hi ⊢
  by_cases hlt8 : i < 8
  · have hv := S8.get (s := S) hlt8
    have hsn := digI_snoc S hlt8
    generalize S.l.getD i 0 = x at hv hsn
    refine hwDH ?_
    refine HC.anyC ([(⟨gh, i, none⟩, w32 x)]) rfl ?_
    refine HB.pa 0 rfl ?_
    refine HB.pa 1 rfl ?_
    refine HB.pa 2 rfl ?_
    refine HB.pa 3 rfl ?_
    refine HB.ld 4 rfl rfl memD ?_
    refine HB.pa 5 rfl ?_
    refine HB.pa 6 rfl ?_
    refine HB.pa 7 rfl ?_
    refine HB.pa 8 rfl ?_
    refine HB.pa 9 rfl ?_
    refine HB.ld 10 rfl rfl memD ?_
    refine HB.pa 11 rfl ?_
    refine HB.pa 12 rfl ?_
    refine HB.pa 13 rfl ?_
    refine HB.pa 14 rfl ?_
    refine HB.pa 15 rfl ?_
    refine HB.ld 16 rfl rfl memD ?_
    refine HB.pa 17 rfl ?_
    refine HB.pa 18 rfl ?_
    refine HB.pa 19 rfl ?_
    refine HB.pa 20 rfl ?_
    refine HB.pa 21 rfl ?_
    refine HB.ld 22 rfl rfl memD ?_
    refine HB.pa 23 rfl ?_
    refine HB.all (by (exact Keep.grow (b := gh) (c := ch) (n := 8) (vs := ws S.l) memD hv Keep.nil)) [24] (by kernel_rfl) rfl ⟨⟨_, rfl, ?_⟩, trivial⟩
    refine HP.one ?_
    refine H1.lit (cs := ub [(x >>> UInt32.ofNat 24).toUInt8, (x >>> UInt32.ofNat 16).toUInt8, (x >>> UInt32.ofNat 8).toUInt8, x.toUInt8]) rfl rfl rfl rfl rfl rfl (fun b9 => ?_)
    apply HB.fold
    refine HB.all (by (exact Keep.grow (b := gh) (c := ch) (n := 8) (vs := ws S.l) memD hv Keep.nil)) [25] (by kernel_rfl) rfl ⟨⟨_, rfl, ?_⟩, trivial⟩
    refine HP.one ?_
    refine H1.app (sz := 1) (m := 4) (news := ub [(x >>> UInt32.ofNat 24).toUInt8, (x >>> UInt32.ofNat 16).toUInt8, (x >>> UInt32.ofNat 8).toUInt8, x.toUInt8]) rfl (by decide) rfl rfl (fun _ _ => by first | ((repeat (first | with_reducible exact Rpl.here | with_reducible apply Rpl.there)); done) | (repeat (first | exact Rpl.here | apply Rpl.there))) rfl (fun w' hM j u hj => ?_) (by
        intro v hv
        obtain ⟨y, -, rfl⟩ := List.mem_map.1 hv
        rfl) (by omega) (by decide) rfl (fun a' c' hac => ?_)
    · rw [add_lit, Nat.zero_add]; exact (hM.blk (b := b9) memA).cell hj
    rw [ub_app4, hsn, show 4 * i + 4 = 4 * (i + 1) from by omega]
    apply HB.fold
    refine HB.pa 26 rfl ?_
    refine HB.done (by (exact Keep.grow (b := gh) (c := ch) (n := 8) (vs := ws S.l) memD hv Keep.nil)) (by kernel_rfl) ?_
    refine hwDH ?_
    exact HX.again (i + 1, a', c') hlt8 (by show 8 - (i + 1) < 8 - i; omega) esA (Hs.cons (Pick.there Pick.here) (Hs.cons (Pick.there Pick.here) (Hs.nil _)))
  · obtain rfl : i = 8 := by omega
    refine HC.openg (e := 5) (sz := 1) (a := a) (c := c) (n := 4 * 8) (xs := ub (digI S 8)) memA (by decide) ?_
    rintro go rfl
    rw [digI_8]
    have hdl : (digL S).length = 4 * 8 := digL_len S
    rw [← hdl]
    refine hwDH ?_
    refine HL.one (H1.bstrg (ys := digL S) (c := c) (b := go) rfl (.head _) rfl ?_)
    refine hwDH ?_
    exact HX.ret1 rfl rfl fun w' hM => ⟨rfl, hM.ext⟩
end Go.Sx
/- Plain, chapter 26: a byte that is changed. -/
namespace Go.Sx
open Go
theorem hwJM {G G2 : Prop} (x : G2) (hwq : Hold G2 → G := by
    intro hQq
    repeat' (first | apply HL.fold | apply HA.fold | apply HL.nil | apply HX.n_then | apply HC.seq | apply HC.region | refine HL.pa ?_ | refine HL.ga rfl ?_ | refine HL.na rfl ?_ | refine HL.nu rfl rfl ?_ | apply HC.block | apply HC.skip | apply HC.exit | apply HC.ret | apply HX.e_block | refine HX.e_other rfl ?_ | apply HX.e_then | apply HX.e_again | apply HX.n_block | apply HX.r_then | apply HX.r_block | apply HX.r_again | refine HC.cond_yes rfl ?_ | refine HC.cond_no rfl ?_ | refine HL.one (H1.ldb rfl memA rfl rfl ?_) | refine HC.cond rfl (fun hc => ?_) (fun hc => ?_) | refine HC.cond_b rfl (fun hc => ?_) (fun hc => ?_))
    exact hQq.get) : G := hwq ⟨x⟩
/-- Whether a byte is one of a length. -/
def sizedL : List ByteArray → Nat → Bool
  | [], _ => false
  | r :: l, at' => if 1 ≤ at' ∧ at' ≤ (putN r.size).length then true else if 1 + (putN r.size).length + r.size + 32 ≤ at' then sizedL l (at' - (1 + (putN r.size).length + r.size + 32)) else false
/-- What heads are computed of. -/
def headsL (h : ByteArray) : List ByteArray → List ByteArray
  | [] => []
  | r :: l => (mkB 2 ++ h ++ r) :: headsL (chainS h r) l
def Coll (h : ByteArray) (l l' : List ByteArray) : Prop := ∃ (i : Nat) (a b : ByteArray), (headsL h l)[i]? = some a ∧ (headsL h l')[i]? = some b ∧ a ≠ b ∧ sumS a = sumS b
theorem catS2 (a b : ByteArray) : catS [a, b] = a ++ b := ba_ext (by
  rw [ByteArray.data_append, Array.toList_append]
  show a.data.toList ++ (b.data.toList ++ []) = _
  rw [List.append_nil])
theorem chainS_sum (h r : ByteArray) : chainS h r = sumS (mkB 2 ++ h ++ r) := by
  show sumS (mkB 2 ++ catS [h, r]) = _
  rw [catS2, ByteArray.append_assoc]
theorem loadF_ext : ∀ (n : Nat) {s : List UInt8} {t t' : Tp}, s.length - t.size ≤ n → loadF s t = some t' → ∃ l', t' = adds t l'
  | n, s, t, t', hn, h => by
    by_cases h1 : t.size < s.length ∧ s.getD t.size 0 ≠ 0
    · by_cases h2 : s.getD t.size 0 = 1
      · cases hd : decS s (t.size + 1) with
        | none => rw [loadF_none h1 hd] at h; cases h
        | some x =>
          obtain ⟨r, q⟩ := x
          by_cases h3 : q + 32 ≤ s.length ∧ outL t.head (mkBA r) = (s.drop t.size).take (q + 32 - t.size)
          · rw [loadF_step h1 h2 hd h3] at h
            have hol := outL_pos t.head (mkBA r)
            match n, hn with
            | 0, hn => omega
            | n + 1, hn =>
              obtain ⟨l', rfl⟩ := loadF_ext n (by show s.length - (t.size + (outL t.head (mkBA r)).length) ≤ n; omega) h
              exact ⟨mkBA r :: l', rfl⟩
          · rw [loadF_no h1 hd h3] at h; cases h
      · rw [loadF_bad h1 h2] at h; cases h
    · rw [loadF_end h1] at h
      injection h with h
      exact ⟨[], h.symm⟩
theorem Coll.cons {h r : ByteArray} {l l' : List ByteArray} (k : Coll (chainS h r) l l') : Coll h (r :: l) (r :: l') := by
  obtain ⟨i, a, b, h1, h2, h3, h4⟩ := k
  exact ⟨i + 1, a, b, h1, h2, h3, h4⟩
theorem mkBA_toList (l : List UInt8) : (mkBA l).data.toList = l := rfl
theorem toList_mkBA (b : ByteArray) : mkBA b.data.toList = b := by cases b; rfl
theorem set_ne_of_getD {l : List UInt8} {i : Nat} {c : UInt8} (hi : i < l.length) (h : l.getD i 0 ≠ c) : l.set i c ≠ l := by
  intro e
  have h1 : (l.set i c)[i]? = some c := by rw [List.getElem?_set_self hi]
  rw [e] at h1
  rw [List.getD_eq_getElem?_getD, h1] at h
  exact h rfl
theorem getD_app_l {a b : List UInt8} {i : Nat} (h : i < a.length) : (a ++ b).getD i 0 = a.getD i 0 := by
  rw [List.getD_eq_getElem?_getD, List.getD_eq_getElem?_getD, List.getElem?_append_left h]
theorem getD_app_r {a b : List UInt8} {i : Nat} (h : a.length ≤ i) : (a ++ b).getD i 0 = b.getD (i - a.length) 0 := by
  rw [List.getD_eq_getElem?_getD, List.getD_eq_getElem?_getD, List.getElem?_append_right h]
theorem outL_eq (h r : ByteArray) : outL h r = 1 :: (putN r.size ++ (r.data.toList ++ (chainS h r).data.toList)) := by unfold outL; rw [List.append_assoc]
theorem take_one (X T : List UInt8) : ((1 : UInt8) :: (X ++ T)).take (1 :: X).length = 1 :: X := by rw [List.length_cons, List.take_succ_cons, List.take_left]
end Go.Sx
/- Chapter 26: heads, sized; the reference's Chain and Head: the walks. -/
namespace Go.Sx
open Go Go.Proofs Go.RowKit
def sizedZ : List ByteArray → Int → Bool
  | [], _ => false
  | r :: l, at' => if 1 ≤ at' ∧ at' ≤ ((strN r.size).size : Int) then true else sizedZ l (at' - (1 + ((strN r.size).size : Int) + (r.size : Int) + 32))
theorem sizedZ_neg : ∀ (l : List ByteArray) (at' : Int), at' < 1 → sizedZ l at' = false
  | [], _, _ => rfl
  | r :: l, at', h => by
    show (if _ then _ else _) = _
    rw [if_neg (by omega)]
    exact sizedZ_neg l _ (by omega)
theorem head_snoc (l : List ByteArray) (r : ByteArray) : (adds t00 (l ++ [r])).head = chainS (adds t00 l).head r := by rw [adds_app]; rfl
theorem head_size (l : List ByteArray) : (adds t00 l).head.size ≤ 32 := adds_head l t00 (Nat.le_refl _)
theorem fr_mem2 {l : List ByteArray} {i : Nat} (h : i < l.length) : fr l i ∈ l := by unfold fr; simp [h]
theorem mkB2_size (h : ByteArray) : (mkB 2 ++ h).size = 1 + h.size := mkB_size 2 h
attribute [local irreducible] WC WL WX POp Then Again Fn NX W1 WA WO QL RP RA Yld LoopAt HC HL HX HN H1 HA HO HQ HB HP A.blk A.grow A.rd A.obj A.mp AgainH CutH
attribute [local irreducible] sumS chainS
theorem refChain_fn (h r : ByteArray) (hs : h.size + r.size ≤ 800000) (w : World) : Fn Tryz.prog 118 #[.string h, .string r] w fun v w' => v = .string (chainS h r) ∧ Ext w w' := by
  have h1 := mkB2_size h
  have h2 := ba_append_size (mkB 2 ++ h) r
  have hm : (mkB 2).size = 1 := rfl
  refine enterH (l := [_, _]) rfl Tryz.ntmps118 rfl ?_
  refine hwJM ?_
  refine HL.pa ?_ (POp.cat (s := mkB 2) (u := h) rfl rfl (by omega))
  refine hwJM ?_
  refine HL.one (H1.callx (vs := [.string (mkB 2 ++ h ++ r)]) rfl rfl (fun w' _ => refSum_fn (mkB 2 ++ h ++ r) (by omega) w') ?_)
  rw [← chainS_sum]
  refine hwJM ?_
  exact HX.ret1 rfl rfl fun w' hM => ⟨rfl, hM.ext⟩
theorem refHead_fn (v : Value) (l : List ByteArray) (hs : ∀ s ∈ l, s.size ≤ 700000) (hl : l.length ≤ 1000000) (w : World) (hR : Rd w v (strs l)) :
    Fn Tryz.prog 116 #[v] w fun v w' => v = .string (adds t00 l).head ∧ Ext w w' := by
  obtain ⟨a0, c0, rfl, hc0⟩ := rd_strs_shape hR
  refine enterH (l := [_]) rfl Tryz.ntmps116 rfl ?_
  refine hwJM ?_
  refine HL.one (H1.make (l := 32) (c := 32) rfl rfl rfl rfl rfl (Nat.le_refl _) (by decide) (by decide) rfl (fun bm => ?_))
  rw [ub_zero]
  refine hwJM ?_
  refine HL.one (H1.bstrB (ys := List.replicate 32 0) rfl memA rfl ?_)
  refine hwJM ?_
  refine HC.loop (α := Nat) (fun i => [(0, .slice a0 l.length c0), (3, .string (adds t00 (l.take i)).head), (4, zv (i : Int))]) (fun _ => []) (fun i => i ≤ l.length) (fun i => l.length - i) 0 (Nat.zero_le _) ⟨rfl, rfl, rfl, trivial⟩ (Hs.refl _).skip ?_
  rintro i hi
  by_cases hlt : i < l.length
  · obtain ⟨b, off, rfl⟩ := rd_some hR (by rintro rfl; simp at hlt)
    have hget := hR.cell (strs_get hlt)
    have htk := take_fr hlt
    have hsz := hs _ (fr_mem2 hlt)
    have hhd := head_size (l.take i)
    have hsn := head_snoc (l.take i) (fr l i)
    rw [← htk] at hsn
    generalize fr l i = s at hget hsz hsn
    refine hwJM ?_
    refine HL.one (H1.ld0 rfl hget rfl ?_)
    refine hwJM ?_
    refine HL.one (H1.callx (vs := [_, _]) rfl rfl (fun w' _ => refChain_fn (adds t00 (l.take i)).head s (by omega) w') ?_)
    rw [← hsn]
    refine hwJM ?_
    exact HX.again (i + 1) hlt (by show l.length - (i + 1) < l.length - i; omega) esA (Hs.refl _)
  · obtain rfl : i = l.length := by omega
    rw [List.take_length]
    refine hwJM ?_
    exact HX.ret1 rfl rfl fun w' hM => ⟨rfl, hM.ext⟩
end Go.Sx

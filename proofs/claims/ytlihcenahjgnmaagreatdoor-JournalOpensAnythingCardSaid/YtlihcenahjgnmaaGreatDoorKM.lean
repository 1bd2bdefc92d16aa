/- Chapter 25: the reference's disk: plain, and the walks. -/
import Derived.Test.YtlihcenahjgnmaaGreatDoorJR
import Derived.Test.YtlihcenahjgnmaaGreatDoorJB
namespace Go.Sx
open Go Go.Proofs Go.RowKit
theorem hwKM {G G2 : Prop} (x : G2) (hwq : Hold G2 → G := by
    intro hQq
    repeat' (first | refine HL.pa ?_ (POp.nilCheck rfl) | apply HL.fold | apply HA.fold | apply HL.nil | apply HX.n_then | apply HC.seq | apply HC.region | refine HL.pa ?_ | refine HL.ga rfl ?_ | refine HL.na rfl ?_ | refine HL.nu rfl rfl ?_ | apply HC.block | apply HC.skip | apply HC.exit | apply HC.ret | apply HX.e_block | refine HX.e_other rfl ?_ | apply HX.e_then | apply HX.e_again | apply HX.n_block | apply HX.r_then | apply HX.r_block | apply HX.r_again | refine HC.cond_yes rfl ?_ | refine HC.cond_no rfl ?_ | refine HL.one (H1.ldb rfl memA rfl rfl ?_) | refine HC.cond rfl (fun hc => ?_) (fun hc => ?_) | refine HC.cond_b rfl (fun hc => ?_) (fun hc => ?_))
    exact hQq.get) : G := hwq ⟨x⟩
theorem hnKM {G G2 : Prop} (x : G2) (hwq : Hold G2 → G := by
    intro hQq
    repeat' (first | refine HL.pa ?_ (POp.nilCheck rfl) | apply HL.fold | apply HA.fold | apply HL.nil | apply HX.n_then | apply HC.seq | apply HC.region | refine HL.pa ?_ | refine HL.ga rfl ?_ | refine HL.na rfl ?_ | refine HL.nu rfl rfl ?_ | apply HC.block | apply HC.skip | apply HC.exit | apply HC.ret | apply HX.e_block | refine HX.e_other rfl ?_ | apply HX.e_then | apply HX.e_again | apply HX.n_block | apply HX.r_then | apply HX.r_block | apply HX.r_again | refine HC.cond_yes rfl ?_ | refine HC.cond_no rfl ?_ | refine HL.one (H1.ldb rfl memA rfl rfl ?_))
    exact hQq.get) : G := hwq ⟨x⟩
theorem hbKM {G G2 : Prop} (x : G2) (hwq : Hold G2 → G := by
    intro hQq
    repeat' (first | refine HL.pa ?_ (POp.nilCheck rfl) | apply HL.fold | apply HA.fold | apply HL.nil | apply HX.n_then | apply HC.seq | apply HC.region | refine HL.pa ?_ | refine HL.ga rfl ?_ | refine HL.na rfl ?_ | refine HL.nu rfl rfl ?_ | apply HC.skip | apply HC.exit | apply HC.ret | apply HX.e_block | refine HX.e_other rfl ?_ | apply HX.e_then | apply HX.e_again | apply HX.n_block | apply HX.r_then | apply HX.r_block | apply HX.r_again | refine HC.cond_yes rfl ?_ | refine HC.cond_no rfl ?_ | refine HL.one (H1.ldb rfl memA rfl rfl ?_) | refine HC.cond rfl (fun hc => ?_) (fun hc => ?_) | refine HC.cond_b rfl (fun hc => ?_) (fun hc => ?_))
    exact hQq.get) : G := hwq ⟨x⟩
/-- What is visible of a content with writes pending. -/
def visL (pend : List (Nat × ByteArray)) (d : List UInt8) : List UInt8 := pend.foldl (fun d x => splice d x.1 x.2.data.toList) d
/-- What is visible is what is durable, and all that is pending. -/
def Dk.Vis (k : Dk) : Prop := k.vis = visL k.pend k.dur
theorem visL_snoc (pend : List (Nat × ByteArray)) (x : Nat × ByteArray) (d : List UInt8) : visL (pend ++ [x]) d = splice (visL pend d) x.1 x.2.data.toList := by
  unfold visL; rw [List.foldl_append]; rfl
theorem Dk.Vis.used {k : Dk} (h : k.Vis) : k.used.Vis := by
  obtain ⟨h1, h2, h3, -⟩ := used_p k
  unfold Dk.Vis
  rw [h1, h2, h3]; exact h
theorem Dk.Vis.write {k : Dk} (h : k.Vis) (off : Nat) (s : ByteArray) : (k.write off s).2.Vis := by
  unfold Dk.write
  split
  · exact h
  · split
    · show (k.put off s).Vis
      unfold Dk.put
      refine Dk.Vis.used ?_
      show splice k.vis off s.data.toList = visL (k.pend ++ [(off, s)]) k.dur
      rw [visL_snoc, ← h]
    · exact h
theorem Dk.Vis.sync {k : Dk} (h : k.Vis) : k.sync.2.Vis := by
  unfold Dk.sync
  split
  · exact h
  · exact rfl
theorem Dk.Vis.cut {k : Dk} (h : k.Vis) (n : Nat) : (k.cut n).2.Vis := by
  unfold Dk.cut
  split
  · exact h
  · exact h
theorem Dk.Vis.runOps : ∀ (l : List DOp) {k : Dk}, k.Vis → (runOps l k).2.Vis
  | [], k, h => h
  | o :: l, k, h => by
    have h1 : (o.run k).2.Vis := by
      cases o with
      | wr off s => exact h.write off s
      | sy => exact h.sync
    by_cases h0 : (o.run k).1 = 0
    · rw [runOps_ok h0]; exact Dk.Vis.runOps l h1
    · rw [runOps_no h0]; exact h1
theorem newK_vis (n : Nat) : (newK n).Vis := rfl
theorem crash_vis (k : Dk) (keep : List Int) (torn : Int) : (k.crash keep torn).Vis := rfl
theorem visL_len : ∀ (pend : List (Nat × ByteArray)) (d : List UInt8), (∀ x ∈ pend, x.1 + x.2.size ≤ d.length) → (visL pend d).length = d.length
  | [], _, _ => rfl
  | x :: pend, d, h => by
    have h1 := h x (List.mem_cons_self ..)
    have h2 : x.2.data.toList.length = x.2.size := by rw [Array.length_toList]; rfl
    have h3 : (splice d x.1 x.2.data.toList).length = d.length := splice_len (by omega)
    show (visL pend (splice d x.1 x.2.data.toList)).length = _
    rw [visL_len pend _ (fun y hy => by rw [h3]; exact h y (List.mem_cons_of_mem _ hy)), h3]
theorem splice_none2 (D : List UInt8) (p : Nat) : splice D p [] = D := by
  unfold splice
  rw [List.append_nil, List.length_nil, Nat.add_zero, List.take_append_drop]
theorem splice_snoc {d s : List UInt8} {off i : Nat} {b : UInt8} (h : off + s.length ≤ d.length) (hi : s[i]? = some b) : (splice d off (s.take i)).set (off + i) b = splice d off (s.take (i + 1)) := by
  have hil : i < s.length := (List.getElem?_eq_some_iff.1 hi).1
  have hb : s[i] = b := (List.getElem?_eq_some_iff.1 hi).2
  have hd : d.drop (off + i) = d[off + i]'(by omega) :: d.drop (off + i + 1) := List.drop_eq_getElem_cons (by omega)
  have hl : (d.take off ++ s.take i).length = off + i := by rw [List.length_append, List.length_take, List.length_take]; omega
  unfold splice
  rw [List.take_succ_eq_append_getElem hil, hb, List.length_append, List.length_take, Nat.min_eq_left (by omega), hd, show off + (i + [b].length) = off + i + 1 from rfl]
  rw [List.set_append_right _ _ (by omega), hl, Nat.sub_self, List.set_cons_zero]
  simp
theorem pendC_get2 {l : List (Nat × ByteArray)} : ∀ {i : Nat}, i < l.length → (pendC l)[2 * i]? = some (zv ((pendAt l i).1 : Int)) ∧ (pendC l)[2 * i + 1]? = some (.string (pendAt l i).2) := by
  induction l with
  | nil => intro i h; cases h
  | cons x l ih =>
    intro i h
    have e : pendC (x :: l) = zv (x.1 : Int) :: .string x.2 :: pendC l := rfl
    cases i with
    | zero => rw [e]; exact ⟨rfl, rfl⟩
    | succ i =>
      have h2 := ih (i := i) (by rw [List.length_cons] at h; omega)
      rw [e, show 2 * (i + 1) = 2 * i + 1 + 1 from by omega]
      exact h2
/-- The cells of the reference's disk. -/
def rfC (sa : Option Addr) (sc : Nat) (la : Option Addr) (lc : Nat) (k : Dk) : List Value := [.slice sa k.dur.length sc, .slice la k.pend.length lc, .bool k.off, zv (k.left : Int)]
abbrev rfH (bf : Nat) (sa : Option Addr) (sc : Nat) (la : Option Addr) (lc : Nat) (k : Dk) (H : List Atom) : List Atom :=
  A.blk bf (rfC sa sc la lc k) 67 :: A.grow 5 1 sa sc k.dur.length (ub k.dur) :: A.grow 100 2 la lc k.pend.length (pendC k.pend) :: H
theorem ub_one (l : List UInt8) : ∀ u ∈ ub l, u.oneCell' = true := by
  intro u hu
  obtain ⟨x, -, rfl⟩ := List.mem_map.1 hu
  rfl
theorem ub_set {l : List UInt8} {i : Nat} {b : UInt8} : (ub l).set i (.int .u8 ((b.toNat : Nat) : Int)) = ub (l.set i b) := by
  unfold ub; rw [List.map_set]
theorem blkGrow3 {w0 w : World} {b n sz : Nat} {cs : List Value} {e : TypeId} {H : List Atom} (h : Mm w0 (A.blk b cs e :: H) w) (hl : cs.length = n * sz) (hn : n ≤ 1000000) : Mm w0 (A.grow e sz (some ⟨b, 0, none⟩) n n cs :: H) w := by
  refine ⟨h.ext, fun x hx => ?_, h.nd, h.rng⟩
  rcases List.mem_cons.1 hx with rfl | hx
  · refine ⟨hl, .inr ⟨b, n, cs.toArray, rfl, Nat.zero_le _, h.blk (List.Mem.head _), Nat.le_refl _, by simp only [maxLen]; omega, by simpa using hl, ?_⟩⟩
    rw [← hl, List.take_of_length_le (by simp)]
  · exact h.all x (List.mem_cons_of_mem _ hx)
attribute [local irreducible] WC WL WX POp Then Again Fn NX W1 WA WO QL RP RA Yld LoopAt HC HL HX HN H1 HA HO HQ HB HP A.blk A.grow A.rd A.obj A.mp AgainH CutH
theorem apply_fn {w0 w : World} {H : List Atom} {sa : Option Addr} {sc : Nat} {D : List UInt8} (off : Nat) (s : ByteArray) (hM : Mm w0 (A.grow 5 1 sa sc D.length (ub D) :: H) w) (ho : off + s.size ≤ D.length) (hD : D.length ≤ 4194304) :
    Fn Tryz.prog 53 #[.slice sa D.length sc, zv (off : Int), .string s] w fun v w' => v = .tuple #[] ∧ Mm w0 (A.grow 5 1 sa sc D.length (ub (splice D off s.data.toList)) :: H) w' := by
  have hs : s.data.toList.length = s.size := by rw [Array.length_toList]; rfl
  refine enterK (l := [_, _, _]) hM rfl Tryz.ntmps53 rfl ?_
  refine hwKM ?_
  refine HC.loop (α := Nat) (fun i => [(0, .slice sa D.length sc), (1, zv (off : Int)), (2, .string s), (6, zv (i : Int))]) (fun i => A.grow 5 1 sa sc D.length (ub (splice D off (s.data.toList.take i))) :: H) (fun i => i ≤ s.size) (fun i => s.size - i) 0 (Nat.zero_le _) esA (by rw [List.take_zero, splice_none2]; exact Hs.refl _) ?_
  intro i hi
  by_cases hlt : i < s.size
  · obtain ⟨b, hb⟩ : ∃ b, s.data.toList[i]? = some b := ⟨_, List.getElem?_eq_getElem (by omega)⟩
    have hsb : sb s i = b.toNat := by unfold sb; rw [List.getD_eq_getElem?_getD, hb]; rfl
    have hsn := splice_snoc (d := D) (off := off) (s := s.data.toList) (by omega) hb
    have hln : (splice D off (s.data.toList.take i)).length = D.length := splice_len (by rw [List.length_take]; omega)
    refine HC.openg (e := 5) (sz := 1) (a := sa) (c := sc) (n := D.length) (xs := ub (splice D off (s.data.toList.take i))) (.head _) (by omega) ?_
    rintro g rfl
    have hoi : ((off : Int) + (i : Int)).toNat = off + i := by omega
    have hul : (ub (splice D off (s.data.toList.take i))).length = D.length := by rw [ub_len, hln]
    refine hwKM ?_
    rw [hoi, hsb]
    refine HL.one (H1.stg rfl rfl (by intro _ h; cases h) (by intro _ h; cases h) Rpl.here (by omega) ?_)
    rw [ub_set, hsn]
    refine hwKM ?_
    exact HX.again (i + 1) hlt (by show s.size - (i + 1) < s.size - i; omega) esA (Hs.refl _)
  · obtain rfl : i = s.size := by omega
    rw [List.take_of_length_le (by omega)]
    refine hwKM ?_
    exact HX.end0 rfl fun w' hM => ⟨rfl, hM⟩
theorem fit_take {k : Dk} (hf : k.Fit) (i : Nat) : (visL (k.pend.take i) k.dur).length = k.dur.length := visL_len _ _ fun x hx => hf x (List.mem_of_mem_take hx)
set_option maxHeartbeats 1000000 in
/-- Visible. -/
theorem visible_fn {w0 w : World} {H : List Atom} {bf sc lc : Nat} {sa la : Option Addr} {k : Dk} (hM : Mm w0 (rfH bf sa sc la lc k H) w) (hk : k.Ok) (hf : k.Fit) (hN : k.dur.length ≤ 100000) :
    Fn Tryz.prog 23 #[.pointer (some ⟨bf, 0, none⟩)] w fun v w' => ∃ z : Option Addr × Nat, True ∧ v = .slice z.1 k.dur.length z.2 ∧ Mm w0 (A.grow 5 1 z.1 z.2 k.dur.length (ub (visL k.pend k.dur)) :: rfH bf sa sc la lc k H) w' := by
  have hpn := hk.pend
  have hu1 := ub_len k.dur
  refine enterK (l := [_]) hM rfl Tryz.ntmps23 rfl ?_
  refine hwKM ?_
  refine HL.one (H1.lit0 rfl (fun b9 => ?_))
  refine hwKM ?_
  refine HL.one (H1.appR3 (n := 0) (m := k.dur.length) (vs := ub k.dur) rfl hu1 rfl rfl (fun _ _ => by first | ((repeat (first | with_reducible exact Rpl.here | with_reducible apply Rpl.there)); done) | (repeat (first | exact Rpl.here | apply Rpl.there))) (fun w' hM => Mm.gr (e := 5) (a := sa) (c := sc) hM memA) (ub_one k.dur) (by omega) (by decide) rfl (.inl rfl) (fun a3 c3 _ => ?_))
  rw [Nat.zero_add, List.nil_append]
  refine hwKM ?_
  refine HC.loop (α := Nat) (fun i => [(0, .pointer (some ⟨bf, 0, none⟩)), (3, .slice a3 k.dur.length c3), (4, zv (i : Int))]) (fun i => A.grow 5 1 a3 c3 k.dur.length (ub (visL (k.pend.take i) k.dur)) :: rfH bf sa sc la lc k H) (fun i => i ≤ k.pend.length) (fun i => k.pend.length - i) 0 (Nat.zero_le _) esA (Hs.refl _) ?_
  intro i hi
  by_cases hlt : i < k.pend.length
  · have hpm := hf _ (pendAt_mem hlt)
    obtain ⟨hg1, hg2⟩ := pendC_get2 hlt
    have hfl := fit_take hf i
    have hsn : k.pend.take (i + 1) = k.pend.take i ++ [pendAt k.pend i] := by
      rw [List.take_add_one, List.getElem?_eq_getElem hlt]
      simp [pendAt, hlt]
    have hvs : visL (k.pend.take (i + 1)) k.dur = splice (visL (k.pend.take i) k.dur) (pendAt k.pend i).1 (pendAt k.pend i).2.data.toList := by rw [hsn, visL_snoc]
    clear hsn
    have ei2 : (2 * i) = i * 2 := Nat.mul_comm _ _
    have ei3 : 2 * i + 1 = i * 2 + 1 := by omega
    rw [ei2] at hg1
    rw [ei3] at hg2
    generalize pendAt k.pend i = x at hpm hg1 hg2 hvs
    obtain ⟨off, s⟩ := x
    dsimp only at hpm hg1 hg2 hvs
    refine HC.openg (e := 100) (sz := 2) (a := la) (c := lc) (n := k.pend.length) (xs := pendC k.pend) (.tail _ (.tail _ (.tail _ (.head _)))) (by omega) ?_
    rintro gl rfl
    obtain ⟨D, hD⟩ : ∃ D, D = visL (k.pend.take i) k.dur := ⟨_, rfl⟩
    rw [← hD] at hfl hvs ⊢
    have hi2 : i * 2 + 0 = i * 2 := rfl
    refine hwKM ?_
    refine HC.anyC ([(⟨bf, 1, none⟩, .slice (some ⟨gl, 0, none⟩) k.pend.length lc), (⟨gl, i * 2, none⟩, zv (off : Int)), (⟨gl, i * 2 + 1, none⟩, .string s)]) rfl ?_
    refine HB.pa 0 rfl ?_
    refine HB.pa 1 rfl ?_
    refine HB.pa 2 rfl ?_ (POp.nilCheck rfl)
    refine HB.pa 3 rfl ?_
    refine HB.ld 4 rfl rfl memD ?_
    refine HB.pa 5 rfl ?_
    refine HB.pa 6 rfl ?_
    refine HB.pa 7 rfl ?_
    refine HB.ld 8 rfl rfl memD ?_
    refine HB.pa 9 rfl ?_
    refine HB.pa 10 rfl ?_ (POp.nilCheck rfl)
    refine HB.pa 11 rfl ?_
    refine HB.ld 12 rfl rfl memD ?_
    refine HB.pa 13 rfl ?_
    refine HB.pa 14 rfl ?_
    refine HB.pa 15 rfl ?_
    refine HB.ld 16 rfl rfl memD ?_
    refine HB.all (by (exact Keep.blk (b := bf) memD rfl (Keep.grow (b := gl) (e := 100) (sz := 2) memD hg1 (Keep.grow (b := gl) (e := 100) (sz := 2) memD hg2 Keep.nil)))) [17] (by kernel_rfl) rfl ⟨⟨_, rfl, ?_⟩, trivial⟩
    refine HP.one ?_
    refine H1.callk (α := Unit) (V := fun _ => .tuple #[]) (I := fun _ => True) (H' := fun _ => A.grow 5 1 a3 c3 k.dur.length (ub (splice D off s.data.toList)) :: rfH bf sa sc (some ⟨gl, 0, none⟩) lc k H) (vs := [_, zv (off : Int), .string s]) rfl rfl
        (fun w' hM => by
          have h := apply_fn (sa := a3) (sc := c3) (D := D) off s (H := rfH bf sa sc (some ⟨gl, 0, none⟩) lc k H) (w0 := w0) (w := w') (by rw [hfl]; exact hM) (by omega) (by omega)
          rw [hfl] at h
          exact h.mono fun v w2 h => ⟨(), trivial, h⟩) ?_
    rintro - -
    apply HB.fold
    refine HB.done (by (exact Keep.blk (b := bf) memD rfl (Keep.grow (b := gl) (e := 100) (sz := 2) memD hg1 (Keep.grow (b := gl) (e := 100) (sz := 2) memD hg2 Keep.nil)))) (by kernel_rfl) ?_
    refine hwKM ?_
    exact HX.again (i + 1) hlt (by show k.pend.length - (i + 1) < k.pend.length - i; omega) esA (by rw [hvs]; exact Hs.refl _)
  · obtain rfl : i = k.pend.length := by omega
    rw [List.take_length]
    refine hwKM ?_
    exact HX.ret1 rfl rfl fun w' hM => ⟨(a3, c3), trivial, rfl, hM⟩
theorem rnew_fn (n : Nat) (h1 : 1 ≤ n) (h2 : n ≤ 100000) (w : World) : Fn Tryz.prog 33 #[zv (n : Int)] w fun v w' => ∃ z : Nat × Option Addr × Nat, True ∧ v = .tuple #[.pointer (some ⟨z.1, 0, none⟩), zv 0] ∧ Mm w (rfH z.1 z.2.1 z.2.2 none 0 (newK n) []) w' := by
  refine enterH (l := [_]) rfl Tryz.ntmps33 rfl ?_
  have h1' : ¬ (n : Int) < 1 := by omega
  have h2' : ¬ (4194304 : Int) < (n : Int) := by omega
  refine hwKM ?_
  refine HL.one (H1.make (l := n) (c := n) rfl rfl rfl rfl rfl (Nat.le_refl _) (by omega) (by omega) rfl (fun b1 => ?_))
  rw [ub_zero]
  refine hwKM ?_
  refine HL.build (cs := [.slice (some ⟨b1, 0, none⟩) n n, .slice none 0 0, .bool false, zv 0]) rfl rfl rfl ?_
  refine hwKM ?_
  refine HL.one (H1.boxAgg (cs := [.slice (some ⟨b1, 0, none⟩) n n, .slice none 0 0, .bool false, zv 0]) rfl rfl (fun bf => ?_))
  refine hwKM ?_
  refine HX.ret2 rfl rfl rfl fun w' hM => ⟨(bf, some ⟨b1, 0, none⟩, n), trivial, rfl, ?_⟩
  have h3 := blkGrow3 (n := n) (sz := 1) (hM.sub (Hs.cons (Pick.there Pick.here) (Hs.cons Pick.here (Hs.nil _)))) (by rw [ub_len, List.length_replicate, Nat.mul_one]) (by omega)
  have h4 := h3.grow0 100 2
  have hl : (newK n).dur.length = n := by show (List.replicate n (0 : UInt8)).length = n; rw [List.length_replicate]
  have h5 := h4.sub (H' := [A.blk bf [.slice (some ⟨b1, 0, none⟩) n n, .slice none 0 0, .bool false, zv 0] 67, A.grow 5 1 (some ⟨b1, 0, none⟩) n n (ub (List.replicate n 0)), A.grow 100 2 none 0 0 []]) (Hs.cons (Pick.there (Pick.there Pick.here)) (Hs.cons (Pick.there Pick.here) (Hs.cons Pick.here (Hs.nil _))))
  have e1 : rfC (some ⟨b1, 0, none⟩) n none 0 (newK n) = [.slice (some ⟨b1, 0, none⟩) n n, .slice none 0 0, .bool false, zv 0] := by
    show [_, _, _, _] = [_, _, _, _]
    rw [hl]; rfl
  show Mm w [A.blk bf (rfC (some ⟨b1, 0, none⟩) n none 0 (newK n)) _, A.grow 5 1 (some ⟨b1, 0, none⟩) n (newK n).dur.length _, _] w'
  rw [e1, hl]
  exact h5
set_option maxHeartbeats 1000000 in
theorem rwrite_fn {w0 w : World} {H : List Atom} {bf sc lc : Nat} {sa la : Option Addr} {k : Dk} (off : Nat) (s : ByteArray) (hM : Mm w0 (rfH bf sa sc la lc k H) w) (hk : k.Ok) (ho : off ≤ 5000000) (hs : s.size ≤ 5000000) :
    Fn Tryz.prog 16 #[.pointer (some ⟨bf, 0, none⟩), zv (off : Int), .string s] w fun v w' => ∃ q : (Option Addr × Nat) × (Option Addr × Nat), True ∧ v = zv (k.write off s).1 ∧ Mm w0 (rfH bf q.1.1 q.1.2 q.2.1 q.2.2 (k.write off s).2 H) w' := by
  have hhi := hk.hi
  have hp := hk.pend
  have hl := hk.left
  refine enterK (l := [_, _, _]) hM rfl Tryz.ntmps16 rfl ?_
  cases hoff : k.off
  rotate_left
  · rw [Dk.write_off hoff]
    have e : rfC sa sc la lc k = [.slice sa k.dur.length sc, .slice la k.pend.length lc, .bool true, zv (k.left : Int)] := by unfold rfC; rw [hoff]
    unfold rfH
    rw [e]
    refine hwKM ?_
    refine HX.ret1 rfl rfl fun w' hM => ⟨((sa, sc), (la, lc)), trivial, rfl, ?_⟩
    show Mm w0 (A.blk bf (rfC sa sc la lc k) _ :: _) w'
    rw [e]; exact hM
  have e : rfC sa sc la lc k = [.slice sa k.dur.length sc, .slice la k.pend.length lc, .bool false, zv (k.left : Int)] := by unfold rfC; rw [hoff]
  by_cases hin : off + s.size ≤ k.dur.length
  rotate_left
  · rw [Dk.write_no hoff hin]
    have hfin : ∀ w', Mm w0 (A.blk bf [.slice sa k.dur.length sc, .slice la k.pend.length lc, .bool false, zv (k.left : Int)] 67 :: A.grow 5 1 sa sc k.dur.length (ub k.dur) :: A.grow 100 2 la lc k.pend.length (pendC k.pend) :: H) w' → ∃ q : (Option Addr × Nat) × (Option Addr × Nat), True ∧ zv 250 = zv 250 ∧ Mm w0 (rfH bf q.1.1 q.1.2 q.2.1 q.2.2 k H) w' := fun w' hM => by
      refine ⟨((sa, sc), (la, lc)), trivial, rfl, ?_⟩
      show Mm w0 (A.blk bf (rfC sa sc la lc k) _ :: _) w'
      rw [e]; exact hM
    unfold rfH
    rw [e]
    by_cases h1 : k.dur.length < off
    · refine hwKM ?_
      exact HX.ret1 rfl rfl fun w' hM => hfin w' hM
    · have h2 : (k.dur.length : Int) - (off : Int) < (s.size : Int) := by omega
      refine hwKM ?_
      exact HX.ret1 rfl rfl fun w' hM => hfin w' hM
  rw [Dk.write_on hoff hin]
  unfold rfH
  rw [e]
  have hpl : (k.pend ++ [(off, s)]).length = k.pend.length + 1 := by rw [List.length_append]; rfl
  refine hwKM ?_
  refine HL.build (cs := [zv (off : Int), .string s]) rfl rfl rfl ?_
  refine hwKM ?_
  refine HL.one (H1.lit (cs := [zv (off : Int), .string s]) rfl rfl rfl rfl rfl rfl (fun b9 => ?_))
  refine hwKM ?_
  refine HL.one (H1.app (sz := 2) (news := [zv (off : Int), .string s]) rfl (by decide) rfl rfl (fun _ _ => by first | ((repeat (first | with_reducible exact Rpl.here | with_reducible apply Rpl.there)); done) | (repeat (first | exact Rpl.here | apply Rpl.there))) rfl (fun w' hM j u hj => ?_) (by intro v hv; rcases List.mem_cons.1 hv with rfl | hv; rfl; rcases List.mem_cons.1 hv with rfl | hv; rfl; cases hv) (by omega) (by decide) rfl (fun a' c' hac => ?_))
  · rw [add_lit, Nat.zero_add]; exact (hM.blk (b := b9) memA).cell hj
  rw [pendC_snoc k.pend (off, s), ← hpl]
  refine hwKM ?_
  refine HL.one (H1.st (b := bf) rfl rfl (by intro _ h; cases h) (by intro _ h; cases h) rplA (by show 1 < 4; decide) ?_)
  obtain ⟨q1, -, q3⟩ := put_parts k off s
  have hfin : ∀ (o : Bool) (l : Int), (k.put off s).off = o → ((k.put off s).left : Int) = l → ∀ w', Mm w0 (A.blk bf [.slice sa k.dur.length sc, .slice a' (k.pend ++ [(off, s)]).length c', .bool o, zv l] 67 :: A.grow 5 1 sa sc k.dur.length (ub k.dur) :: A.grow 100 2 a' c' (k.pend ++ [(off, s)]).length (pendC (k.pend ++ [(off, s)])) :: H) w' → ∃ q : (Option Addr × Nat) × (Option Addr × Nat), True ∧ zv 0 = zv 0 ∧ Mm w0 (rfH bf q.1.1 q.1.2 q.2.1 q.2.2 (k.put off s) H) w' := fun o l h1 h2 w' hM => by
    refine ⟨((sa, sc), (a', c')), trivial, rfl, ?_⟩
    unfold rfH rfC
    rw [q1, q3, h1, h2]
    exact hM
  have hpu : k.put off s = Dk.used { k with pend := k.pend ++ [(off, s)], vis := splice k.vis off s.data.toList } := rfl
  by_cases hl0 : k.left = 0
  · have hl1 : ¬ (0 : Int) < (k.left : Int) := by omega
    have hpo : (k.put off s).off = false ∧ (k.put off s).left = k.left := by rw [hpu, used_zero (k := { k with pend := k.pend ++ [(off, s)], vis := splice k.vis off s.data.toList }) hl0]; exact ⟨hoff, rfl⟩
    refine hwKM ?_
    exact HX.ret1 rfl rfl fun w' hM => hfin false (k.left : Int) hpo.1 (by rw [hpo.2]) w' hM.tail
  · have hl1 : (0 : Int) < (k.left : Int) := by omega
    have hpo : (k.put off s).off = decide (k.left - 1 = 0) ∧ (k.put off s).left = k.left - 1 := by
      rw [hpu]
      unfold Dk.used
      rw [if_neg hl0]
      exact ⟨rfl, rfl⟩
    refine hwKM ?_
    refine HL.one (H1.st (b := bf) rfl rfl (by intro _ h; cases h) (by intro _ h; cases h) rplA (by show 3 < 4; decide) ?_)
    by_cases hl2 : (k.left : Int) - 1 = 0
    · have hd : decide (k.left - 1 = 0) = true := decide_eq_true (by omega)
      rw [hd] at hpo
      refine hwKM ?_
      refine HL.one (H1.st (b := bf) rfl rfl (by intro _ h; cases h) (by intro _ h; cases h) rplA (by show 2 < 4; decide) ?_)
      refine hwKM ?_
      exact HX.ret1 rfl rfl fun w' hM => hfin true ((k.left : Int) - 1) hpo.1 (by rw [hpo.2]; omega) w' hM.tail
    · have hd : decide (k.left - 1 = 0) = false := decide_eq_false (by omega)
      rw [hd] at hpo
      refine hwKM ?_
      exact HX.ret1 rfl rfl fun w' hM => hfin false ((k.left : Int) - 1) hpo.1 (by rw [hpo.2]; omega) w' hM.tail
theorem rsync_fn {w0 w : World} {H : List Atom} {bf sc lc : Nat} {sa la : Option Addr} {k : Dk} (hM : Mm w0 (rfH bf sa sc la lc k H) w) (hk : k.Ok) (hf : k.Fit) (hv : k.Vis) (hN : k.dur.length ≤ 100000) :
    Fn Tryz.prog 45 #[.pointer (some ⟨bf, 0, none⟩)] w fun v w' => ∃ q : (Option Addr × Nat) × (Option Addr × Nat), True ∧ v = zv k.sync.1 ∧ Mm w0 (rfH bf q.1.1 q.1.2 q.2.1 q.2.2 k.sync.2 H) w' := by
  have hlen := hk.len
  refine enterK (l := [_]) hM rfl Tryz.ntmps45 rfl ?_
  cases hoff : k.off
  rotate_left
  · rw [Dk.sync_off hoff]
    refine hwKM ?_
    exact HX.ret1 rfl rfl fun w' hM => ⟨((sa, sc), (la, lc)), trivial, rfl, hM⟩
  · rw [Dk.sync_on hoff]
    refine hnKM ?_
    refine HL.one (H1.callk (α := Option Addr × Nat) (V := fun z => .slice z.1 k.dur.length z.2) (I := fun _ => True) (H' := fun z => A.grow 5 1 z.1 z.2 k.dur.length (ub (visL k.pend k.dur)) :: rfH bf sa sc la lc k H) (vs := [_]) rfl rfl (fun w' hM => visible_fn hM hk hf hN) ?_)
    rintro ⟨a3, c3⟩ -
    dsimp only
    refine hwKM ?_
    refine HL.one (H1.st (b := bf) rfl rfl (by intro _ h; cases h) (by intro _ h; cases h) rplA (by show 0 < 4; decide) ?_)
    refine hwKM ?_
    refine HL.one (H1.st (b := bf) rfl rfl (by intro _ h; cases h) (by intro _ h; cases h) rplA (by show 1 < 4; decide) ?_)
    refine hwKM ?_
    refine HX.ret1 rfl rfl fun w' hM => ⟨((a3, c3), (none, 0)), trivial, rfl, ?_⟩
    have h3 := hM.grow0 100 2
    unfold rfH rfC
    show Mm w0 (A.blk bf [.slice a3 k.vis.length c3, .slice none 0 0, .bool k.off, zv (k.left : Int)] _ :: A.grow _ 1 a3 c3 k.vis.length (ub k.vis) :: A.grow _ 2 none 0 0 [] :: H) w'
    rw [hlen, hv]
    exact h3.sub (Hs.cons (Pick.there (Pick.there Pick.here)) (Hs.cons (Pick.there Pick.here) (Hs.cons Pick.here (Hs.refl _).skip.skip)))
theorem rread_fn {w0 w : World} {H : List Atom} {bf sc lc : Nat} {sa la : Option Addr} {k : Dk} (hM : Mm w0 (rfH bf sa sc la lc k H) w) (hk : k.Ok) (hf : k.Fit) (hv : k.Vis) (hN : k.dur.length ≤ 100000) :
    Fn Tryz.prog 74 #[.pointer (some ⟨bf, 0, none⟩), zv 0, zv (k.dur.length : Int)] w fun v w' => ∃ _ : Unit, True ∧ v = .tuple #[.string (if k.off then mkBA [] else mkBA k.vis), zv (if k.off then 251 else 0)] ∧ Mm w0 (rfH bf sa sc la lc k H) w' := by
  have hlo := hk.lo
  have hlen := hk.len
  refine enterK (l := [_, _, _]) hM rfl Tryz.ntmps74 rfl ?_
  cases hoff : k.off
  rotate_left
  · refine hwKM ?_
    exact HX.ret2 rfl rfl rfl fun w' hM => ⟨(), trivial, rfl, hM⟩
  · have hge : ¬ (k.dur.length : Int) < 0 := by omega
    have hge2 : ¬ (k.dur.length : Int) - 0 < (k.dur.length : Int) := by omega
    refine hwKM ?_
    refine HL.one (H1.callk (α := Option Addr × Nat) (V := fun z => .slice z.1 k.dur.length z.2) (I := fun _ => True) (H' := fun z => A.grow 5 1 z.1 z.2 k.dur.length (ub (visL k.pend k.dur)) :: rfH bf sa sc la lc k H) (vs := [_]) rfl rfl (fun w' hM => visible_fn hM hk hf hN) ?_)
    rintro ⟨a3, c3⟩ -
    dsimp only
    rw [← hv]
    refine HN.openg2 (e := 5) (sz := 1) (a := a3) (c := c3) (n := k.dur.length) (xs := ub k.vis) (.head _) (by omega) ?_
    rintro g rfl
    refine hwKM ?_
    refine HL.growCap (e := 5) (sz := 1) (a := some ⟨g, 0, none⟩) (c := c3) (n := k.dur.length) (xs := ub k.vis) (.head _) fun hcx => ?_
    have e0 : (0 : Int) + (k.dur.length : Int) = (k.dur.length : Int) := by omega
    rw [e0]
    refine HL.pa ?_ (POp.cut_lh rfl rfl rfl (by decide) (by omega) (by omega) (by omega))
    rw [show (k.dur.length : Int).toNat - (0 : Int).toNat = k.dur.length from by omega]
    refine hwKM ?_
    refine HL.one (H1.bstrC (ys := k.vis) rfl (by omega) (fun w' hM => Mm.gr (e := 5) (a := some ⟨g, 0, none⟩) (c := c3) hM (.head _)) rfl ?_)
    refine hwKM ?_
    exact HX.ret2 rfl rfl rfl fun w' hM => ⟨(), trivial, rfl, hM.tail⟩
theorem rcut_fn {w0 w : World} {H : List Atom} {bf sc lc : Nat} {sa la : Option Addr} {k : Dk} (n : Nat) (hM : Mm w0 (rfH bf sa sc la lc k H) w) :
    Fn Tryz.prog 66 #[.pointer (some ⟨bf, 0, none⟩), zv (n : Int)] w fun v w' => ∃ _ : Unit, True ∧ v = zv (k.cut n).1 ∧ Mm w0 (rfH bf sa sc la lc (k.cut n).2 H) w' := by
  refine enterK (l := [_, _]) hM rfl Tryz.ntmps66 rfl ?_
  have hn : ¬ (n : Int) < 0 := by omega
  cases hoff : k.off
  rotate_left
  · rw [Dk.cut_off hoff]
    refine hwKM ?_
    exact HX.ret1 rfl rfl fun w' hM => ⟨(), trivial, rfl, hM⟩
  · rw [Dk.cut_on hoff]
    refine hwKM ?_
    refine HL.one (H1.st (b := bf) rfl rfl (by intro _ h; cases h) (by intro _ h; cases h) rplA (by show 3 < 4; decide) ?_)
    refine hwKM ?_
    refine HL.one (H1.st (b := bf) rfl rfl (by intro _ h; cases h) (by intro _ h; cases h) rplA (by show 2 < 4; decide) ?_)
    refine hwKM ?_
    have hd : decide ((n : Int) = 0) = decide (n = 0) := decide_eq_decide.2 (by omega)
    rw [hd]
    exact HX.ret1 rfl rfl fun w' hM => ⟨(), trivial, rfl, hM⟩
theorem rhas_fn (v : Value) (l : List Int) (n : Int) (hl : l.length ≤ 1000000) (w : World) (hR : Rd w v (ints l)) :
    Fn Tryz.prog 93 #[v, zv n] w fun v w' => v = .bool (l.contains n) ∧ Ext w w' := by
  obtain ⟨a0, c0, rfl, hc0⟩ : ∃ a0 c0, v = .slice a0 l.length c0 ∧ l.length ≤ c0 := by
    obtain ⟨a, c, h1, h2, -⟩ := hR
    rw [ints_len] at h1 h2
    exact ⟨a, c, h1, h2⟩
  refine enterH (l := [_, _]) rfl Tryz.ntmps93 rfl ?_
  refine hwKM ?_
  refine HC.loop (α := Nat) (fun i => [(0, .slice a0 l.length c0), (1, zv n), (5, zv (i : Int))]) (fun _ => []) (fun i => i ≤ l.length ∧ (l.take i).contains n = false) (fun i => l.length - i) 0 ⟨Nat.zero_le _, rfl⟩ esA (Hs.refl _) ?_
  rintro i ⟨hi, hno⟩
  by_cases hlt : i < l.length
  · obtain ⟨b, off, rfl⟩ : ∃ b off, a0 = some ⟨b, off, none⟩ := by
      obtain ⟨a, c, h1, h2, h3⟩ := hR
      rw [ints_len] at h1
      cases h1
      rcases h3 with h3 | ⟨b, off, h4, -⟩
      · have : l = [] := by simpa [ints] using h3
        subst this; cases hlt
      · exact ⟨b, off, h4⟩
    have hget : w.cell? ⟨b, off + i, none⟩ = some (zv l[i]) := hR.cell (by unfold ints; rw [List.getElem?_map, List.getElem?_eq_getElem hlt]; rfl)
    have htk : l.take (i + 1) = l.take i ++ [l[i]] := List.take_succ_eq_append_getElem hlt
    by_cases he : l[i] = n
    · have hyes : l.contains n = true := List.contains_iff_mem.2 (he ▸ List.getElem_mem hlt)
      generalize l[i] = x at hget he
      refine hwKM ?_
      refine HL.one (H1.ld0 rfl hget rfl ?_)
      refine hwKM ?_
      exact HX.ret1 rfl rfl fun w' hM => ⟨by rw [hyes], hM.ext⟩
    · have hno2 : (l.take (i + 1)).contains n = false := by
        rw [htk]
        simp only [List.contains_eq_mem, List.mem_append, List.mem_singleton, decide_eq_false_iff_not] at hno ⊢
        rintro (h | h)
        · exact hno h
        · exact he h.symm
      generalize l[i] = x at hget he
      refine hwKM ?_
      refine HL.one (H1.ld0 rfl hget rfl ?_)
      refine hwKM ?_
      exact HX.again (i + 1) ⟨hlt, hno2⟩ (by show l.length - (i + 1) < l.length - i; omega) esA (Hs.refl _)
  · obtain rfl : i = l.length := by omega
    rw [List.take_length] at hno
    refine hwKM ?_
    exact HX.ret1 rfl rfl fun w' hM => ⟨by rw [hno], hM.ext⟩
theorem crashL_succ (keep : List Int) (n : Nat) : crashL keep (n + 1) = crashL keep n ++ (if keep.contains (n : Int) then [n] else []) := by
  unfold crashL
  rw [List.range_succ, List.filter_append]
  congr 1
  rw [List.filter_cons, List.filter_nil]
theorem pendC_one (x : Nat × ByteArray) : ∀ v ∈ [zv (x.1 : Int), Value.string x.2], v.oneCell' = true := by
  intro v hv
  rcases List.mem_cons.1 hv with rfl | hv
  · rfl
  rcases List.mem_cons.1 hv with rfl | hv
  · rfl
  · cases hv
set_option maxHeartbeats 4000000 in
theorem rcrash_fn {w0 w : World} {H : List Atom} {bf sc lc ck : Nat} {sa la ak : Option Addr} {k : Dk} (keep : List Int) (torn : Int) (ht1 : -9223372036854775808 ≤ torn) (ht2 : torn ≤ 9223372036854775807) (hM : Mm w0 (rfH bf sa sc la lc k H) w) (hk : k.Ok) (hf : k.Fit) (hl : keep.length ≤ 1000)
    (hR : ∀ w', Mm w0 (rfH bf sa sc la lc k H) w' → Rd w' (.slice ak keep.length ck) (ints keep)) :
    Fn Tryz.prog 67 #[.pointer (some ⟨bf, 0, none⟩), .slice ak keep.length ck, zv torn] w fun v w' => ∃ _ : Unit, True ∧ v = .tuple #[] ∧ Mm w0 (rfH bf sa sc none 0 (k.crash keep torn) H) w' := by
  have hpn := hk.pend
  have hhi := hk.hi
  refine enterK (l := [_, _, _]) hM rfl Tryz.ntmps67 rfl ?_
  refine hbKM ?_
  refine HC.grow0 100 2 ?_
  repeat refine HC.seq ?_
  refine HC.cut (α := Option Addr × Nat) (fun q => [(0, .pointer (some ⟨bf, 0, none⟩)), (2, zv torn), (6, .slice q.1 ((crashL keep k.pend.length).map (pendAt k.pend)).length q.2)]) (fun q => A.grow 100 2 q.1 q.2 ((crashL keep k.pend.length).map (pendAt k.pend)).length (pendC ((crashL keep k.pend.length).map (pendAt k.pend))) :: rfH bf sa sc la lc k H) (fun _ => True) ?_ ?_
  · refine HC.block ?_
    refine HC.loop (α := Nat × Option Addr × Nat) (fun z => [(0, .pointer (some ⟨bf, 0, none⟩)), (1, .slice ak keep.length ck), (2, zv torn), (6, .slice z.2.1 ((crashL keep z.1).map (pendAt k.pend)).length z.2.2), (7, zv (z.1 : Int))]) (fun z => A.grow 100 2 z.2.1 z.2.2 ((crashL keep z.1).map (pendAt k.pend)).length (pendC ((crashL keep z.1).map (pendAt k.pend))) :: rfH bf sa sc la lc k H) (fun z => z.1 ≤ k.pend.length) (fun z => k.pend.length - z.1) (0, none, 0) (Nat.zero_le _) esA (Hs.refl _) ?_
    rintro ⟨i, a, c⟩ hi
    dsimp only at hi ⊢
    by_cases hlt : i < k.pend.length
    · obtain ⟨hg1, hg2⟩ := pendC_get2 hlt
      have hcs := crashL_succ keep i
      have hll : (crashL keep i).length ≤ i := by unfold crashL; exact Nat.le_trans (List.length_filter_le _ _) (by rw [List.length_range]; exact Nat.le_refl _)
      have hml : ((crashL keep i).map (pendAt k.pend)).length = (crashL keep i).length := List.length_map ..
      refine HC.openg (e := 100) (sz := 2) (a := la) (c := lc) (n := k.pend.length) (xs := pendC k.pend) (.tail _ (.tail _ (.tail _ (.head _)))) (by omega) ?_
      rintro gl rfl
      cases hct : keep.contains (i : Int)
      · rw [hct] at hcs
        have hcs' : crashL keep (i + 1) = crashL keep i := by rw [hcs]; exact List.append_nil _
        refine hwKM ?_
        refine HL.one (H1.callx (vs := [_, _]) rfl rfl (fun w' hM => rhas_fn _ keep (i : Int) (by omega) w' (hR w' hM.tail)) ?_)
        rw [hct]
        refine hwKM ?_
        exact HX.again (i + 1, a, c) hlt (by show k.pend.length - (i + 1) < k.pend.length - i; omega) (by rw [hcs']; repeat (first | exact trivial | refine ⟨rfl, ?_⟩)) (by rw [hcs']; exact Hs.refl _)
      · rw [hct] at hcs
        have hcs' : (crashL keep (i + 1)).map (pendAt k.pend) = (crashL keep i).map (pendAt k.pend) ++ [pendAt k.pend i] := by rw [hcs, List.map_append]; rfl
        generalize hL2 : (crashL keep (i + 1)).map (pendAt k.pend) = L2 at hcs'
        generalize (crashL keep i).map (pendAt k.pend) = L1 at hcs' hml
        rw [show 2 * i = i * 2 from Nat.mul_comm _ _] at hg1
        rw [show 2 * i + 1 = i * 2 + 1 from by omega] at hg2
        generalize pendAt k.pend i = x at hg1 hg2 hcs'
        have hpl : (L1 ++ [x]).length = L1.length + 1 := by rw [List.length_append]; rfl
        refine hwKM ?_
        refine HL.one (H1.callx (vs := [_, _]) rfl rfl (fun w' hM => rhas_fn _ keep (i : Int) (by omega) w' (hR w' hM.tail)) ?_)
        rw [hct]
        refine hwKM ?_
        obtain ⟨off, s⟩ := x
        dsimp only at hg1 hg2
        refine HL.one (H1.ldAggw (b := gl) (off := i * 2) (vs := [zv (off : Int), .string s]) rfl rfl (fun w' hM j u hu => ?_) rfl ?_)
        · have hown := hM.own (e := 100) (sz := 2) (a := some ⟨gl, 0, none⟩) (c := lc) (xs := pendC k.pend) memA
          match j, hu with
          | 0, hu => cases hu; exact ownsRow_cell hown hg1
          | 1, hu => cases hu; exact ownsRow_cell hown hg2
          | j + 2, hu => cases hu
        refine hwKM ?_
        refine HL.one (H1.lit (cs := [zv (off : Int), .string s]) rfl rfl rfl rfl rfl rfl (fun b9 => ?_))
        refine hwKM ?_
        refine HL.one (H1.app (sz := 2) (news := [zv (off : Int), .string s]) rfl (by decide) rfl rfl (fun _ _ => by first | ((repeat (first | with_reducible exact Rpl.here | with_reducible apply Rpl.there)); done) | (repeat (first | exact Rpl.here | apply Rpl.there))) rfl (fun w' hM j u hj => ?_) (pendC_one (off, s)) (by omega) (by decide) rfl (fun a' c' hac => ?_))
        · rw [add_lit, Nat.zero_add]; exact (hM.blk (b := b9) memA).cell hj
        rw [pendC_snoc L1 (off, s), ← hcs']
        rw [← hcs'] at hpl
        rw [← hpl]
        refine hwKM ?_
        exact HX.again (i + 1, a', c') hlt (by show k.pend.length - (i + 1) < k.pend.length - i; omega) (by rw [hL2]; repeat (first | exact trivial | refine ⟨rfl, ?_⟩)) (by rw [hL2]; exact (Hs.refl _).skip)
    · obtain rfl : i = k.pend.length := by omega
      refine hwKM ?_
      exact HX.cut (a, c) trivial esA (Hs.refl _)
  rintro ⟨a, c⟩ -
  dsimp only
  obtain ⟨L, hL⟩ : ∃ L, L = crashL keep k.pend.length := ⟨_, rfl⟩
  obtain ⟨S, hS⟩ : ∃ S, S = L.map (pendAt k.pend) := ⟨_, rfl⟩
  rw [← hL, ← hS]
  have hcr : (k.crash keep torn).dur = applyL k.pend torn L k.dur := by show applyL k.pend torn (crashL keep k.pend.length) k.dur = _; rw [← hL]
  have hcrl := crash_len hf keep torn
  have hLlt : ∀ i ∈ L, i < k.pend.length := fun i hi => crashL_lt (by rw [← hL]; exact hi)
  have hSl : S.length = L.length := by rw [hS, List.length_map]
  have hSn : S.length ≤ 10000 := by
    have : L.length ≤ k.pend.length := by rw [hL]; unfold crashL; exact Nat.le_trans (List.length_filter_le _ _) (by rw [List.length_range]; exact Nat.le_refl _)
    omega
  refine hbKM ?_
  repeat refine HC.seq ?_
  refine HC.cut (α := Unit) (fun _ => [(0, .pointer (some ⟨bf, 0, none⟩))]) (fun _ => rfH bf sa sc la lc { k with dur := (k.crash keep torn).dur } H) (fun _ => True) ?_ ?_
  · refine HC.block ?_
    refine HC.loop (α := Nat × List UInt8) (fun z => [(0, .pointer (some ⟨bf, 0, none⟩)), (2, zv torn), (6, .slice a S.length c), (8, zv (z.1 : Int))]) (fun z => A.grow 100 2 a c S.length (pendC S) :: rfH bf sa sc la lc { k with dur := z.2 } H)
      (fun z => z.1 ≤ S.length ∧ applyL k.pend torn (L.drop z.1) z.2 = (k.crash keep torn).dur ∧ z.2.length = k.dur.length) (fun z => S.length - z.1) (0, k.dur) ⟨Nat.zero_le _, hcr.symm, rfl⟩ esA (Hs.refl _) ?_
    rintro ⟨i, D⟩ ⟨hi, happ, hDl⟩
    dsimp only at hi happ hDl ⊢
    by_cases hlt : i < S.length
    · have hltL : i < L.length := by omega
      obtain ⟨i0, hi0⟩ : ∃ i0, L[i]? = some i0 := ⟨_, List.getElem?_eq_getElem hltL⟩
      have hi0lt : i0 < k.pend.length := hLlt i0 (List.mem_of_getElem? hi0)
      have hdr : L.drop i = i0 :: L.drop (i + 1) := by
        rw [List.drop_eq_getElem_cons hltL]
        congr 1
        rw [List.getElem?_eq_getElem hltL] at hi0
        exact Option.some.inj hi0
      have hpS : pendAt S i = pendAt k.pend i0 := by
        rw [hS]
        show ((L.map (pendAt k.pend)).getD i (0, ByteArray.mk #[])) = _
        rw [List.getD_eq_getElem?_getD, List.getElem?_map, hi0]; rfl
      have hpm := hf _ (pendAt_mem hi0lt)
      obtain ⟨hg1, hg2⟩ := pendC_get2 hlt
      rw [hpS] at hg1 hg2
      rw [show 2 * i = i * 2 from Nat.mul_comm _ _] at hg1
      rw [show 2 * i + 1 = i * 2 + 1 from by omega] at hg2
      rw [hdr] at happ
      have hunf : applyL k.pend torn (i0 :: L.drop (i + 1)) D = applyL k.pend torn (L.drop (i + 1)) (splice D (pendAt k.pend i0).1 (tornS torn (L.drop (i + 1)).isEmpty (pendAt k.pend i0).2).data.toList) := rfl
      rw [hunf] at happ
      have hts := tornS_size torn (L.drop (i + 1)).isEmpty (pendAt k.pend i0).2
      have hlast : (L.drop (i + 1)).isEmpty = decide (i + 1 = S.length) := by
        by_cases h : i + 1 = S.length
        · rw [List.drop_of_length_le (by omega), decide_eq_true h]; rfl
        · rw [decide_eq_false h]
          have : L.drop (i + 1) ≠ [] := by
            intro e
            have := congrArg List.length e
            rw [List.length_drop] at this
            simp at this; omega
          cases hx : L.drop (i + 1) with
          | nil => exact absurd hx this
          | cons _ _ => rfl
      generalize (pendAt k.pend i0).1 = off at hg1 happ hpm
      generalize (pendAt k.pend i0).2 = s at hg2 happ hts hpm
      obtain ⟨s', hs'⟩ : ∃ s', s' = tornS torn (L.drop (i + 1)).isEmpty s := ⟨_, rfl⟩
      rw [← hs'] at happ hts
      rw [hlast] at hs'
      have hs'l : s'.data.toList.length = s'.size := by rw [Array.length_toList]; rfl
      have hspl : (splice D off s'.data.toList).length = D.length := splice_len (by omega)
      have hrf : rfC sa sc la lc { k with dur := splice D off s'.data.toList } = rfC sa sc la lc { k with dur := D } := by unfold rfC; rw [hspl]
      have hkeep : ¬ (i + 1 = S.length ∧ 0 ≤ torn ∧ torn < (s.size : Int)) → s' = s := fun hn => by
        rw [hs']
        unfold tornS
        split
        · rename_i h
          have h1 : i + 1 = S.length := of_decide_eq_true h.1
          have h2 : min torn (s.size : Int) = (s.size : Int) := by omega
          rw [h2, Int.toNat_natCast, ByteArray.extract_zero_size]
        · rfl
      refine HC.openg (e := 100) (sz := 2) (a := a) (c := c) (n := S.length) (xs := pendC S) (.head _) (by omega) ?_
      rintro gp rfl
      by_cases hla : (i : Int) = (S.length : Int) - 1
      · by_cases htn : 0 ≤ torn
        · by_cases hlt2 : torn < (s.size : Int)
          · have hse : s' = s.extract 0 torn.toNat := by
              rw [hs']; unfold tornS
              rw [if_pos ⟨decide_eq_true (by omega), htn⟩, show min torn (s.size : Int) = torn from by omega]
            refine hwKM ?_
            refine HL.one (H1.ldg rfl (.head _) hg2 rfl ?_)
            refine hwKM ?_
            rw [← hse]
            refine hwKM ?_
            refine HC.anyC ([(⟨bf, 0, none⟩, .slice sa D.length sc), (⟨gp, i * 2, none⟩, zv (off : Int))]) rfl ?_
            refine HB.pa 0 rfl ?_
            refine HB.pa 1 rfl ?_ (POp.nilCheck rfl)
            refine HB.pa 2 rfl ?_
            refine HB.ld 3 rfl rfl memD ?_
            refine HB.pa 4 rfl ?_
            refine HB.pa 5 rfl ?_
            refine HB.pa 6 rfl ?_
            refine HB.pa 7 rfl ?_
            refine HB.ld 8 rfl rfl memD ?_
            refine HB.pa 9 rfl ?_
            refine HB.all (by (exact Keep.blk (b := bf) memD rfl (Keep.grow (b := gp) (e := 100) (sz := 2) memD hg1 Keep.nil))) [10] (by kernel_rfl) rfl ⟨⟨_, rfl, ?_⟩, trivial⟩
            refine HP.one ?_
            refine H1.callk (α := Unit) (V := fun _ => .tuple #[]) (I := fun _ => True) (H' := fun _ => A.grow 5 1 sa sc D.length (ub (splice D off s'.data.toList)) :: A.blk bf (rfC sa sc la lc { k with dur := D }) 67 :: A.grow 100 2 la lc k.pend.length (pendC k.pend) :: A.grow 100 2 (some ⟨gp, 0, none⟩) c S.length (pendC S) :: H) (vs := [_, _, .string s']) rfl rfl
                (fun w' hM => (apply_fn (D := D) off s' (hM.sub (Hs.cons (Pick.there (Pick.there Pick.here)) (Hs.cons (Pick.there Pick.here) (Hs.cons (Pick.there Pick.here) (Hs.cons Pick.here (Hs.refl _)))))) (by omega) (by omega)).mono fun v w2 h => ⟨(), trivial, h⟩) ?_
            rintro - -
            apply HB.fold
            refine HB.done (by (exact Keep.blk (b := bf) memD rfl (Keep.grow (b := gp) (e := 100) (sz := 2) memD hg1 Keep.nil))) (by kernel_rfl) ?_
            refine hwKM ?_
            exact HX.again (i + 1, splice D off s'.data.toList) ⟨hlt, happ, by rw [hspl]; exact hDl⟩ (by show S.length - (i + 1) < S.length - i; omega) esA (by dsimp only; unfold rfH; rw [hrf]; dsimp only; rw [hspl]; exact Hs.cons (Pick.there (Pick.there (Pick.there Pick.here))) (Hs.cons (Pick.there Pick.here) (Hs.cons Pick.here (Hs.cons Pick.here (Hs.refl _)))))
          · obtain rfl := hkeep (by omega)
            refine hwKM ?_
            refine HL.one (H1.ldg rfl (.head _) hg2 rfl ?_)
            refine hwKM ?_
            refine HC.anyC ([(⟨bf, 0, none⟩, .slice sa D.length sc), (⟨gp, i * 2, none⟩, zv (off : Int))]) rfl ?_
            refine HB.pa 0 rfl ?_
            refine HB.pa 1 rfl ?_ (POp.nilCheck rfl)
            refine HB.pa 2 rfl ?_
            refine HB.ld 3 rfl rfl memD ?_
            refine HB.pa 4 rfl ?_
            refine HB.pa 5 rfl ?_
            refine HB.pa 6 rfl ?_
            refine HB.pa 7 rfl ?_
            refine HB.ld 8 rfl rfl memD ?_
            refine HB.pa 9 rfl ?_
            refine HB.all (by (exact Keep.blk (b := bf) memD rfl (Keep.grow (b := gp) (e := 100) (sz := 2) memD hg1 Keep.nil))) [10] (by kernel_rfl) rfl ⟨⟨_, rfl, ?_⟩, trivial⟩
            refine HP.one ?_
            refine H1.callk (α := Unit) (V := fun _ => .tuple #[]) (I := fun _ => True) (H' := fun _ => A.grow 5 1 sa sc D.length (ub (splice D off s'.data.toList)) :: A.blk bf (rfC sa sc la lc { k with dur := D }) 67 :: A.grow 100 2 la lc k.pend.length (pendC k.pend) :: A.grow 100 2 (some ⟨gp, 0, none⟩) c S.length (pendC S) :: H) (vs := [_, _, .string s']) rfl rfl
                (fun w' hM => (apply_fn (D := D) off s' (hM.sub (Hs.cons (Pick.there (Pick.there Pick.here)) (Hs.cons (Pick.there Pick.here) (Hs.cons (Pick.there Pick.here) (Hs.cons Pick.here (Hs.refl _)))))) (by omega) (by omega)).mono fun v w2 h => ⟨(), trivial, h⟩) ?_
            rintro - -
            apply HB.fold
            refine HB.done (by (exact Keep.blk (b := bf) memD rfl (Keep.grow (b := gp) (e := 100) (sz := 2) memD hg1 Keep.nil))) (by kernel_rfl) ?_
            refine hwKM ?_
            exact HX.again (i + 1, splice D off s'.data.toList) ⟨hlt, happ, by rw [hspl]; exact hDl⟩ (by show S.length - (i + 1) < S.length - i; omega) esA (by dsimp only; unfold rfH; rw [hrf]; dsimp only; rw [hspl]; exact Hs.cons (Pick.there (Pick.there (Pick.there Pick.here))) (Hs.cons (Pick.there Pick.here) (Hs.cons Pick.here (Hs.cons Pick.here (Hs.refl _)))))
        · obtain rfl := hkeep (by omega)
          refine hwKM ?_
          refine HL.one (H1.ldg rfl (.head _) hg2 rfl ?_)
          refine hwKM ?_
          refine HC.anyC ([(⟨bf, 0, none⟩, .slice sa D.length sc), (⟨gp, i * 2, none⟩, zv (off : Int))]) rfl ?_
          refine HB.pa 0 rfl ?_
          refine HB.pa 1 rfl ?_ (POp.nilCheck rfl)
          refine HB.pa 2 rfl ?_
          refine HB.ld 3 rfl rfl memD ?_
          refine HB.pa 4 rfl ?_
          refine HB.pa 5 rfl ?_
          refine HB.pa 6 rfl ?_
          refine HB.pa 7 rfl ?_
          refine HB.ld 8 rfl rfl memD ?_
          refine HB.pa 9 rfl ?_
          refine HB.all (by (exact Keep.blk (b := bf) memD rfl (Keep.grow (b := gp) (e := 100) (sz := 2) memD hg1 Keep.nil))) [10] (by kernel_rfl) rfl ⟨⟨_, rfl, ?_⟩, trivial⟩
          refine HP.one ?_
          refine H1.callk (α := Unit) (V := fun _ => .tuple #[]) (I := fun _ => True) (H' := fun _ => A.grow 5 1 sa sc D.length (ub (splice D off s'.data.toList)) :: A.blk bf (rfC sa sc la lc { k with dur := D }) 67 :: A.grow 100 2 la lc k.pend.length (pendC k.pend) :: A.grow 100 2 (some ⟨gp, 0, none⟩) c S.length (pendC S) :: H) (vs := [_, _, .string s']) rfl rfl
              (fun w' hM => (apply_fn (D := D) off s' (hM.sub (Hs.cons (Pick.there (Pick.there Pick.here)) (Hs.cons (Pick.there Pick.here) (Hs.cons (Pick.there Pick.here) (Hs.cons Pick.here (Hs.refl _)))))) (by omega) (by omega)).mono fun v w2 h => ⟨(), trivial, h⟩) ?_
          rintro - -
          apply HB.fold
          refine HB.done (by (exact Keep.blk (b := bf) memD rfl (Keep.grow (b := gp) (e := 100) (sz := 2) memD hg1 Keep.nil))) (by kernel_rfl) ?_
          refine hwKM ?_
          exact HX.again (i + 1, splice D off s'.data.toList) ⟨hlt, happ, by rw [hspl]; exact hDl⟩ (by show S.length - (i + 1) < S.length - i; omega) esA (by dsimp only; unfold rfH; rw [hrf]; dsimp only; rw [hspl]; exact Hs.cons (Pick.there (Pick.there (Pick.there Pick.here))) (Hs.cons (Pick.there Pick.here) (Hs.cons Pick.here (Hs.cons Pick.here (Hs.refl _)))))
      · obtain rfl := hkeep (by omega)
        refine hwKM ?_
        refine HL.one (H1.ldg rfl (.head _) hg2 rfl ?_)
        refine hwKM ?_
        refine HC.anyC ([(⟨bf, 0, none⟩, .slice sa D.length sc), (⟨gp, i * 2, none⟩, zv (off : Int))]) rfl ?_
        refine HB.pa 0 rfl ?_
        refine HB.pa 1 rfl ?_ (POp.nilCheck rfl)
        refine HB.pa 2 rfl ?_
        refine HB.ld 3 rfl rfl memD ?_
        refine HB.pa 4 rfl ?_
        refine HB.pa 5 rfl ?_
        refine HB.pa 6 rfl ?_
        refine HB.pa 7 rfl ?_
        refine HB.ld 8 rfl rfl memD ?_
        refine HB.pa 9 rfl ?_
        refine HB.all (by (exact Keep.blk (b := bf) memD rfl (Keep.grow (b := gp) (e := 100) (sz := 2) memD hg1 Keep.nil))) [10] (by kernel_rfl) rfl ⟨⟨_, rfl, ?_⟩, trivial⟩
        refine HP.one ?_
        refine H1.callk (α := Unit) (V := fun _ => .tuple #[]) (I := fun _ => True) (H' := fun _ => A.grow 5 1 sa sc D.length (ub (splice D off s'.data.toList)) :: A.blk bf (rfC sa sc la lc { k with dur := D }) 67 :: A.grow 100 2 la lc k.pend.length (pendC k.pend) :: A.grow 100 2 (some ⟨gp, 0, none⟩) c S.length (pendC S) :: H) (vs := [_, _, .string s']) rfl rfl
            (fun w' hM => (apply_fn (D := D) off s' (hM.sub (Hs.cons (Pick.there (Pick.there Pick.here)) (Hs.cons (Pick.there Pick.here) (Hs.cons (Pick.there Pick.here) (Hs.cons Pick.here (Hs.refl _)))))) (by omega) (by omega)).mono fun v w2 h => ⟨(), trivial, h⟩) ?_
        rintro - -
        apply HB.fold
        refine HB.done (by (exact Keep.blk (b := bf) memD rfl (Keep.grow (b := gp) (e := 100) (sz := 2) memD hg1 Keep.nil))) (by kernel_rfl) ?_
        refine hwKM ?_
        exact HX.again (i + 1, splice D off s'.data.toList) ⟨hlt, happ, by rw [hspl]; exact hDl⟩ (by show S.length - (i + 1) < S.length - i; omega) esA (by dsimp only; unfold rfH; rw [hrf]; dsimp only; rw [hspl]; exact Hs.cons (Pick.there (Pick.there (Pick.there Pick.here))) (Hs.cons (Pick.there Pick.here) (Hs.cons Pick.here (Hs.cons Pick.here (Hs.refl _)))))
    · obtain rfl : i = S.length := by omega
      rw [hSl, List.drop_length] at happ
      have happ' : D = (k.crash keep torn).dur := happ
      refine hwKM ?_
      exact HX.cut () trivial esA (by rw [← happ']; exact (Hs.refl _).skip)
  rintro - -
  refine hwKM ?_
  refine HL.one (H1.st (b := bf) rfl rfl (by intro _ h; cases h) (by intro _ h; cases h) rplA (by show 1 < 4; decide) ?_)
  refine hwKM ?_
  refine HL.one (H1.st (b := bf) rfl rfl (by intro _ h; cases h) (by intro _ h; cases h) rplA (by show 2 < 4; decide) ?_)
  refine hwKM ?_
  refine HL.one (H1.st (b := bf) rfl rfl (by intro _ h; cases h) (by intro _ h; cases h) rplA (by show 3 < 4; decide) ?_)
  refine hwKM ?_
  refine HX.end0 rfl fun w' hM => ⟨(), trivial, rfl, ?_⟩
  have h3 := hM.grow0 100 2
  exact h3.sub (Hs.cons (Pick.there Pick.here) (Hs.cons (Pick.there Pick.here) (Hs.cons Pick.here (Hs.refl _).skip)))
end Go.Sx


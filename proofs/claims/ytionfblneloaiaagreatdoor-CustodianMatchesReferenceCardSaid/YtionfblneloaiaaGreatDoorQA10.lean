/- Plain, chapter 26: what holds of a journal, whatever happens to its disk. -/
import Derived.Test.YtionfblneloaiaaGreatDoorQA09
namespace Go.Sx
open Go
theorem hwKR {G G2 : Prop} (x : G2) (hwq : Hold G2 → G := by
    intro hQq
    repeat' (first | refine HL.pa ?_ (POp.nilCheck rfl) | apply HL.fold | apply HA.fold | apply HL.nil | apply HX.n_then | apply HC.seq | apply HC.region | refine HL.pa ?_ | refine HL.ga rfl ?_ | refine HL.na rfl ?_ | refine HL.nu rfl rfl ?_ | apply HC.block | apply HC.skip | apply HC.exit | apply HC.ret | apply HX.e_block | refine HX.e_other rfl ?_ | apply HX.e_then | apply HX.e_again | apply HX.n_block | apply HX.r_then | apply HX.r_block | apply HX.r_again | refine HC.cond_yes rfl ?_ | refine HC.cond_no rfl ?_ | refine HL.one (H1.ldb rfl memA rfl rfl ?_) | refine HC.cond rfl (fun hc => ?_) (fun hc => ?_) | refine HC.cond_b rfl (fun hc => ?_) (fun hc => ?_))
    exact hQq.get) : G := hwq ⟨x⟩
theorem hbKR {G G2 : Prop} (x : G2) (hwq : Hold G2 → G := by
    intro hQq
    repeat' (first | refine HL.pa ?_ (POp.nilCheck rfl) | apply HL.fold | apply HA.fold | apply HL.nil | apply HX.n_then | apply HC.seq | apply HC.region | refine HL.pa ?_ | refine HL.ga rfl ?_ | refine HL.na rfl ?_ | refine HL.nu rfl rfl ?_ | apply HC.skip | apply HC.exit | apply HC.ret | apply HX.e_block | refine HX.e_other rfl ?_ | apply HX.e_then | apply HX.e_again | apply HX.n_block | apply HX.r_then | apply HX.r_block | apply HX.r_again | refine HC.cond_yes rfl ?_ | refine HC.cond_no rfl ?_ | refine HL.one (H1.ldb rfl memA rfl rfl ?_) | refine HC.cond rfl (fun hc => ?_) (fun hc => ?_) | refine HC.cond_b rfl (fun hc => ?_) (fun hc => ?_))
    exact hQq.get) : G := hwq ⟨x⟩
theorem Dk.Fit.write {k : Dk} (h : k.Fit) (off : Nat) (s : ByteArray) : (k.write off s).2.Fit := by
  unfold Dk.write
  split
  · exact h
  · split
    · rename_i h1
      intro x hx
      obtain ⟨q1, -, q3⟩ := put_parts k off s
      have hx' : x ∈ (k.put off s).pend := hx
      rw [q3] at hx'
      show x.1 + x.2.size ≤ (k.put off s).dur.length
      rw [q1]
      rcases List.mem_append.1 hx' with hx' | hx'
      · exact h x hx'
      · rcases List.mem_cons.1 hx' with rfl | hx'
        · exact h1
        · cases hx'
    · exact h
theorem Dk.Fit.sync {k : Dk} (h : k.Fit) : k.sync.2.Fit := by
  unfold Dk.sync
  split
  · exact h
  · intro x hx; cases hx
theorem Dk.Fit.cut {k : Dk} (h : k.Fit) (n : Nat) : (k.cut n).2.Fit := by
  unfold Dk.cut
  split
  · exact h
  · exact h
theorem Dk.Fit.run {k : Dk} (h : k.Fit) (o : DOp) : (o.run k).2.Fit := by
  cases o with
  | wr off s => exact h.write off s
  | sy => exact h.sync
theorem Dk.Vis.run {k : Dk} (h : k.Vis) (o : DOp) : (o.run k).2.Vis := by
  cases o with
  | wr off s => exact h.write off s
  | sy => exact h.sync
theorem Dk.Fit.runOps : ∀ (l : List DOp) {k : Dk}, k.Fit → (runOps l k).2.Fit
  | [], k, h => h
  | o :: l, k, h => by
    by_cases h0 : (o.run k).1 = 0
    · rw [runOps_ok h0]; exact Dk.Fit.runOps l (h.run o)
    · rw [runOps_no h0]; exact h.run o
theorem Dk.Fit.crash (k : Dk) (keep : List Int) (torn : Int) : (k.crash keep torn).Fit := fun x hx => by cases hx
theorem cut_len (k : Dk) (n : Nat) : (k.cut n).2.dur = k.dur ∧ (k.cut n).2.vis = k.vis ∧ (k.cut n).2.pend = k.pend ∧ ((k.cut n).2.left = k.left ∨ (k.cut n).2.left = n) := by
  unfold Dk.cut
  split
  · exact ⟨rfl, rfl, rfl, .inl rfl⟩
  · exact ⟨rfl, rfl, rfl, .inr rfl⟩
theorem cut_ok3 {k : Dk} (hk : k.Ok) (n : Nat) (hn : n ≤ 1000000) : (k.cut n).2.Ok := by
  obtain ⟨h1, h2, h3, h4⟩ := cut_len k n
  have hl := hk.left
  exact ⟨by rw [h1, h2]; exact hk.len, by rw [h1]; exact hk.lo, by rw [h1]; exact hk.hi, by omega, by rw [h3]; exact hk.pend⟩
theorem runOps_one (o : DOp) (k : Dk) : runOps [o] k = o.run k := by
  by_cases h : (o.run k).1 = 0
  · rw [runOps_ok h]
    show (0, (o.run k).2) = _
    rw [← h]
  · rw [runOps_no h]
/-- What holds of a journal, or of its absence, on a disk. -/
structure JInv (N p : Nat) (k : Dk) (o : Option (Tp × Bool)) : Prop where
  ok : k.Ok
  fit : k.Fit
  vis : k.Vis
  len : k.dur.length = N
  pend : k.pend.length ≤ p
  t : ∀ t br, o = some (t, br) → TpOk t ∧ t.size ≤ N
theorem JInv.jok {N p : Nat} {k : Dk} {t : Tp} {br : Bool} (h : JInv N p k (some (t, br))) (hN : N ≤ 100000) (hp : p ≤ 9000) : JOk ⟨t, k, br⟩ := by
  obtain ⟨h1, h2⟩ := h.t t br rfl
  have h3 := h.pend
  have h4 := h1.len
  exact ⟨h.ok, by show k.pend.length ≤ _; omega, by show t.size ≤ k.dur.length; rw [h.len]; exact h2, by show t.recs.length ≤ _; omega, h1.head⟩
theorem JInv.cut {N p : Nat} {k : Dk} {o : Option (Tp × Bool)} (h : JInv N p k o) (n : Nat) (hn : n ≤ 1000000) : JInv N (p + 4) (k.cut n).2 o := by
  obtain ⟨h1, -, h3, -⟩ := cut_len k n
  exact ⟨cut_ok3 h.ok n hn, h.fit.cut n, h.vis.cut n, by rw [h1]; exact h.len, by rw [h3]; exact Nat.le_add_right_of_le h.pend, h.t⟩
theorem JInv.crash {N p : Nat} {k : Dk} {o : Option (Tp × Bool)} (h : JInv N p k o) (keep : List Int) (torn : Int) : JInv N p (k.crash keep torn) none :=
  ⟨crash_ok h.ok h.fit keep torn, Dk.Fit.crash k keep torn, crash_vis k keep torn, by rw [crash_len h.fit]; exact h.len, Nat.zero_le _, fun _ _ e => by cases e⟩
theorem JInv.runs {N p : Nat} {k : Dk} {o : Option (Tp × Bool)} (h : JInv N p k o) (l : List DOp) (hl : l.length ≤ 4) (hp : p ≤ 9000) : JInv N (p + 4) (runOps l k).2 o := by
  obtain ⟨h1, h2, h3, h4⟩ := runOps_len l k h.ok.len
  have h5 := h.pend
  exact ⟨runOps_okk h.ok (by omega), Dk.Fit.runOps l h.fit, Dk.Vis.runOps l h.vis, by rw [h2]; exact h.len, by omega, h.t⟩
theorem JInv.more {N p : Nat} {k : Dk} {o : Option (Tp × Bool)} (h : JInv N p k o) : JInv N (p + 4) k o := ⟨h.ok, h.fit, h.vis, h.len, Nat.le_add_right_of_le h.pend, h.t⟩
theorem JInv.put {N p : Nat} {k : Dk} {o o' : Option (Tp × Bool)} (h : JInv N p k o) (ht : ∀ t br, o' = some (t, br) → TpOk t ∧ t.size ≤ N) : JInv N p k o' := ⟨h.ok, h.fit, h.vis, h.len, h.pend, ht⟩
/-- A group is appended. -/
theorem JInv.app {N p : Nat} {k : Dk} {t : Tp} {br : Bool} (h : JInv N p k (some (t, br))) (hp : p ≤ 9000) (l : List ByteArray) (hl : l.any isLong = false) :
    ∃ (e : Int) (j2 : Jn), (⟨t, k, br⟩ : Jn).append l = (e, j2) ∧ JInv N (p + 4) j2.k (some (j2.t, j2.br)) := by
  obtain ⟨h1, h2⟩ := h.t t br rfl
  by_cases hb : (⟨t, k, br⟩ : Jn).br = true ∨ l.any isLong = true
  · exact ⟨_, _, append_br hb, h.more⟩
  by_cases hf : ((⟨t, k, br⟩ : Jn).k.dur.length : Int) - ((⟨t, k, br⟩ : Jn).t.size : Int) < ((outsL (⟨t, k, br⟩ : Jn).t.head l).length : Int)
  · exact ⟨_, _, append_full hb hf, h.more⟩
  by_cases hn : outsL (⟨t, k, br⟩ : Jn).t.head l = []
  · exact ⟨_, _, append_nil hb hf hn, h.more⟩
  have hr := h.runs (grp t (outsL t.head l)) (Nat.le_refl _) hp
  by_cases he : (runOps (grp t (outsL t.head l)) k).1 = 0
  · refine ⟨_, _, append_ok hb hf hn he, hr.put fun t' br' e => ?_⟩
    cases e
    have hlen := h.len
    have hsz := adds_size l t
    have hf' : ¬ (k.dur.length : Int) - (t.size : Int) < ((outsL t.head l).length : Int) := hf
    refine ⟨adds_inv TpOk.step l (fun r hr => ?_) h1, by show (adds t l).size ≤ N; omega⟩
    have := List.any_eq_false.1 hl r hr
    unfold isLong at this
    simpa using this
  · refine ⟨_, _, append_no hb hf hn he, hr.put fun t' br' e => ?_⟩
    cases e
    exact ⟨h1, h2⟩
/-- Open: what comes of it. -/
theorem JInv.opens {N p : Nat} {k : Dk} {o : Option (Tp × Bool)} (h : JInv N p k o) (hp : p ≤ 9000) :
    (∃ t k', openF k = (0, k', some t) ∧ JInv N (p + 4) k' (some (t, false))) ∨ (∃ e k', openF k = (e, k', none) ∧ e ≠ 0 ∧ JInv N (p + 4) k' none) := by
  have hno : JInv N p k none := h.put fun _ _ e => by cases e
  cases ho : k.off
  rotate_left
  · exact .inr ⟨251, k, openF_off ho, by decide, hno.more⟩
  cases hF : loadF k.vis t00 with
  | none => exact .inr ⟨262, k, openF_bad ho hF, by decide, hno.more⟩
  | some t =>
    have ht := loadF_inv TpOk.step _ (Nat.le_refl _) tpOk0 hF
    have hts := loadF_le _ (Nat.le_refl _) (Nat.zero_le _) hF
    have hlen := h.len
    have hvl := h.ok.len
    have hput : ∀ t' br', some (t, false) = some (t', br') → TpOk t' ∧ t'.size ≤ N := fun t' br' e => by
      cases e
      exact ⟨ht, by omega⟩
    by_cases hz : isZero (k.vis.drop t.size) = true
    · exact .inl ⟨t, k, openF_zero ho hF hz, (h.put hput).more⟩
    have hr := hno.runs (clr k t) (by show 2 ≤ 4; decide) hp
    by_cases he : (runOps (clr k t) k).1 = 0
    · exact .inl ⟨t, _, openF_clr ho hF hz he, hr.put hput⟩
    · exact .inr ⟨_, _, openF_no ho hF hz he, he, hr⟩
theorem jinv0 {N : Nat} (h1 : 1 ≤ N) (h2 : N ≤ 4194304) : JInv N 0 (newK N) none := by
  have h0 := clean0 (n := N) h1 h2
  exact ⟨h0.ok, fun x hx => (by have h2 : (newK N).pend = [] := h0.pend; rw [h2] at hx; cases hx), newK_vis N, by rw [h0.dur, h0.len], by rw [h0.pend]; exact Nat.le_refl _, fun _ _ e => by cases e⟩
end Go.Sx
/- Chapter 26: the reference's journal: the walks. -/
namespace Go.Sx
open Go Go.Proofs Go.RowKit
/-- The cells of the reference's journal. -/
def rjC (bf : Nat) (ja : Option Addr) (jc : Nat) (t : Tp) (br : Bool) : List Value := [.pointer (some ⟨bf, 0, none⟩), .slice ja t.recs.length jc, zv (t.size : Int), .bool br]
abbrev rjH (bk bf : Nat) (ja : Option Addr) (jc : Nat) (sa : Option Addr) (sc : Nat) (la : Option Addr) (lc : Nat) (t : Tp) (k : Dk) (br : Bool) (H : List Atom) : List Atom :=
  A.blk bk (rjC bf ja jc t br) 127 :: A.grow 9 1 ja jc t.recs.length (strs t.recs) :: rfH bf sa sc la lc k H
attribute [local irreducible] WC WL WX POp Then Again Fn NX W1 WA WO QL RP RA Yld LoopAt HC HL HX HN H1 HA HO HQ HB HP A.blk A.grow A.rd A.obj A.mp AgainH CutH
attribute [local irreducible] sumS chainS
theorem stored_fn (h r : ByteArray) (hh : h.size ≤ 32) (hr : r.size ≤ 65536) (w : World) : Fn Tryz.prog 122 #[.string h, .string r] w fun v w' => v = .tuple #[.string (outB h r), .string (chainS h r)] ∧ Ext w w' := by
  have hz := strN_size (n := r.size) (by omega)
  have hc32 := chainS_size h r
  have hm1 : (mkB 1).size = 1 := rfl
  have ha1 := ba_append_size (strN r.size) r
  have ha2 := ba_append_size (mkB 1) (strN r.size ++ r)
  have hoe := outB_eq h r
  refine enterH (l := [_, _]) rfl Tryz.ntmps122 rfl ?_
  refine hwKR ?_
  refine HL.one (H1.callx (vs := [_, _]) rfl rfl (fun w' _ => refChain_fn h r (by omega) w') ?_)
  refine hwKR ?_
  refine HL.one (H1.callx (vs := [_]) rfl rfl (fun w' _ => refPutString_fn r hr w') ?_)
  refine hwKR ?_
  refine HL.pa ?_ (POp.cat (s := mkB 1) (u := strN r.size ++ r) rfl rfl (by omega))
  refine hwKR ?_
  exact HX.ret2 rfl rfl rfl fun w' hM => ⟨by rw [← hoe], hM.ext⟩
theorem rroom_fn {w0 w : World} {H : List Atom} {bk bf jc sc lc : Nat} {ja sa la : Option Addr} {t : Tp} {k : Dk} {br : Bool} (hM : Mm w0 (rjH bk bf ja jc sa sc la lc t k br H) w) (hk : k.Ok) (ht : t.size ≤ k.dur.length) :
    Fn Tryz.prog 123 #[.pointer (some ⟨bk, 0, none⟩)] w fun v w' => ∃ _ : Unit, True ∧ v = zv ((k.dur.length : Int) - (t.size : Int)) ∧ Mm w0 (rjH bk bf ja jc sa sc la lc t k br H) w' := by
  have hhi := hk.hi
  refine enterK (l := [_]) hM rfl Tryz.ntmps123 rfl ?_
  refine hwKR ?_
  refine HC.anyC ([(⟨bk, 0, none⟩, .pointer (some ⟨bf, 0, none⟩)), (⟨bf, 0, none⟩, .slice sa k.dur.length sc), (⟨bk, 2, none⟩, zv (t.size : Int))]) rfl ?_
  refine HB.pa 0 rfl ?_
  refine HB.pa 1 rfl ?_ (POp.nilCheck rfl)
  refine HB.pa 2 rfl ?_
  refine HB.ld 3 rfl rfl memD ?_
  refine HB.pa 4 rfl ?_ (POp.nilCheck rfl)
  refine HB.pa 5 rfl ?_
  refine HB.ld 6 rfl rfl memD ?_
  refine HB.pa 7 rfl ?_
  refine HB.pa 8 rfl ?_
  refine HB.pa 9 rfl ?_ (POp.nilCheck rfl)
  refine HB.pa 10 rfl ?_
  refine HB.ld 11 rfl rfl memD ?_
  refine HB.pa 12 rfl ?_
  refine HB.pa 13 rfl ?_
  refine HB.done (by (exact Keep.blk (b := bk) memD rfl (Keep.blk (b := bf) memD rfl (Keep.blk (b := bk) memD rfl Keep.nil)))) (by kernel_rfl) ?_
  refine hwKR ?_
  exact HX.ret1 rfl rfl fun w' hM => ⟨(), trivial, rfl, hM⟩
/-- Open: what comes of it. -/
def ropenP (w0 : World) (bf : Nat) (H : List Atom) : Int × Dk × Option Tp → Value → World → Prop
  | (e, k', some t), v, w' => ∃ z : Nat × (Option Addr × Nat) × (Option Addr × Nat) × (Option Addr × Nat), v = .tuple #[.pointer (some ⟨z.1, 0, none⟩), zv e] ∧ Mm w0 (rjH z.1 bf z.2.1.1 z.2.1.2 z.2.2.1.1 z.2.2.1.2 z.2.2.2.1 z.2.2.2.2 t k' false H) w'
  | (e, k', none), v, w' => ∃ q : (Option Addr × Nat) × (Option Addr × Nat), v = .tuple #[.pointer none, zv e] ∧ Mm w0 (rfH bf q.1.1 q.1.2 q.2.1 q.2.2 k' H) w'
theorem isZero_iff {l : List UInt8} {s : ByteArray} (h : s.data.toList = l) : isZero l = true ↔ s = mkBA (List.replicate l.length 0) := by
  constructor
  · intro hz
    exact ba_ext (by rw [h]; exact isZero_rep hz)
  · intro e
    rw [← h, e]
    exact rep_isZero _
set_option maxHeartbeats 4000000 in
theorem ropen_fn {w0 w : World} {H : List Atom} {bf sc lc : Nat} {sa la : Option Addr} {k : Dk} (hM : Mm w0 (rfH bf sa sc la lc k H) w) (hk : k.Ok) (hf : k.Fit) (hv : k.Vis) (hp : k.pend.length ≤ 9000) (hN : k.dur.length ≤ 100000) :
    Fn Tryz.prog 64 #[.pointer (some ⟨bf, 0, none⟩)] w fun v w' => ropenP w0 bf H (openF k) v w' := by
  have hlo := hk.lo
  have hlen := hk.len
  have hms : (mkBA k.vis).size = k.vis.length := by show k.vis.toArray.size = _; rw [List.size_toArray]
  refine enterK (l := [_]) hM rfl Tryz.ntmps64 rfl ?_
  cases hoff : k.off
  rotate_left
  · have hop : openF k = (251, k, none) := by unfold openF; rw [if_pos hoff]
    rw [hop]
    refine hwKR ?_
    refine HL.one (H1.callk (α := Unit) (V := fun _ => .tuple #[.string (mkBA []), zv 251]) (I := fun _ => True) (H' := fun _ => rfH bf sa sc la lc k H) (vs := [_, zv 0, _]) rfl rfl (fun w' hM => by
      have := rread_fn hM hk hf hv hN
      rw [hoff] at this
      exact this) ?_)
    rintro - -
    refine hwKR ?_
    exact HX.ret2 rfl rfl rfl fun w' hM => ⟨((sa, sc), (la, lc)), rfl, hM⟩
  refine hwKR ?_
  refine HL.one (H1.callk (α := Unit) (V := fun _ => .tuple #[.string (mkBA k.vis), zv 0]) (I := fun _ => True) (H' := fun _ => rfH bf sa sc la lc k H) (vs := [_, zv 0, _]) rfl rfl (fun w' hM => by
    have := rread_fn hM hk hf hv hN
    rw [hoff] at this
    exact this) ?_)
  rintro - -
  refine hwKR ?_
  refine HL.build (cs := [.pointer (some ⟨bf, 0, none⟩), .slice none 0 0, zv 0, .bool false]) rfl rfl rfl ?_
  refine hwKR ?_
  refine HL.one (H1.boxAgg (cs := [.pointer (some ⟨bf, 0, none⟩), .slice none 0 0, zv 0, .bool false]) rfl rfl (fun bk => ?_))
  refine hwKR ?_
  refine HL.one (H1.callx (u := .string zero32) (vs := [.slice none 0 0]) rfl rfl (fun w' _ => refHead_fn (.slice none 0 0) [] (fun _ h => by cases h) (Nat.zero_le _) w' ⟨none, 0, rfl, Nat.le_refl _, .inl rfl⟩) ?_)
  refine hbKR ?_
  refine HC.grow0 9 1 ?_
  have hls : ∀ (m : Nat) (x : List UInt8), (mkBA x).data.toList = x := fun _ _ => rfl
  repeat refine HC.seq ?_
  refine HC.cut (α := Tp × (Option Addr × Nat)) (fun z => [(0, .pointer (some ⟨bf, 0, none⟩)), (4, zv (k.dur.length : Int)), (5, .string (mkBA k.vis)), (7, .pointer (some ⟨bk, 0, none⟩))])
    (fun z => rjH bk bf z.2.1 z.2.2 sa sc la lc z.1 k false H) (fun z => loadF k.vis t00 = some z.1 ∧ z.1.size ≤ k.vis.length) ?_ ?_
  · refine HC.block ?_
    refine HC.loop (α := Tp × (Option Addr × Nat)) (fun z => [(0, .pointer (some ⟨bf, 0, none⟩)), (4, zv (k.dur.length : Int)), (5, .string (mkBA k.vis)), (7, .pointer (some ⟨bk, 0, none⟩)), (8, .string z.1.head)])
      (fun z => rjH bk bf z.2.1 z.2.2 sa sc la lc z.1 k false H) (fun z => loadF k.vis z.1 = loadF k.vis t00 ∧ z.1.size ≤ k.vis.length ∧ z.1.head.size ≤ 32 ∧ z.1.recs.length ≤ z.1.size) (fun z => k.vis.length - z.1.size)
      (t00, (none, 0)) ⟨rfl, Nat.zero_le _, Nat.le_refl _, Nat.le_refl _⟩ esA (Hs.cons (Pick.there Pick.here) (Hs.cons Pick.here (Hs.refl _))) ?_
    rintro ⟨t, ⟨ja, jc⟩⟩ ⟨hload, hsz, hhd, hrc⟩
    dsimp only at hload hsz hhd hrc ⊢
    have hfin : ¬ (t.size < k.vis.length ∧ k.vis.getD t.size 0 ≠ 0) → loadF k.vis t00 = some t := fun h => by rw [← hload, loadF_end h]
    by_cases h1 : t.size < k.vis.length
    rotate_left
    · have h1' : ¬ (t.size : Int) < (k.dur.length : Int) := by omega
      refine hwKR ?_
      exact HX.cut (t, (ja, jc)) ⟨hfin (fun h => h1 h.1), hsz⟩ esA (Hs.refl _)
    have h1' : (t.size : Int) < (k.dur.length : Int) := by omega
    obtain ⟨b, hb⟩ : ∃ b, b = (k.vis.getD t.size 0).toNat := ⟨_, rfl⟩
    have hsb : sb (mkBA k.vis) t.size = b := hb.symm
    have hbl : b < 256 := by rw [hb]; exact UInt8.toNat_lt _
    by_cases h2 : b = 0
    · have h2' : k.vis.getD t.size 0 = 0 := UInt8.toNat_inj.1 (by rw [← hb, h2]; rfl)
      have h2i : (b : Int) = 0 := by omega
      refine hwKR ?_
      exact HX.cut (t, (ja, jc)) ⟨hfin (fun h => h.2 h2'), hsz⟩ esA (Hs.refl _)
    have h2' : k.vis.getD t.size 0 ≠ 0 := fun h => h2 (by rw [hb, h]; rfl)
    have h2i : ¬ (b : Int) = 0 := by omega
    have hne : t.size < k.vis.length ∧ k.vis.getD t.size 0 ≠ 0 := ⟨h1, h2'⟩
    have hbad : ∀ w', Mm w0 (rjH bk bf ja jc sa sc la lc t k false H) w' → loadF k.vis t = none → ropenP w0 bf H (openF k) (.tuple #[.pointer none, zv 262]) w' := fun w' hM hn => by
      rw [openF_bad hoff (by rw [← hload, hn])]
      exact ⟨((sa, sc), (la, lc)), rfl, hM.tail.tail⟩
    refine hwKR ?_
    refine HL.one (H1.callx (vs := [_, _]) rfl rfl (fun w' _ => refString_fn (mkBA k.vis) (t.size + 1) (by omega) (by omega) w') ?_)
    rw [show (mkBA k.vis).data.toList = k.vis from rfl]
    by_cases h3 : b = 1
    rotate_left
    · have h3i : ¬ (b : Int) = 1 := by omega
      have hn := loadF_bad hne (fun h => h3 (by rw [hb, h]; rfl))
      cases decS k.vis (t.size + 1) with
      | none =>
        unfold strV
        refine hwKR ?_
        exact HX.ret2 rfl rfl rfl fun w' hM => hbad w' hM hn
      | some x =>
        obtain ⟨r, q⟩ := x
        unfold strV
        refine hwKR ?_
        exact HX.ret2 rfl rfl rfl fun w' hM => hbad w' hM hn
    have h3i : (b : Int) = 1 := by omega
    have hone : k.vis.getD t.size 0 = 1 := UInt8.toNat_inj.1 (by rw [← hb, h3]; rfl)
    cases hd : decS k.vis (t.size + 1) with
    | none =>
      have hn := loadF_none hne hd
      unfold strV
      refine hwKR ?_
      exact HX.ret2 rfl rfl rfl fun w' hM => hbad w' hM hn
    | some x =>
      obtain ⟨r, q⟩ := x
      have hle := decS_le hd
      have hrs : (mkBA r).size = r.length := by show r.toArray.size = _; rw [List.size_toArray]
      have hno := fun h => loadF_no hne hd h
      have hyes := fun h => loadF_step hne hone hd h
      unfold strV
      refine hwKR ?_
      refine HL.one (H1.callx (vs := [_, _]) rfl rfl (fun w' _ => refChain_fn t.head (mkBA r) (by omega) w') ?_)
      by_cases hq : q + 32 ≤ k.vis.length
      rotate_left
      · have hqi : (k.dur.length : Int) < (q : Int) + 32 := by omega
        have hn := hno fun h => hq h.1
        refine hwKR ?_
        exact HX.ret2 rfl rfl rfl fun w' hM => hbad w' hM hn
      have hqi : ¬ (k.dur.length : Int) < (q : Int) + 32 := by omega
      have hreq := rec_eq hne.1 hone hd hq
      have e1 : ((q : Int) + 32).toNat = q + 32 := by omega
      have e2 := extract_mk (mkBA k.vis) q (q + 32)
      rw [show (mkBA k.vis).data.toList = k.vis from rfl, show q + 32 - q = 32 from by omega] at e2
      have key : (mkBA k.vis).extract (q : Int).toNat ((q : Int) + 32).toNat = chainS t.head (mkBA r) ↔ outL t.head (mkBA r) = (k.vis.drop t.size).take (q + 32 - t.size) := by
        rw [Int.toNat_natCast, e1, e2, hreq]
        constructor
        · intro h
          have := congrArg (fun x : ByteArray => x.data.toList) h
          exact this
        · intro h
          rw [h]; rfl
      repeat' (first | refine HL.pa ?_ (POp.nilCheck rfl) | apply HL.fold | apply HA.fold | apply HL.nil | apply HX.n_then | apply HC.seq | apply HC.region | refine HL.pa ?_ | refine HL.ga rfl ?_ | refine HL.na rfl ?_ | refine HL.nu rfl rfl ?_ | apply HC.block | apply HC.skip | apply HC.exit | apply HC.ret | apply HX.e_block | refine HX.e_other rfl ?_ | apply HX.e_then | apply HX.e_again | apply HX.n_block | apply HX.r_then | apply HX.r_block | apply HX.r_again | refine HC.cond_yes rfl ?_ | refine HC.cond_no rfl ?_ | refine HL.one (H1.ldb rfl memA rfl rfl ?_) | refine HC.cond rfl (fun hc => ?_) (fun hc => ?_) | refine HC.cond_b rfl (fun hc => ?_) (fun hc => ?_))
      · have hn := hno fun h => hc (key.2 h.2)
        exact HX.ret2 rfl rfl rfl fun w' hM => hbad w' hM hn
      have hcmp := key.1 (Classical.not_not.1 hc)
      have hld := hyes ⟨hq, hcmp⟩
      have hll : (outL t.head (mkBA r)).length = q + 32 - t.size := by rw [hcmp, List.length_take, List.length_drop]; omega
      have hsz2 : (t.add (mkBA r)).size = q + 32 := by show t.size + (outL t.head (mkBA r)).length = _; omega
      have ez : (q : Int) + 32 = ((t.add (mkBA r)).size : Int) := by omega
      have hrl : (t.recs ++ [mkBA r]).length = t.recs.length + 1 := by rw [List.length_append]; rfl
      refine HL.one (H1.lit (cs := [.string (mkBA r)]) rfl rfl rfl rfl rfl rfl (fun b9 => ?_))
      refine hwKR ?_
      refine HL.one (H1.app1 (u := .string (mkBA r)) rfl rfl (fun _ _ => by first | ((repeat (first | with_reducible exact Rpl.here | with_reducible apply Rpl.there)); done) | (repeat (first | exact Rpl.here | apply Rpl.there))) memA rfl rfl (by omega) rfl rfl (fun a' c' => ?_))
      rw [strs_snoc, ← hrl]
      refine hwKR ?_
      refine HL.one (H1.st rfl rfl (by intro _ h; cases h) (by intro _ h; cases h) rplA (by show 1 < 4; decide) ?_)
      refine hwKR ?_
      refine HL.one (H1.st rfl rfl (by intro _ h; cases h) (by intro _ h; cases h) rplA (by show 2 < 4; decide) ?_)
      refine hwKR ?_
      rw [ez]
      refine HX.again (t.add (mkBA r), (some ⟨a', 0, none⟩, c')) ⟨by rw [← hld]; exact hload, ?_, ?_, ?_⟩ ?_ esA (Hs.refl _).skip
      · show (t.add (mkBA r)).size ≤ _; omega
      · show (chainS t.head (mkBA r)).size ≤ 32; rw [chainS_size]; exact Nat.le_refl _
      · show (t.recs ++ [mkBA r]).length ≤ (t.add (mkBA r)).size; omega
      · show k.vis.length - (t.add (mkBA r)).size < k.vis.length - t.size; omega
  rintro ⟨t, ⟨ja, jc⟩⟩ ⟨hload, hsz⟩
  dsimp only at hload hsz ⊢
  obtain ⟨m, hm⟩ : ∃ m, m = k.vis.length - t.size := ⟨_, rfl⟩
  have hsub : (k.dur.length : Int) - (t.size : Int) = (m : Int) := by omega
  obtain ⟨Z, hZ⟩ : ∃ Z, Z = mkBA (List.replicate m 0) := ⟨_, rfl⟩
  have hZl : Z.size = m := by rw [hZ]; show (List.replicate m (0 : UInt8)).toArray.size = m; rw [List.size_toArray, List.length_replicate]
  have hex : ((mkBA k.vis).extract t.size (mkBA k.vis).size).data.toList = k.vis.drop t.size := by
    rw [extract_L, hms, show (mkBA k.vis).data.toList = k.vis from rfl, List.take_of_length_le (by rw [List.length_drop]; exact Nat.le_refl _)]
  have hiff := isZero_iff hex
  rw [List.length_drop, ← hm, ← hZ] at hiff
  have hclr : clr k t = [.wr t.size Z, .sy] := by unfold clr; rw [← hm, hZ]
  refine hwKR ?_
  rw [hsub]
  refine HL.one (H1.make (l := m) (c := m) rfl rfl rfl rfl rfl (Nat.le_refl _) (by omega) (by omega) rfl (fun bm => ?_))
  rw [ub_zero]
  refine hwKR ?_
  refine HL.one (H1.bstrC (ys := List.replicate m 0) rfl (by rw [List.length_replicate]) (fun w' hM => blk_rd (e := 5) (hM.blk memA) (by rw [ub_len, List.length_replicate])) rfl ?_)
  rw [show (⟨(List.replicate m 0).toArray⟩ : ByteArray) = Z from hZ.symm]
  by_cases hz : isZero (k.vis.drop t.size) = true
  · rw [openF_zero hoff hload hz]
    have hzz : ¬ ¬ (mkBA k.vis).extract (t.size : Int).toNat (mkBA k.vis).size = Z := Classical.not_not.2 (by rw [Int.toNat_natCast]; exact hiff.1 hz)
    refine hwKR ?_
    exact HX.ret2 rfl rfl rfl fun w' hM => ⟨(bk, (ja, jc), (sa, sc), (la, lc)), rfl, hM.tail⟩
  have hzz : ¬ (mkBA k.vis).extract t.size (mkBA k.vis).size = Z := fun h => hz (hiff.2 h)
  have hrw := fun w' => rwrite_fn (w := w') (w0 := w0) (H := A.blk bk (rjC bf ja jc t false) 127 :: A.grow 9 1 ja jc t.recs.length (strs t.recs) :: H) (bf := bf) (sc := sc) (lc := lc) (sa := sa) (la := la) (k := k) t.size Z
  obtain ⟨e1, k1, hw1⟩ : ∃ e1 k1, k.write t.size Z = (e1, k1) := ⟨_, _, rfl⟩
  have hro : (DOp.wr t.size Z).run k = (e1, k1) := hw1
  have hk1 : k1.Ok := by have := (DOp.wr t.size Z).run_ok hk (by omega); rw [hro] at this; exact this
  have hf1 : k1.Fit := by have := hf.write t.size Z; rw [hw1] at this; exact this
  have hv1 : k1.Vis := by have := hv.write t.size Z; rw [hw1] at this; exact this
  have hl1 : k1.dur.length = k.dur.length := by have := ((DOp.wr t.size Z).run_len k hlen).2.1; rw [hro] at this; exact this
  rw [hw1] at hrw
  dsimp only at hrw
  refine hwKR ?_
  refine HL.one (H1.callk (α := (Option Addr × Nat) × (Option Addr × Nat)) (V := fun _ => zv e1) (I := fun _ => True) (H' := fun q => rfH bf q.1.1 q.1.2 q.2.1 q.2.2 k1 (A.blk bk (rjC bf ja jc t false) 127 :: A.grow 9 1 ja jc t.recs.length (strs t.recs) :: H)) (vs := [_, zv (t.size : Int), _]) rfl rfl
    (fun w' hM => hrw w' (hM.sub (Hs.cons (Pick.there (Pick.there (Pick.there Pick.here))) (Hs.cons (Pick.there (Pick.there (Pick.there Pick.here))) (Hs.cons (Pick.there (Pick.there (Pick.there Pick.here))) (Hs.refl _).skip)))) hk (by omega) (by omega)) ?_)
  rintro ⟨⟨sa1, sc1⟩, ⟨la1, lc1⟩⟩ -
  dsimp only
  by_cases he1 : e1 = 0
  rotate_left
  · have hrr : runOps (clr k t) k = (e1, k1) := by rw [hclr, runOps_no (by rw [hro]; exact he1), hro]
    rw [openF_no hoff hload hz (by rw [hrr]; exact he1), hrr]
    refine hwKR ?_
    exact HX.ret2 rfl rfl rfl fun w' hM => ⟨((sa1, sc1), (la1, lc1)), rfl, hM.sub (Hs.cons Pick.here (Hs.cons Pick.here (Hs.cons Pick.here (Hs.refl _).skip.skip)))⟩
  subst he1
  obtain ⟨e2, k2, hw2⟩ : ∃ e2 k2, k1.sync = (e2, k2) := ⟨_, _, rfl⟩
  have hrs := fun w' => rsync_fn (w := w') (w0 := w0) (H := A.blk bk (rjC bf ja jc t false) 127 :: A.grow 9 1 ja jc t.recs.length (strs t.recs) :: H) (bf := bf) (sc := sc1) (lc := lc1) (sa := sa1) (la := la1) (k := k1)
  rw [hw2] at hrs
  dsimp only at hrs
  have hrr : runOps (clr k t) k = (e2, k2) := by rw [hclr, runOps_ok (by rw [hro]), hro, runOps_one]; exact hw2
  refine hwKR ?_
  refine HL.one (H1.callk (α := (Option Addr × Nat) × (Option Addr × Nat)) (V := fun _ => zv e2) (I := fun _ => True) (H' := fun q => rfH bf q.1.1 q.1.2 q.2.1 q.2.2 k2 (A.blk bk (rjC bf ja jc t false) 127 :: A.grow 9 1 ja jc t.recs.length (strs t.recs) :: H)) (vs := [_]) rfl rfl
    (fun w' hM => hrs w' hM hk1 hf1 hv1 (by omega)) ?_)
  rintro ⟨⟨sa2, sc2⟩, ⟨la2, lc2⟩⟩ -
  dsimp only
  by_cases he2 : e2 = 0
  · subst he2
    rw [openF_clr hoff hload hz (by rw [hrr]), hrr]
    refine hwKR ?_
    exact HX.ret2 rfl rfl rfl fun w' hM => ⟨(bk, (ja, jc), (sa2, sc2), (la2, lc2)), rfl, hM.sub (Hs.cons (Pick.there (Pick.there (Pick.there Pick.here))) (Hs.cons (Pick.there (Pick.there (Pick.there Pick.here))) (Hs.refl _)))⟩
  · rw [openF_no hoff hload hz (by rw [hrr]; exact he2), hrr]
    refine hwKR ?_
    exact HX.ret2 rfl rfl rfl fun w' hM => ⟨((sa2, sc2), (la2, lc2)), rfl, hM.sub (Hs.cons Pick.here (Hs.cons Pick.here (Hs.cons Pick.here (Hs.refl _).skip.skip)))⟩
end Go.Sx
/- Chapter 26: the reference's Append: the walk. -/
namespace Go.Sx
open Go Go.Proofs Go.RowKit
theorem mkBA_size (l : List UInt8) : (mkBA l).size = l.length := by show l.toArray.size = _; rw [List.size_toArray]
theorem mkBA_outB (l : List UInt8) (h r : ByteArray) : mkBA l ++ outB h r = mkBA (l ++ outL h r) := ba_ext (by
  rw [ByteArray.data_append]
  simp [mkBA, outB])
theorem outsL_le5 : ∀ (l : List ByteArray) (h : ByteArray), (∀ r ∈ l, r.size ≤ 4300) → (outsL h l).length ≤ 4400 * l.length
  | [], _, _ => Nat.zero_le _
  | r :: l, h, hs => by
    have h1 := outsL_le5 l (chainS h r) fun x hx => hs x (List.mem_cons_of_mem _ hx)
    have h2 := outL_len h r
    have h3 := hs r (List.mem_cons_self ..)
    have h4 := strN_size (n := r.size) (by omega)
    show (outL h r ++ outsL (chainS h r) l).length ≤ 4400 * (l.length + 1)
    rw [List.length_append]; omega
attribute [local irreducible] WC WL WX POp Then Again Fn NX W1 WA WO QL RP RA Yld LoopAt HC HL HX HN H1 HA HO HQ HB HP A.blk A.grow A.rd A.obj A.mp AgainH CutH
attribute [local irreducible] sumS chainS
set_option maxHeartbeats 4000000 in
theorem rappend_fn {w0 w : World} {H : List Atom} {bk bf jc sc lc c9 : Nat} {ja sa la a9 : Option Addr} {j : Jn} {g : List ByteArray} (hM : Mm w0 (rjH bk bf ja jc sa sc la lc j.t j.k j.br H) w) (hm : A.grow 9 1 a9 c9 g.length (strs g) ∈ H)
    (hj : JOk j) (hi : TpOk j.t) (hf : j.k.Fit) (hv : j.k.Vis) (hN : j.k.dur.length ≤ 100000) (hg : g.length ≤ 6) (hs : ∀ r ∈ g, r.size ≤ 4300) :
    Fn Tryz.prog 70 #[.pointer (some ⟨bk, 0, none⟩), .slice a9 g.length c9] w fun v w' => ∃ q : (Option Addr × Nat) × (Option Addr × Nat) × (Option Addr × Nat), True ∧ v = zv (j.append g).1 ∧
      Mm w0 (rjH bk bf q.1.1 q.1.2 q.2.1.1 q.2.1.2 q.2.2.1 q.2.2.2 (j.append g).2.t (j.append g).2.k (j.append g).2.br H) w' := by
  obtain ⟨t, k, br⟩ := j
  have hk := hj.k
  have hpn := hj.pend
  have hfit := hj.fit
  have hrec := hj.recs
  have hhd := hj.head
  dsimp only at hM hi hf hv hN hk hpn hfit hrec hhd
  have hlong : g.any isLong = false := not_long fun r hr => Nat.le_trans (hs r hr) (by decide)
  refine enterK (l := [_, _]) hM rfl Tryz.ntmps70 rfl ?_
  cases br with
  | true =>
    rw [append_br (.inl rfl)]
    refine hwKR ?_
    exact HX.ret1 rfl rfl fun w' hM => ⟨((ja, jc), (sa, sc), (la, lc)), trivial, rfl, hM⟩
  | false =>
  have hnb : ¬ ((⟨t, k, false⟩ : Jn).br = true ∨ g.any isLong = true) := by rw [hlong]; rintro (h | h) <;> cases h
  have hlen := outsL_le5 g t.head hs
  have hts := hi.sz
  refine hwKR ?_
  refine HL.one (H1.callx (u := .string t.head) (vs := [_]) rfl rfl (fun w' hM => by
    have := refHead_fn (.slice ja t.recs.length jc) t.recs (fun r hr => Nat.le_trans (hts r hr) (by decide)) (by omega) w' (Mm.gr (e := 9) (a := ja) (c := jc) hM memA)
    rw [← hi.adds] at this
    exact this) ?_)
  refine hbKR ?_
  obtain ⟨o, ho⟩ : ∃ o, o = outsL t.head g := ⟨_, rfl⟩
  have hlen2 := hlen
  rw [← ho] at hlen
  have hol := mkBA_size o
  repeat refine HC.seq ?_
  refine HC.cut (α := Unit) (fun _ => [(0, .pointer (some ⟨bk, 0, none⟩)), (1, .slice a9 g.length c9), (5, .string (mkBA o))]) (fun _ => rjH bk bf ja jc sa sc la lc t k false H) (fun _ => True) ?_ ?_
  · refine HC.block ?_
    refine HC.loop (α := Nat) (fun i => [(0, .pointer (some ⟨bk, 0, none⟩)), (1, .slice a9 g.length c9), (5, .string (mkBA (outsL t.head (g.take i)))), (6, .string (adds t (g.take i)).head), (7, zv (i : Int))]) (fun _ => rjH bk bf ja jc sa sc la lc t k false H) (fun i => i ≤ g.length) (fun i => g.length - i) 0 (Nat.zero_le _) esA (Hs.refl _) ?_
    intro i hil
    by_cases hlt : i < g.length
    · have htk := take_fr hlt
      have hsn := outsL_snoc t (g.take i) (fr g i)
      have hsa := adds_snoc t (g.take i) (fr g i)
      rw [← htk] at hsn hsa
      have hle := outsL_take t g i
      have hszr := hs _ (fr_mem2 hlt)
      have hget := strs_get hlt
      have hh2 := adds_head (g.take i) t hhd
      have hmb := mkBA_size (outsL t.head (g.take i))
      have hob := outB_size (adds t (g.take i)).head (fr g i)
      have hobl := outL_len (adds t (g.take i)).head (fr g i)
      have hsz2 := strN_size (n := (fr g i).size) (by omega)
      have hle2 := outsL_take t g (i + 1)
      have hcat := mkBA_outB (outsL t.head (g.take i)) (adds t (g.take i)).head (fr g i)
      rw [← hsn] at hcat
      generalize fr g i = s at hsn hsa hszr hget hob hobl hsz2 hcat
      refine HC.openg (e := 9) (sz := 1) (a := a9) (c := c9) (n := g.length) (xs := strs g) (.tail _ (.tail _ (.tail _ (.tail _ (.tail _ hm))))) (by omega) ?_
      rintro b9 rfl
      have hng : ¬ (65536 : Int) < (s.size : Int) := by omega
      refine hwKR ?_
      refine HL.one (H1.ldg rfl (.tail _ (.tail _ (.tail _ (.tail _ (.tail _ hm))))) hget rfl ?_)
      refine hwKR ?_
      refine HL.one (H1.ldg rfl (.tail _ (.tail _ (.tail _ (.tail _ (.tail _ hm))))) hget rfl ?_)
      refine hwKR ?_
      refine HL.one (H1.callx (vs := [_, _]) rfl rfl (fun w' _ => stored_fn (adds t (g.take i)).head s hh2 (by omega) w') ?_)
      refine hwKR ?_
      rw [hcat]
      exact HX.again (i + 1) hlt (by show g.length - (i + 1) < g.length - i; omega) (by rw [hsa]; exact ⟨rfl, rfl, rfl, rfl, rfl, trivial⟩) (Hs.refl _)
    · obtain rfl : i = g.length := by omega
      rw [List.take_length, ← ho]
      refine hwKR ?_
      exact HX.cut () trivial esA (Hs.refl _)
  rintro - -
  refine hwKR ?_
  refine HL.one (H1.callk (α := Unit) (V := fun _ => zv ((k.dur.length : Int) - (t.size : Int))) (I := fun _ => True) (H' := fun _ => rjH bk bf ja jc sa sc la lc t k false H) (vs := [_]) rfl rfl (fun w' hM => rroom_fn hM hk (by omega)) ?_)
  rintro - -
  by_cases hful : (k.dur.length : Int) - (t.size : Int) < (o.length : Int)
  · have hful' : (k.dur.length : Int) - (t.size : Int) < ((mkBA o).size : Int) := by omega
    rw [append_full hnb (by rw [ho] at hful; exact hful)]
    refine hwKR ?_
    exact HX.ret1 rfl rfl fun w' hM => ⟨((ja, jc), (sa, sc), (la, lc)), trivial, rfl, hM⟩
  have hful' : ¬ (k.dur.length : Int) - (t.size : Int) < ((mkBA o).size : Int) := by omega
  have hfulA : ¬ ((⟨t, k, false⟩ : Jn).k.dur.length : Int) - ((⟨t, k, false⟩ : Jn).t.size : Int) < ((outsL (⟨t, k, false⟩ : Jn).t.head g).length : Int) := by rw [ho] at hful; exact hful
  by_cases hnil : o = []
  · rw [append_nil hnb hfulA (by rw [ho] at hnil; exact hnil)]
    subst hnil
    have he : mkBA [] = ByteArray.mk #[] := rfl
    refine hwKR ?_
    exact HX.ret1 rfl rfl fun w' hM => ⟨((ja, jc), (sa, sc), (la, lc)), trivial, rfl, hM⟩
  have hne : ¬ mkBA o = ByteArray.mk #[] := fun h => hnil (mkBA_inj.1 h)
  have hnilA : ¬ outsL (⟨t, k, false⟩ : Jn).t.head g = [] := by rw [ho] at hnil; exact hnil
  have hfin := fun h => append_ok hnb hfulA hnilA h
  have hbad := fun h => append_no hnb hfulA hnilA h
  dsimp only at hfin hbad
  rw [← ho] at hfin hbad
  have hopos : 0 < o.length := List.length_pos_iff.2 hnil
  obtain ⟨o1, ho1⟩ : ∃ o1, o1 = mkBA (o.drop 1) := ⟨_, rfl⟩
  obtain ⟨o0, ho0⟩ : ∃ o0, o0 = mkBA (o.take 1) := ⟨_, rfl⟩
  have hs1 : o1.size = o.length - 1 := by rw [ho1, mkBA_size, List.length_drop]
  have hs0 : o0.size = 1 := by rw [ho0, mkBA_size, List.length_take]; omega
  have hx1 : (mkBA o).extract 1 (mkBA o).size = o1 := by
    rw [extract_mk, hol, ho1, show (mkBA o).data.toList = o from rfl, List.take_of_length_le (by rw [List.length_drop]; exact Nat.le_refl _)]
  have hx0 : (mkBA o).extract 0 1 = o0 := by
    rw [extract_mk, ho0, show (mkBA o).data.toList = o from rfl]; rfl
  have hgrp : grp t o = [.wr (t.size + 1) o1, .sy, .wr t.size o0, .sy] := by unfold grp; rw [← ho1, ← ho0]
  rw [hgrp] at hfin hbad
  have hw : ∀ {k : Dk} (off : Nat) (s : ByteArray) {e : Int} {k1 : Dk}, k.write off s = (e, k1) → k.Ok → k.Fit → k.Vis → k.pend.length ≤ 9500 → k1.Ok ∧ k1.Fit ∧ k1.Vis ∧ k1.dur.length = k.dur.length ∧ k1.pend.length ≤ k.pend.length + 1 := by
    intro k off s e k1 h hk hf hv hp
    have hro : (DOp.wr off s).run k = (e, k1) := h
    have h1 := (DOp.wr off s).run_ok hk (by omega)
    have h2 := (DOp.wr off s).run_len k hk.len
    have h3 := Dk.Fit.run hf (.wr off s)
    have h4 := Dk.Vis.run hv (.wr off s)
    rw [hro] at h1 h2 h3 h4
    exact ⟨h1, h3, h4, h2.2.1, h2.2.2.2⟩
  have hy : ∀ {k : Dk} {e : Int} {k1 : Dk}, k.sync = (e, k1) → k.Ok → k.Fit → k.Vis → k.pend.length ≤ 9500 → k1.Ok ∧ k1.Fit ∧ k1.Vis ∧ k1.dur.length = k.dur.length ∧ k1.pend.length ≤ k.pend.length + 1 := by
    intro k e k1 h hk hf hv hp
    have hro : DOp.sy.run k = (e, k1) := h
    have h1 := DOp.sy.run_ok hk (by omega)
    have h2 := DOp.sy.run_len k hk.len
    have h3 := Dk.Fit.run hf .sy
    have h4 := Dk.Vis.run hv .sy
    rw [hro] at h1 h2 h3 h4
    exact ⟨h1, h3, h4, h2.2.1, h2.2.2.2⟩
  obtain ⟨e1, k1, hw1⟩ : ∃ e1 k1, k.write (t.size + 1) o1 = (e1, k1) := ⟨_, _, rfl⟩
  obtain ⟨hk1, hf1, hv1, hl1, hp1⟩ := hw _ _ hw1 hk hf hv (by omega)
  have hr1 : (DOp.wr (t.size + 1) o1).run k = (e1, k1) := hw1
  refine hwKR ?_
  refine HC.cut (α := (Option Addr × Nat) × (Option Addr × Nat)) (fun _ => [(0, .pointer (some ⟨bk, 0, none⟩)), (1, .slice a9 g.length c9), (5, .string (mkBA o)), (10, zv e1)]) (fun q => rjH bk bf ja jc q.1.1 q.1.2 q.2.1 q.2.2 t k1 false H) (fun _ => True) ?_ ?_
  · have hrw := fun w' => rwrite_fn (w := w') (w0 := w0) (H := A.blk bk (rjC bf ja jc t false) 127 :: A.grow 9 1 ja jc t.recs.length (strs t.recs) :: H) (bf := bf) (sc := sc) (lc := lc) (sa := sa) (la := la) (k := k) (t.size + 1) o1
    rw [hw1] at hrw
    dsimp only at hrw
    refine HC.anyC ([(⟨bk, 0, none⟩, .pointer (some ⟨bf, 0, none⟩)), (⟨bk, 2, none⟩, zv (t.size : Int))]) rfl ?_
    refine HB.pa 0 rfl ?_
    refine HB.pa 1 rfl ?_ (POp.nilCheck rfl)
    refine HB.pa 2 rfl ?_
    refine HB.ld 3 rfl rfl memD ?_
    refine HB.pa 4 rfl ?_
    refine HB.pa 5 rfl ?_ (POp.nilCheck rfl)
    refine HB.pa 6 rfl ?_
    refine HB.ld 7 rfl rfl memD ?_
    refine HB.pa 8 rfl ?_
    refine HB.pa 9 rfl ?_
    refine HB.pa 10 rfl ?_ (POp.sub_l rfl rfl (by omega) (by omega))
    rw [show (1 : Int).toNat = 1 from rfl, hx1]
    refine HB.all (by (exact Keep.blk (b := bk) memD rfl (Keep.blk (b := bk) memD rfl Keep.nil))) [11] (by kernel_rfl) rfl ⟨⟨_, rfl, ?_⟩, trivial⟩
    refine HP.one ?_
    refine H1.callk (α := (Option Addr × Nat) × (Option Addr × Nat)) (V := fun _ => zv e1) (I := fun _ => True) (H' := fun q => rfH bf q.1.1 q.1.2 q.2.1 q.2.2 k1 (A.blk bk (rjC bf ja jc t false) 127 :: A.grow 9 1 ja jc t.recs.length (strs t.recs) :: H)) (vs := [_, zv ((t.size + 1 : Nat) : Int), _]) rfl rfl
      (fun w' hM => hrw w' (hM.sub (Hs.cons (Pick.there (Pick.there Pick.here)) (Hs.cons (Pick.there (Pick.there Pick.here)) (Hs.cons (Pick.there (Pick.there Pick.here)) (Hs.refl _))))) hk (by omega) (by omega)) ?_
    rintro ⟨⟨sa1, sc1⟩, ⟨la1, lc1⟩⟩ -
    dsimp only
    apply HB.fold
    refine HB.pa 12 rfl ?_
    refine HB.done (by (exact Keep.blk (b := bk) memD rfl (Keep.blk (b := bk) memD rfl Keep.nil))) (by kernel_rfl) ?_
    refine hwKR ?_
    exact HX.cut ((sa1, sc1), (la1, lc1)) trivial esA (Hs.cons (Pick.there (Pick.there (Pick.there Pick.here))) (Hs.cons (Pick.there (Pick.there (Pick.there Pick.here))) (Hs.refl _)))
  clear sa sc la lc hM
  rintro ⟨⟨sa, sc⟩, ⟨la, lc⟩⟩ -
  dsimp only
  by_cases he1 : e1 = 0
  rotate_left
  · have hrr : runOps [.wr (t.size + 1) o1, .sy, .wr t.size o0, .sy] k = (e1, k1) := by rw [runOps_no (by rw [hr1]; exact he1), hr1]
    rw [hbad (by rw [hrr]; exact he1), hrr]
    refine hwKR ?_
    refine HL.one (H1.st rfl rfl (by intro _ h; cases h) (by intro _ h; cases h) rplA (by show 3 < 4; decide) ?_)
    refine hwKR ?_
    exact HX.ret1 rfl rfl fun w' hM => ⟨((ja, jc), (sa, sc), (la, lc)), trivial, rfl, hM⟩
  subst he1
  obtain ⟨e2, k2, hw2⟩ : ∃ e2 k2, k1.sync = (e2, k2) := ⟨_, _, rfl⟩
  obtain ⟨hk2, hf2, hv2, hl2, hp2⟩ := hy hw2 hk1 hf1 hv1 (by omega)
  have hr2 : DOp.sy.run k1 = (e2, k2) := hw2
  have hrs := fun w' => rsync_fn (w := w') (w0 := w0) (H := A.blk bk (rjC bf ja jc t false) 127 :: A.grow 9 1 ja jc t.recs.length (strs t.recs) :: H) (bf := bf) (sc := sc) (lc := lc) (sa := sa) (la := la) (k := k1)
  rw [hw2] at hrs
  dsimp only at hrs
  refine hwKR ?_
  refine HL.one (H1.callk (α := (Option Addr × Nat) × (Option Addr × Nat)) (V := fun _ => zv e2) (I := fun _ => True) (H' := fun q => rfH bf q.1.1 q.1.2 q.2.1 q.2.2 k2 (A.blk bk (rjC bf ja jc t false) 127 :: A.grow 9 1 ja jc t.recs.length (strs t.recs) :: H)) (vs := [_]) rfl rfl
    (fun w' hM => hrs w' (hM.sub (Hs.cons (Pick.there (Pick.there Pick.here)) (Hs.cons (Pick.there (Pick.there Pick.here)) (Hs.cons (Pick.there (Pick.there Pick.here)) (Hs.refl _))))) hk1 hf1 hv1 (by omega)) ?_)
  clear hrs sa sc la lc
  rintro ⟨⟨sa, sc⟩, ⟨la, lc⟩⟩ -
  dsimp only
  by_cases he2 : e2 = 0
  rotate_left
  · have hrr : runOps [.wr (t.size + 1) o1, .sy, .wr t.size o0, .sy] k = (e2, k2) := by rw [runOps_ok (by rw [hr1]), hr1, runOps_no (by rw [hr2]; exact he2), hr2]
    rw [hbad (by rw [hrr]; exact he2), hrr]
    refine hwKR ?_
    refine HL.one (H1.st rfl rfl (by intro _ h; cases h) (by intro _ h; cases h) rplA (by show 3 < 4; decide) ?_)
    refine hwKR ?_
    exact HX.ret1 rfl rfl fun w' hM => ⟨((ja, jc), (sa, sc), (la, lc)), trivial, rfl, hM.sub (Hs.cons (Pick.there (Pick.there (Pick.there Pick.here))) (Hs.cons (Pick.there (Pick.there (Pick.there Pick.here))) (Hs.refl _)))⟩
  subst he2
  obtain ⟨e3, k3, hw3⟩ : ∃ e3 k3, k2.write t.size o0 = (e3, k3) := ⟨_, _, rfl⟩
  obtain ⟨hk3, hf3, hv3, hl3, hp3⟩ := hw _ _ hw3 hk2 hf2 hv2 (by omega)
  have hr3 : (DOp.wr t.size o0).run k2 = (e3, k3) := hw3
  refine hwKR ?_
  refine HC.cut (α := (Option Addr × Nat) × (Option Addr × Nat)) (fun _ => [(0, .pointer (some ⟨bk, 0, none⟩)), (1, .slice a9 g.length c9), (5, .string (mkBA o)), (10, zv e3)]) (fun q => rjH bk bf ja jc q.1.1 q.1.2 q.2.1 q.2.2 t k3 false H) (fun _ => True) ?_ ?_
  · have hrw := fun w' => rwrite_fn (w := w') (w0 := w0) (H := A.blk bk (rjC bf ja jc t false) 127 :: A.grow 9 1 ja jc t.recs.length (strs t.recs) :: H) (bf := bf) (sc := sc) (lc := lc) (sa := sa) (la := la) (k := k2) t.size o0
    rw [hw3] at hrw
    dsimp only at hrw
    refine HC.anyC ([(⟨bk, 0, none⟩, .pointer (some ⟨bf, 0, none⟩)), (⟨bk, 2, none⟩, zv (t.size : Int))]) rfl ?_
    refine HB.pa 0 rfl ?_
    refine HB.pa 1 rfl ?_ (POp.nilCheck rfl)
    refine HB.pa 2 rfl ?_
    refine HB.ld 3 rfl rfl memD ?_
    refine HB.pa 4 rfl ?_
    refine HB.pa 5 rfl ?_ (POp.nilCheck rfl)
    refine HB.pa 6 rfl ?_
    refine HB.ld 7 rfl rfl memD ?_
    refine HB.pa 8 rfl ?_
    refine HB.pa 9 rfl ?_ (POp.sub_h rfl rfl (by omega) (by omega))
    rw [show (1 : Int).toNat = 1 from rfl, hx0]
    refine HB.all (by (exact Keep.blk (b := bk) memD rfl (Keep.blk (b := bk) memD rfl Keep.nil))) [10] (by kernel_rfl) rfl ⟨⟨_, rfl, ?_⟩, trivial⟩
    refine HP.one ?_
    refine H1.callk (α := (Option Addr × Nat) × (Option Addr × Nat)) (V := fun _ => zv e3) (I := fun _ => True) (H' := fun q => rfH bf q.1.1 q.1.2 q.2.1 q.2.2 k3 (A.blk bk (rjC bf ja jc t false) 127 :: A.grow 9 1 ja jc t.recs.length (strs t.recs) :: H)) (vs := [_, zv (t.size : Int), _]) rfl rfl
      (fun w' hM => hrw w' (hM.sub (Hs.refl _)) hk2 (by omega) (by omega)) ?_
    rintro ⟨⟨sa1, sc1⟩, ⟨la1, lc1⟩⟩ -
    dsimp only
    apply HB.fold
    refine HB.pa 11 rfl ?_
    refine HB.done (by (exact Keep.blk (b := bk) memD rfl (Keep.blk (b := bk) memD rfl Keep.nil))) (by kernel_rfl) ?_
    refine hwKR ?_
    exact HX.cut ((sa1, sc1), (la1, lc1)) trivial esA (Hs.cons (Pick.there (Pick.there (Pick.there Pick.here))) (Hs.cons (Pick.there (Pick.there (Pick.there Pick.here))) (Hs.refl _)))
  clear sa sc la lc
  rintro ⟨⟨sa, sc⟩, ⟨la, lc⟩⟩ -
  dsimp only
  by_cases he3 : e3 = 0
  rotate_left
  · have hrr : runOps [.wr (t.size + 1) o1, .sy, .wr t.size o0, .sy] k = (e3, k3) := by rw [runOps_ok (by rw [hr1]), hr1, runOps_ok (by rw [hr2]), hr2, runOps_no (by rw [hr3]; exact he3), hr3]
    rw [hbad (by rw [hrr]; exact he3), hrr]
    refine hwKR ?_
    refine HL.one (H1.st rfl rfl (by intro _ h; cases h) (by intro _ h; cases h) rplA (by show 3 < 4; decide) ?_)
    refine hwKR ?_
    exact HX.ret1 rfl rfl fun w' hM => ⟨((ja, jc), (sa, sc), (la, lc)), trivial, rfl, hM⟩
  subst he3
  obtain ⟨e4, k4, hw4⟩ : ∃ e4 k4, k3.sync = (e4, k4) := ⟨_, _, rfl⟩
  have hr4 : DOp.sy.run k3 = (e4, k4) := hw4
  have hrs := fun w' => rsync_fn (w := w') (w0 := w0) (H := A.blk bk (rjC bf ja jc t false) 127 :: A.grow 9 1 ja jc t.recs.length (strs t.recs) :: H) (bf := bf) (sc := sc) (lc := lc) (sa := sa) (la := la) (k := k3)
  rw [hw4] at hrs
  dsimp only at hrs
  refine hwKR ?_
  refine HL.one (H1.callk (α := (Option Addr × Nat) × (Option Addr × Nat)) (V := fun _ => zv e4) (I := fun _ => True) (H' := fun q => rfH bf q.1.1 q.1.2 q.2.1 q.2.2 k4 (A.blk bk (rjC bf ja jc t false) 127 :: A.grow 9 1 ja jc t.recs.length (strs t.recs) :: H)) (vs := [_]) rfl rfl
    (fun w' hM => hrs w' (hM.sub (Hs.cons (Pick.there (Pick.there Pick.here)) (Hs.cons (Pick.there (Pick.there Pick.here)) (Hs.cons (Pick.there (Pick.there Pick.here)) (Hs.refl _))))) hk3 hf3 hv3 (by omega)) ?_)
  clear hrs sa sc la lc
  rintro ⟨⟨sa, sc⟩, ⟨la, lc⟩⟩ -
  dsimp only
  have hrr : runOps [.wr (t.size + 1) o1, .sy, .wr t.size o0, .sy] k = (e4, k4) := by rw [runOps_ok (by rw [hr1]), hr1, runOps_ok (by rw [hr2]), hr2, runOps_ok (by rw [hr3]), hr3, runOps_one, hr4]
  by_cases he4 : e4 = 0
  rotate_left
  · rw [hbad (by rw [hrr]; exact he4), hrr]
    refine hwKR ?_
    refine HL.one (H1.st rfl rfl (by intro _ h; cases h) (by intro _ h; cases h) rplA (by show 3 < 4; decide) ?_)
    refine hwKR ?_
    exact HX.ret1 rfl rfl fun w' hM => ⟨((ja, jc), (sa, sc), (la, lc)), trivial, rfl, hM.sub (Hs.cons (Pick.there (Pick.there (Pick.there Pick.here))) (Hs.cons (Pick.there (Pick.there (Pick.there Pick.here))) (Hs.refl _)))⟩
  subst he4
  rw [hfin (by rw [hrr]), hrr]
  refine hwKR ?_
  refine HL.grow0 9 1 ?_
  refine hwKR ?_
  refine HL.one (H1.appR3 (n := 0) (m := t.recs.length) (vs := strs t.recs) rfl (strs_len2 _) rfl rfl (fun _ _ => by first | ((repeat (first | with_reducible exact Rpl.here | with_reducible apply Rpl.there)); done) | (repeat (first | exact Rpl.here | apply Rpl.there))) (fun w' hM => Mm.gr (e := 9) (a := ja) (c := jc) hM memA) (strs_one2 _) (by omega) (by decide) rfl (.inl rfl) (fun a4 c4 ha4 => ?_))
  rw [Nat.zero_add, List.nil_append]
  refine hwKR ?_
  refine HL.one (H1.appR3 (n := t.recs.length) (m := g.length) (xs := strs t.recs) (vs := strs g) rfl (strs_len2 g) rfl rfl (fun _ _ => by first | ((repeat (first | with_reducible exact Rpl.here | with_reducible apply Rpl.there)); done) | (repeat (first | exact Rpl.here | apply Rpl.there))) (fun w' hM => Mm.gr (e := 9) (a := a9) (c := c9) hM (.tail _ (.tail _ (.tail _ (.tail _ (.tail _ (.tail _ hm))))))) (strs_one2 g) (by omega) (by decide) rfl (by rw [Nat.zero_add] at ha4; exact ha4) (fun a6 c6 _ => ?_))
  rw [strs_app2, ← List.length_append]
  refine hwKR ?_
  refine HL.one (H1.st rfl rfl (by intro _ h; cases h) (by intro _ h; cases h) rplA (by show 1 < 4; decide) ?_)
  refine hwKR ?_
  refine HL.one (H1.st rfl rfl (by intro _ h; cases h) (by intro _ h; cases h) rplA (by show 2 < 4; decide) ?_)
  refine hwKR ?_
  have er := adds_recs g t
  have es := adds_size g t
  rw [← ho] at es
  have ez : (t.size : Int) + ((mkBA o).size : Int) = ((adds t g).size : Int) := by omega
  rw [ez]
  refine HX.ret1 rfl rfl fun w' hM => ⟨((a6, c6), (sa, sc), (la, lc)), trivial, rfl, ?_⟩
  show Mm w0 (A.blk bk (rjC bf a6 c6 (adds t g) false) _ :: A.grow _ 1 a6 c6 (adds t g).recs.length (strs (adds t g).recs) :: rfH bf sa sc la lc k4 H) w'
  unfold rjC
  rw [er]
  exact hM.sub (Hs.cons (Pick.there (Pick.there (Pick.there (Pick.there Pick.here)))) (Hs.cons Pick.here (Hs.cons Pick.here (Hs.cons Pick.here (Hs.cons Pick.here (Hs.refl _).skip)))))
end Go.Sx
/- Chapter 27: the reference's custodian: its small functions: the walks. -/
namespace Go.Sx
open Go Go.Proofs Go.RowKit
theorem hwZB {G G2 : Prop} (x : G2) (hwq : Hold G2 → G := by
    intro hQq
    repeat' (first | refine HL.pa ?_ (POp.nilCheck rfl) | apply HL.fold | apply HA.fold | apply HL.nil | apply HX.n_then | apply HC.seq | apply HC.region | refine HL.pa ?_ | refine HL.ga rfl ?_ | refine HL.na rfl ?_ | refine HL.nu rfl rfl ?_ | apply HC.block | apply HC.skip | apply HC.exit | apply HC.ret | apply HX.e_block | refine HX.e_other rfl ?_ | apply HX.e_then | apply HX.e_again | apply HX.n_block | apply HX.r_then | apply HX.r_block | apply HX.r_again | refine HC.cond_yes rfl ?_ | refine HC.cond_no rfl ?_ | refine HL.one (H1.ldb rfl memA rfl rfl ?_) | refine HC.cond rfl (fun hc => ?_) (fun hc => ?_) | refine HC.cond_b rfl (fun hc => ?_) (fun hc => ?_))
    exact hQq.get) : G := hwq ⟨x⟩
theorem hbZB {G G2 : Prop} (x : G2) (hwq : Hold G2 → G := by
    intro hQq
    repeat' (first | refine HL.pa ?_ (POp.nilCheck rfl) | apply HL.fold | apply HA.fold | apply HL.nil | apply HX.n_then | apply HC.seq | apply HC.region | refine HL.pa ?_ | refine HL.ga rfl ?_ | refine HL.na rfl ?_ | refine HL.nu rfl rfl ?_ | apply HC.skip | apply HC.exit | apply HC.ret | apply HX.e_block | refine HX.e_other rfl ?_ | apply HX.e_then | apply HX.e_again | apply HX.n_block | apply HX.r_then | apply HX.r_block | apply HX.r_again | refine HC.cond_yes rfl ?_ | refine HC.cond_no rfl ?_ | refine HL.one (H1.ldb rfl memA rfl rfl ?_) | refine HC.cond rfl (fun hc => ?_) (fun hc => ?_) | refine HC.cond_b rfl (fun hc => ?_) (fun hc => ?_))
    exact hQq.get) : G := hwq ⟨x⟩
theorem putsB_app (a : ByteArray) : ∀ (l : List Nat) (b : ByteArray), putsB (a ++ b) l = a ++ putsB b l
  | [], _ => rfl
  | n :: l, b => by
    show putsB ((a ++ b) ++ strN n) l = a ++ putsB (b ++ strN n) l
    rw [ByteArray.append_assoc, putsB_app a l]
theorem putsB_nil (a : ByteArray) (l : List Nat) : a ++ putsB (ByteArray.mk #[]) l = putsB a l := by
  have h := putsB_app a l (ByteArray.mk #[])
  rw [← h]
  congr 1
  exact ba_ext (by rw [ByteArray.data_append]; simp)
/-- Reading of pieces. -/
def RdC (w : World) (v : Value) (l : PM) : Prop := ∃ a c, v = .slice a l.length c ∧ l.length ≤ c ∧ (l = [] ∨ ∃ b off, a = some ⟨b, off, none⟩ ∧ ∀ i u, (piecs l)[i]? = some u → w.cell? ⟨b, off + i, none⟩ = some u)
theorem Mm.grC {w0 w : World} {H : List Atom} {e : TypeId} {a : Option Addr} {c : Nat} {l : PM} (h : Mm w0 H w) (hm : A.grow e 3 a c l.length (piecs l) ∈ H) : RdC w (.slice a l.length c) l := by
  have hown := h.own hm
  rcases hown.2 with ⟨hv, h2⟩ | ⟨g, cap, cur, hv, -, -, hnc, -⟩
  · injection hv with e1 e2 e3
    subst e3
    exact ⟨a, 0, rfl, by omega, .inl (List.eq_nil_of_length_eq_zero h2)⟩
  · cases hv
    exact ⟨_, _, rfl, hnc, .inr ⟨g, 0, rfl, fun i u hu => by rw [Nat.zero_add]; exact ownsRow_cell hown hu⟩⟩
def putF (p : PK) (s : ByteArray) (l : PM) : PM × Bool := l.foldl (putStep p s) ([], false)
theorem putF_snoc (p : PK) (s : ByteArray) (l : PM) (x : PK × ByteArray) : putF p s (l ++ [x]) = putStep p s (putF p s l) x := by unfold putF; rw [List.foldl_append]; rfl
theorem putStep_len (p : PK) (s : ByteArray) (st : PM × Bool) (x : PK × ByteArray) : (putStep p s st x).1.length ≤ st.1.length + 2 := by
  unfold putStep
  by_cases h1 : ¬ leP x.1 p ∧ st.2 = false
  · rw [if_pos h1]
    by_cases h2 : x.1 = p
    · rw [if_pos h2]; simp
    · rw [if_neg h2]; simp
  · rw [if_neg h1]
    by_cases h2 : x.1 = p
    · rw [if_pos h2]; exact Nat.le_add_right _ _
    · rw [if_neg h2]; simp
theorem putF_len (p : PK) (s : ByteArray) : ∀ (l : PM) (st : PM × Bool), (l.foldl (putStep p s) st).1.length ≤ st.1.length + 2 * l.length
  | [], _ => Nat.le_refl _
  | x :: l, st => by
    have h1 := putF_len p s l (putStep p s st x)
    have h2 := putStep_len p s st x
    show (l.foldl (putStep p s) (putStep p s st x)).1.length ≤ st.1.length + 2 * (l.length + 1)
    omega
theorem take_pm {l : PM} {i : Nat} {x : PK × ByteArray} (h : l[i]? = some x) : l.take (i + 1) = l.take i ++ [x] := by rw [List.take_add_one, h]; rfl
attribute [local irreducible] WC WL WX POp Then Again Fn NX W1 WA WO QL RP RA Yld LoopAt HC HL HX HN H1 HA HO HQ HB HP A.blk A.grow A.rd A.obj A.mp AgainH CutH
attribute [local irreducible] unz sumS chainS
theorem rInt06_fn {w0 w : World} {H : List Atom} {br p z q : Nat} (s : ByteArray) (hd : decI s.data.toList p = some (z, q)) (hM : Mm w0 (A.blk br [.string s, zv (p : Int), .bool false] 130 :: H) w) (hp : p ≤ s.size) (hs : s.size ≤ 5000000) :
    Fn Tryz.prog 65 #[.pointer (some ⟨br, 0, none⟩)] w fun v w' => ∃ _ : Unit, True ∧ v = zv (unz z) ∧ Mm w0 (A.blk br [.string s, zv (q : Int), .bool false] 130 :: H) w' := by
  have hint := fun w' => refInt_fn s p hp hs w'
  rw [hd] at hint
  refine enterK (l := [_]) hM rfl Tryz.ntmps65 rfl ?_
  refine hwZB ?_
  refine HC.anyC ([(⟨br, 0, none⟩, .string s), (⟨br, 1, none⟩, zv (p : Int))]) rfl ?_
  refine HB.pa 0 rfl ?_
  refine HB.pa 1 rfl ?_ (POp.nilCheck rfl)
  refine HB.pa 2 rfl ?_
  refine HB.ld 3 rfl rfl memD ?_
  refine HB.pa 4 rfl ?_
  refine HB.pa 5 rfl ?_ (POp.nilCheck rfl)
  refine HB.pa 6 rfl ?_
  refine HB.ld 7 rfl rfl memD ?_
  refine HB.all (by (exact Keep.blk (b := br) memD rfl (Keep.blk (b := br) memD rfl Keep.nil))) [8] (by kernel_rfl) rfl ⟨⟨_, rfl, ?_⟩, trivial⟩
  refine HP.one ?_
  refine H1.callx (vs := [.string s, zv (p : Int)]) rfl rfl (fun w' _ => hint w') ?_
  apply HB.fold
  refine HB.pa 9 rfl ?_
  refine HB.pa 10 rfl ?_
  refine HB.pa 11 rfl ?_
  refine HB.pa 12 rfl ?_
  refine HB.pa 13 rfl ?_
  refine HB.pa 14 rfl ?_
  refine HB.pa 15 rfl ?_
  refine HB.done (by (exact Keep.blk (b := br) memD rfl (Keep.blk (b := br) memD rfl Keep.nil))) (by kernel_rfl) ?_
  refine hwZB ?_
  refine HL.one (H1.st rfl rfl (by intro _ h; cases h) (by intro _ h; cases h) rplA (by show 1 < 3; decide) ?_)
  refine hwZB ?_
  exact HX.ret1 rfl rfl fun w' hM => ⟨(), trivial, rfl, hM⟩
theorem rText06_fn {w0 w : World} {H : List Atom} {br p q : Nat} {r : List UInt8} (s : ByteArray) (hd : decS s.data.toList p = some (r, q)) (hM : Mm w0 (A.blk br [.string s, zv (p : Int), .bool false] 130 :: H) w) (hp : p ≤ s.size) (hs : s.size ≤ 5000000) :
    Fn Tryz.prog 67 #[.pointer (some ⟨br, 0, none⟩)] w fun v w' => ∃ _ : Unit, True ∧ v = .string (mkBA r) ∧ Mm w0 (A.blk br [.string s, zv (q : Int), .bool false] 130 :: H) w' := by
  have hint := fun w' => refString_fn s p hp hs w'
  rw [hd] at hint
  refine enterK (l := [_]) hM rfl Tryz.ntmps67 rfl ?_
  refine hwZB ?_
  refine HC.anyC ([(⟨br, 0, none⟩, .string s), (⟨br, 1, none⟩, zv (p : Int))]) rfl ?_
  refine HB.pa 0 rfl ?_
  refine HB.pa 1 rfl ?_ (POp.nilCheck rfl)
  refine HB.pa 2 rfl ?_
  refine HB.ld 3 rfl rfl memD ?_
  refine HB.pa 4 rfl ?_
  refine HB.pa 5 rfl ?_ (POp.nilCheck rfl)
  refine HB.pa 6 rfl ?_
  refine HB.ld 7 rfl rfl memD ?_
  refine HB.all (by (exact Keep.blk (b := br) memD rfl (Keep.blk (b := br) memD rfl Keep.nil))) [8] (by kernel_rfl) rfl ⟨⟨_, rfl, ?_⟩, trivial⟩
  refine HP.one ?_
  refine H1.callx (vs := [.string s, zv (p : Int)]) rfl rfl (fun w' _ => hint w') ?_
  apply HB.fold
  refine HB.pa 9 rfl ?_
  refine HB.pa 10 rfl ?_
  refine HB.pa 11 rfl ?_
  refine HB.pa 12 rfl ?_
  refine HB.pa 13 rfl ?_
  refine HB.pa 14 rfl ?_
  refine HB.pa 15 rfl ?_
  refine HB.done (by (exact Keep.blk (b := br) memD rfl (Keep.blk (b := br) memD rfl Keep.nil))) (by kernel_rfl) ?_
  refine hwZB ?_
  refine HL.one (H1.st rfl rfl (by intro _ h; cases h) (by intro _ h; cases h) rplA (by show 1 < 3; decide) ?_)
  refine hwZB ?_
  exact HX.ret1 rfl rfl fun w' hM => ⟨(), trivial, rfl, hM⟩
theorem rvalid27_fn (o f : Int) (w : World) : Fn Tryz.prog 66 #[zv o, zv f] w fun v w' => v = .bool (decide (okP (o, f))) ∧ w = w' := by
  refine enter (l := [_, _]) rfl Tryz.ntmps66 rfl ?_
  by_cases h1 : 1 ≤ o
  · by_cases h2 : o ≤ 1000000
    · by_cases h3 : 0 ≤ f
      · by_cases h4 : f < 9
        · repeat' (first | apply WL.fold | apply WA.fold | apply WL.nil | apply WX.n_then | apply WC.seq | apply WC.region | refine WL.pa ?_ | refine WL.ga rfl ?_ | refine WL.na rfl ?_ | refine WL.nu rfl rfl ?_ | apply WC.block | apply WC.skip | apply WC.exit | apply WC.ret | apply WX.e_block | refine WX.e_other rfl ?_ | apply WX.e_then | apply WX.e_again | apply WX.n_block | apply WX.r_then | apply WX.r_block | apply WX.r_again | refine WC.cond_yes rfl ?_ | refine WC.cond_no rfl ?_ | refine WC.cond rfl (fun hc => ?_) (fun hc => ?_) | refine WC.cond_b rfl (fun hc => ?_) (fun hc => ?_))
          exact WX.ret1 rfl rfl ⟨by rw [decide_eq_true h4, decide_eq_true (p := okP (o, f)) ⟨h1, h2, h3, h4⟩], rfl⟩
        · repeat' (first | apply WL.fold | apply WA.fold | apply WL.nil | apply WX.n_then | apply WC.seq | apply WC.region | refine WL.pa ?_ | refine WL.ga rfl ?_ | refine WL.na rfl ?_ | refine WL.nu rfl rfl ?_ | apply WC.block | apply WC.skip | apply WC.exit | apply WC.ret | apply WX.e_block | refine WX.e_other rfl ?_ | apply WX.e_then | apply WX.e_again | apply WX.n_block | apply WX.r_then | apply WX.r_block | apply WX.r_again | refine WC.cond_yes rfl ?_ | refine WC.cond_no rfl ?_ | refine WC.cond rfl (fun hc => ?_) (fun hc => ?_) | refine WC.cond_b rfl (fun hc => ?_) (fun hc => ?_))
          exact WX.ret1 rfl rfl ⟨by rw [decide_eq_false h4, decide_eq_false (p := okP (o, f)) fun h => h4 h.2.2.2], rfl⟩
      · repeat' (first | apply WL.fold | apply WA.fold | apply WL.nil | apply WX.n_then | apply WC.seq | apply WC.region | refine WL.pa ?_ | refine WL.ga rfl ?_ | refine WL.na rfl ?_ | refine WL.nu rfl rfl ?_ | apply WC.block | apply WC.skip | apply WC.exit | apply WC.ret | apply WX.e_block | refine WX.e_other rfl ?_ | apply WX.e_then | apply WX.e_again | apply WX.n_block | apply WX.r_then | apply WX.r_block | apply WX.r_again | refine WC.cond_yes rfl ?_ | refine WC.cond_no rfl ?_ | refine WC.cond rfl (fun hc => ?_) (fun hc => ?_) | refine WC.cond_b rfl (fun hc => ?_) (fun hc => ?_))
        exact WX.ret1 rfl rfl ⟨by rw [decide_eq_false (p := okP (o, f)) fun h => h3 h.2.2.1], rfl⟩
    · repeat' (first | apply WL.fold | apply WA.fold | apply WL.nil | apply WX.n_then | apply WC.seq | apply WC.region | refine WL.pa ?_ | refine WL.ga rfl ?_ | refine WL.na rfl ?_ | refine WL.nu rfl rfl ?_ | apply WC.block | apply WC.skip | apply WC.exit | apply WC.ret | apply WX.e_block | refine WX.e_other rfl ?_ | apply WX.e_then | apply WX.e_again | apply WX.n_block | apply WX.r_then | apply WX.r_block | apply WX.r_again | refine WC.cond_yes rfl ?_ | refine WC.cond_no rfl ?_ | refine WC.cond rfl (fun hc => ?_) (fun hc => ?_) | refine WC.cond_b rfl (fun hc => ?_) (fun hc => ?_))
      exact WX.ret1 rfl rfl ⟨by rw [decide_eq_false (p := okP (o, f)) fun h => h2 h.2.1], rfl⟩
  · repeat' (first | apply WL.fold | apply WA.fold | apply WL.nil | apply WX.n_then | apply WC.seq | apply WC.region | refine WL.pa ?_ | refine WL.ga rfl ?_ | refine WL.na rfl ?_ | refine WL.nu rfl rfl ?_ | apply WC.block | apply WC.skip | apply WC.exit | apply WC.ret | apply WX.e_block | refine WX.e_other rfl ?_ | apply WX.e_then | apply WX.e_again | apply WX.n_block | apply WX.r_then | apply WX.r_block | apply WX.r_again | refine WC.cond_yes rfl ?_ | refine WC.cond_no rfl ?_ | refine WC.cond rfl (fun hc => ?_) (fun hc => ?_) | refine WC.cond_b rfl (fun hc => ?_) (fun hc => ?_))
    exact WX.ret1 rfl rfl ⟨by rw [decide_eq_false (p := okP (o, f)) fun h => h1 h.1], rfl⟩
theorem rnumbers_fn (l : List Nat) (v : Value) (hn : ∀ n ∈ l, n ≤ 1099511627776) (hl : l.length ≤ 100) (w : World) (hR : Rd w v (ints (intsN l))) :
    Fn Tryz.prog 71 #[v] w fun v w' => v = .string (putsB (ByteArray.mk #[]) l) ∧ Ext w w' := by
  obtain ⟨a0, c0, rfl, hc0⟩ : ∃ a0 c0, v = .slice a0 l.length c0 ∧ l.length ≤ c0 := by
    obtain ⟨a, c, h1, h2, -⟩ := hR
    rw [ints_len] at h1 h2
    have : (intsN l).length = l.length := by simp [intsN]
    rw [this] at h1 h2
    exact ⟨a, c, h1, h2⟩
  refine enterH (l := [_]) rfl Tryz.ntmps71 rfl ?_
  refine hwZB ?_
  refine HC.loop (α := Nat) (fun i => [(0, .slice a0 l.length c0), (3, .string (putsB (ByteArray.mk #[]) (l.take i))), (4, zv (i : Int))]) (fun _ => []) (fun i => i ≤ l.length) (fun i => l.length - i) 0 (Nat.zero_le _) esA (Hs.refl _) ?_
  intro i hi
  by_cases hlt : i < l.length
  · obtain ⟨b, off, rfl⟩ : ∃ b off, a0 = some ⟨b, off, none⟩ := by
      obtain ⟨a, c, h1, h2, h3⟩ := hR
      have : (intsN l).length = l.length := by simp [intsN]
      rw [ints_len, this] at h1
      cases h1
      rcases h3 with h3 | ⟨b, off, h4, -⟩
      · have : l = [] := by simpa [ints, intsN] using h3
        subst this; cases hlt
      · exact ⟨b, off, h4⟩
    have hget := hR.cell (intsN_get hlt)
    have htk : l.take (i + 1) = l.take i ++ [l.getD i 0] := by
      rw [List.take_add_one, List.getElem?_eq_getElem hlt]
      simp [hlt]
    have hmem : l.getD i 0 ∈ l := by simp [hlt]
    have hnn := hn _ hmem
    have hsn := putsB_snoc (l.take i) (ByteArray.mk #[]) (l.getD i 0)
    rw [← htk] at hsn
    have hsz := putsB_size (l.take i) (ByteArray.mk #[]) fun n h => hn n (List.mem_of_mem_take h)
    have h00 : (ByteArray.mk #[]).size = 0 := rfl
    rw [List.length_take] at hsz
    generalize l.getD i 0 = n at hget hnn hsn
    have hns := strN_size hnn
    refine hwZB ?_
    refine HL.one (H1.ld0 rfl hget rfl ?_)
    refine hwZB ?_
    refine HL.one (H1.callx (vs := [zv (n : Int)]) rfl rfl (fun w' _ => refPutInt_fn n hnn w') ?_)
    refine hwZB ?_
    rw [← hsn]
    refine hwZB ?_
    exact HX.again (i + 1) hlt (by show l.length - (i + 1) < l.length - i; omega) esA (Hs.refl _)
  · obtain rfl : i = l.length := by omega
    rw [List.take_length]
    refine hwZB ?_
    exact HX.ret1 rfl rfl fun w' hM => ⟨rfl, hM.ext⟩
set_option maxHeartbeats 4000000 in
theorem rput_fn (p : PK) (s : ByteArray) (v : Value) (l : PM) (hl : l.length ≤ 100000) (w : World) (hR : RdC w v l) :
    Fn Tryz.prog 68 #[v, .agg #[zv p.1, zv p.2, .string s]] w fun u w' => ∃ z : Option Addr × Nat, True ∧ u = .slice z.1 (putPL l p s).length z.2 ∧ Mm w [A.grow 134 3 z.1 z.2 (putPL l p s).length (piecs (putPL l p s))] w' := by
  obtain ⟨a0, c0, rfl, hc0, hR⟩ := hR
  refine enterH (l := [_, _]) rfl Tryz.ntmps68 rfl ?_
  refine hwZB ?_
  refine HL.one (H1.boxAgg (cs := [zv p.1, zv p.2, .string s]) rfl rfl (fun b3 => ?_))
  refine hbZB ?_
  refine HC.grow0 134 3 ?_
  repeat refine HC.seq ?_
  refine HC.cut (α := Option Addr × Nat) (fun z => [(3, .pointer (some ⟨b3, 0, none⟩)), (5, .slice z.1 (putF p s l).1.length z.2), (6, .bool (putF p s l).2)]) (fun z => A.grow 134 3 z.1 z.2 (putF p s l).1.length (piecs (putF p s l).1) :: A.blk b3 [zv p.1, zv p.2, .string s] 134 :: []) (fun _ => True) ?_ ?_
  · refine HC.block ?_
    refine HC.loop (α := Nat × Option Addr × Nat) (fun z => [(0, .slice a0 l.length c0), (3, .pointer (some ⟨b3, 0, none⟩)), (5, .slice z.2.1 (putF p s (l.take z.1)).1.length z.2.2), (6, .bool (putF p s (l.take z.1)).2), (7, zv (z.1 : Int))])
      (fun z => A.grow 134 3 z.2.1 z.2.2 (putF p s (l.take z.1)).1.length (piecs (putF p s (l.take z.1)).1) :: A.blk b3 [zv p.1, zv p.2, .string s] 134 :: []) (fun z => z.1 ≤ l.length) (fun z => l.length - z.1) (0, none, 0) (Nat.zero_le _) esA (Hs.refl _) ?_
    rintro ⟨i, a1, c1⟩ hi
    dsimp only at hi ⊢
    by_cases hlt : i < l.length
    rotate_left
    · obtain rfl : i = l.length := by omega
      rw [List.take_length]
      refine hwZB ?_
      exact HX.cut (a1, c1) trivial esA (Hs.refl _)
    obtain ⟨b, off, rfl, hcl⟩ : ∃ b off, a0 = some ⟨b, off, none⟩ ∧ ∀ i u, (piecs l)[i]? = some u → w.cell? ⟨b, off + i, none⟩ = some u := by
      rcases hR with h | h
      · rw [h] at hlt; cases hlt
      · exact h
    obtain ⟨x, hx⟩ : ∃ x, l[i]? = some x := ⟨_, List.getElem?_eq_getElem hlt⟩
    have hg := fun j v h => hcl _ _ (piecs_get hx j v h)
    have hg0 : w.cell? ⟨b, off + i * 3, none⟩ = some (zv x.1.1) := hg 0 _ rfl
    have hg1 : w.cell? ⟨b, off + i * 3 + 1, none⟩ = some (zv x.1.2) := hg 1 _ rfl
    have hsn := putF_snoc p s (l.take i) x
    rw [← take_pm hx] at hsn
    have hlen := putF_len p s (l.take i) ([], false)
    rw [List.length_take] at hlen
    have hst0 : (l.take i).foldl (putStep p s) ([], false) = putF p s (l.take i) := rfl
    rw [hst0] at hlen
    have hlen2 : (putF p s (l.take i)).1.length ≤ 2 * l.length := by
      have h0 : (([], false) : PM × Bool).1.length = 0 := rfl
      omega
    clear hlen hst0
    generalize putF p s (l.take i) = st at hsn hlen2
    obtain ⟨out, done⟩ := st
    dsimp only at hlen2 ⊢
    refine hwZB ?_
    refine HC.cut (α := Unit) (fun _ => [(0, .slice (some ⟨b, off, none⟩) l.length c0), (3, .pointer (some ⟨b3, 0, none⟩)), (5, .slice a1 out.length c1), (6, .bool done), (7, zv (i : Int)), (8, .bool (decide (x.1 = p)))]) (fun _ => A.grow 134 3 a1 c1 out.length (piecs out) :: A.blk b3 [zv p.1, zv p.2, .string s] 134 :: []) (fun _ => True) ?_ ?_
    · by_cases hO : x.1.1 = p.1
      · have he : decide (x.1 = p) = decide (x.1.2 = p.2) := decide_eq_decide.2 ⟨fun h => by rw [h], fun h => Prod.ext hO h⟩
        rw [he]
        refine HC.anyC ([(⟨b, off + i * 3, none⟩, zv x.1.1), (⟨b, off + i * 3 + 1, none⟩, zv x.1.2), (⟨b3, 0, none⟩, zv p.1), (⟨b3, 1, none⟩, zv p.2)]) rfl ?_
        refine HB.pa 0 rfl ?_
        refine HB.pa 1 rfl ?_
        refine HB.pa 2 rfl ?_
        refine HB.pa 3 rfl ?_
        refine HB.ld 4 rfl rfl memD ?_
        refine HB.pa 5 rfl ?_
        refine HB.ld 6 rfl rfl memD ?_
        refine HB.pa 7 rfl ?_
        refine HB.pa 8 rfl ?_
        first | refine HB.ga 9 rfl rfl ?_ | refine HB.na 9 rfl rfl ?_ | refine HB.nu 9 rfl rfl ?_
        first | refine HB.ga 10 rfl rfl ?_ | refine HB.na 10 rfl rfl ?_ | refine HB.nu 10 rfl rfl ?_
        first | refine HB.ga 11 rfl rfl ?_ | refine HB.na 11 rfl rfl ?_ | refine HB.nu 11 rfl rfl ?_
        first | refine HB.ga 12 rfl rfl ?_ | refine HB.na 12 rfl rfl ?_ | refine HB.nu 12 rfl rfl ?_
        refine HB.ldg 13 rfl rfl rfl memD ?_
        first | refine HB.ga 14 rfl rfl ?_ | refine HB.na 14 rfl rfl ?_ | refine HB.nu 14 rfl rfl ?_
        refine HB.ldg 15 rfl rfl rfl memD ?_
        first | refine HB.ga 16 rfl rfl ?_ | refine HB.na 16 rfl rfl ?_ | refine HB.nu 16 rfl rfl ?_
        refine HB.pa 17 rfl ?_
        refine HB.pa 18 rfl ?_
        refine HB.done (by (exact Keep.base hg0 (Keep.base hg1 (Keep.blk (b := b3) memD rfl (Keep.blk (b := b3) memD rfl Keep.nil))))) (by kernel_rfl) ?_
        exact HX.cut () trivial esA (Hs.refl _)
      · have he : decide (x.1 = p) = decide (x.1.1 = p.1) := decide_eq_decide.2 ⟨fun h => by rw [h], fun h => absurd h hO⟩
        rw [he]
        refine HC.anyC ([(⟨b, off + i * 3, none⟩, zv x.1.1), (⟨b3, 0, none⟩, zv p.1)]) rfl ?_
        refine HB.pa 0 rfl ?_
        refine HB.pa 1 rfl ?_
        refine HB.pa 2 rfl ?_
        refine HB.pa 3 rfl ?_
        refine HB.ld 4 rfl rfl memD ?_
        refine HB.pa 5 rfl ?_
        refine HB.ld 6 rfl rfl memD ?_
        refine HB.pa 7 rfl ?_
        refine HB.pa 8 rfl ?_
        first | refine HB.ga 9 rfl rfl ?_ | refine HB.na 9 rfl rfl ?_ | refine HB.nu 9 rfl rfl ?_
        first | refine HB.ga 10 rfl rfl ?_ | refine HB.na 10 rfl rfl ?_ | refine HB.nu 10 rfl rfl ?_
        first | refine HB.ga 11 rfl rfl ?_ | refine HB.na 11 rfl rfl ?_ | refine HB.nu 11 rfl rfl ?_
        first | refine HB.ga 12 rfl rfl ?_ | refine HB.na 12 rfl rfl ?_ | refine HB.nu 12 rfl rfl ?_
        first | refine HB.ga 13 rfl rfl ?_ | refine HB.na 13 rfl rfl ?_ | refine HB.nu 13 rfl rfl ?_
        first | refine HB.ga 14 rfl rfl ?_ | refine HB.na 14 rfl rfl ?_ | refine HB.nu 14 rfl rfl ?_
        first | refine HB.ga 15 rfl rfl ?_ | refine HB.na 15 rfl rfl ?_ | refine HB.nu 15 rfl rfl ?_
        first | refine HB.ga 16 rfl rfl ?_ | refine HB.na 16 rfl rfl ?_ | refine HB.nu 16 rfl rfl ?_
        refine HB.pa 17 rfl ?_
        refine HB.pa 18 rfl ?_
        refine HB.done (by (exact Keep.base hg0 (Keep.blk (b := b3) memD rfl Keep.nil))) (by kernel_rfl) ?_
        exact HX.cut () trivial ⟨rfl, rfl, rfl, rfl, rfl, by rw [decide_eq_false hO]; rfl, trivial⟩ (Hs.refl _)
    rintro - -
    refine HC.seq ?_
    refine HC.cut (α := Unit) (fun _ => [(0, .slice (some ⟨b, off, none⟩) l.length c0), (3, .pointer (some ⟨b3, 0, none⟩)), (5, .slice a1 out.length c1), (6, .bool done), (7, zv (i : Int)), (8, .bool (decide (x.1 = p))), (9, .bool (decide (leP x.1 p)))]) (fun _ => A.grow 134 3 a1 c1 out.length (piecs out) :: A.blk b3 [zv p.1, zv p.2, .string s] 134 :: []) (fun _ => True) ?_ ?_
    · by_cases hL : x.1.1 < p.1
      · have he : decide (leP x.1 p) = true := decide_eq_true (.inl hL)
        rw [he]
        refine HC.anyC ([(⟨b, off + i * 3, none⟩, zv x.1.1), (⟨b3, 0, none⟩, zv p.1)]) rfl ?_
        refine HB.pa 0 rfl ?_
        refine HB.pa 1 rfl ?_
        refine HB.pa 2 rfl ?_
        refine HB.pa 3 rfl ?_
        refine HB.ld 4 rfl rfl memD ?_
        refine HB.pa 5 rfl ?_
        refine HB.ld 6 rfl rfl memD ?_
        refine HB.pa 7 rfl ?_
        refine HB.pa 8 rfl ?_
        first | refine HB.ga 9 rfl rfl ?_ | refine HB.na 9 rfl rfl ?_ | refine HB.nu 9 rfl rfl ?_
        first | refine HB.ga 10 rfl rfl ?_ | refine HB.na 10 rfl rfl ?_ | refine HB.nu 10 rfl rfl ?_
        first | refine HB.ga 11 rfl rfl ?_ | refine HB.na 11 rfl rfl ?_ | refine HB.nu 11 rfl rfl ?_
        first | refine HB.ga 12 rfl rfl ?_ | refine HB.na 12 rfl rfl ?_ | refine HB.nu 12 rfl rfl ?_
        first | refine HB.ga 13 rfl rfl ?_ | refine HB.na 13 rfl rfl ?_ | refine HB.nu 13 rfl rfl ?_
        first | refine HB.ga 14 rfl rfl ?_ | refine HB.na 14 rfl rfl ?_ | refine HB.nu 14 rfl rfl ?_
        first | refine HB.ga 15 rfl rfl ?_ | refine HB.na 15 rfl rfl ?_ | refine HB.nu 15 rfl rfl ?_
        first | refine HB.ga 16 rfl rfl ?_ | refine HB.na 16 rfl rfl ?_ | refine HB.nu 16 rfl rfl ?_
        first | refine HB.ga 17 rfl rfl ?_ | refine HB.na 17 rfl rfl ?_ | refine HB.nu 17 rfl rfl ?_
        first | refine HB.ga 18 rfl rfl ?_ | refine HB.na 18 rfl rfl ?_ | refine HB.nu 18 rfl rfl ?_
        first | refine HB.ga 19 rfl rfl ?_ | refine HB.na 19 rfl rfl ?_ | refine HB.nu 19 rfl rfl ?_
        first | refine HB.ga 20 rfl rfl ?_ | refine HB.na 20 rfl rfl ?_ | refine HB.nu 20 rfl rfl ?_
        first | refine HB.ga 21 rfl rfl ?_ | refine HB.na 21 rfl rfl ?_ | refine HB.nu 21 rfl rfl ?_
        first | refine HB.ga 22 rfl rfl ?_ | refine HB.na 22 rfl rfl ?_ | refine HB.nu 22 rfl rfl ?_
        first | refine HB.ga 23 rfl rfl ?_ | refine HB.na 23 rfl rfl ?_ | refine HB.nu 23 rfl rfl ?_
        first | refine HB.ga 24 rfl rfl ?_ | refine HB.na 24 rfl rfl ?_ | refine HB.nu 24 rfl rfl ?_
        first | refine HB.ga 25 rfl rfl ?_ | refine HB.na 25 rfl rfl ?_ | refine HB.nu 25 rfl rfl ?_
        first | refine HB.ga 26 rfl rfl ?_ | refine HB.na 26 rfl rfl ?_ | refine HB.nu 26 rfl rfl ?_
        refine HB.pa 27 rfl ?_
        refine HB.pa 28 rfl ?_
        refine HB.done (by (exact Keep.base hg0 (Keep.blk (b := b3) memD rfl Keep.nil))) (by kernel_rfl) ?_
        exact HX.cut () trivial esA (Hs.refl _)
      · by_cases hO : x.1.1 = p.1
        · have he : decide (leP x.1 p) = decide (x.1.2 < p.2) := decide_eq_decide.2 ⟨fun h => by unfold leP at h; omega, fun h => .inr ⟨hO, h⟩⟩
          rw [he]
          refine HC.anyC ([(⟨b, off + i * 3, none⟩, zv x.1.1), (⟨b, off + i * 3 + 1, none⟩, zv x.1.2), (⟨b3, 0, none⟩, zv p.1), (⟨b3, 1, none⟩, zv p.2)]) rfl ?_
          refine HB.pa 0 rfl ?_
          refine HB.pa 1 rfl ?_
          refine HB.pa 2 rfl ?_
          refine HB.pa 3 rfl ?_
          refine HB.ld 4 rfl rfl memD ?_
          refine HB.pa 5 rfl ?_
          refine HB.ld 6 rfl rfl memD ?_
          refine HB.pa 7 rfl ?_
          refine HB.pa 8 rfl ?_
          first | refine HB.ga 9 rfl rfl ?_ | refine HB.na 9 rfl rfl ?_ | refine HB.nu 9 rfl rfl ?_
          first | refine HB.ga 10 rfl rfl ?_ | refine HB.na 10 rfl rfl ?_ | refine HB.nu 10 rfl rfl ?_
          first | refine HB.ga 11 rfl rfl ?_ | refine HB.na 11 rfl rfl ?_ | refine HB.nu 11 rfl rfl ?_
          first | refine HB.ga 12 rfl rfl ?_ | refine HB.na 12 rfl rfl ?_ | refine HB.nu 12 rfl rfl ?_
          refine HB.ldg 13 rfl rfl rfl memD ?_
          first | refine HB.ga 14 rfl rfl ?_ | refine HB.na 14 rfl rfl ?_ | refine HB.nu 14 rfl rfl ?_
          refine HB.ldg 15 rfl rfl rfl memD ?_
          first | refine HB.ga 16 rfl rfl ?_ | refine HB.na 16 rfl rfl ?_ | refine HB.nu 16 rfl rfl ?_
          first | refine HB.ga 17 rfl rfl ?_ | refine HB.na 17 rfl rfl ?_ | refine HB.nu 17 rfl rfl ?_
          first | refine HB.ga 18 rfl rfl ?_ | refine HB.na 18 rfl rfl ?_ | refine HB.nu 18 rfl rfl ?_
          first | refine HB.ga 19 rfl rfl ?_ | refine HB.na 19 rfl rfl ?_ | refine HB.nu 19 rfl rfl ?_
          first | refine HB.ga 20 rfl rfl ?_ | refine HB.na 20 rfl rfl ?_ | refine HB.nu 20 rfl rfl ?_
          first | refine HB.ga 21 rfl rfl ?_ | refine HB.na 21 rfl rfl ?_ | refine HB.nu 21 rfl rfl ?_
          refine HB.ldg 22 rfl rfl rfl memD ?_
          first | refine HB.ga 23 rfl rfl ?_ | refine HB.na 23 rfl rfl ?_ | refine HB.nu 23 rfl rfl ?_
          refine HB.ldg 24 rfl rfl rfl memD ?_
          first | refine HB.ga 25 rfl rfl ?_ | refine HB.na 25 rfl rfl ?_ | refine HB.nu 25 rfl rfl ?_
          first | refine HB.ga 26 rfl rfl ?_ | refine HB.na 26 rfl rfl ?_ | refine HB.nu 26 rfl rfl ?_
          refine HB.pa 27 rfl ?_
          refine HB.pa 28 rfl ?_
          refine HB.done (by (exact Keep.base hg0 (Keep.base hg1 (Keep.blk (b := b3) memD rfl (Keep.blk (b := b3) memD rfl Keep.nil))))) (by kernel_rfl) ?_
          exact HX.cut () trivial esA (Hs.refl _)
        · have he : decide (leP x.1 p) = false := decide_eq_false (by unfold leP; omega)
          rw [he]
          refine HC.anyC ([(⟨b, off + i * 3, none⟩, zv x.1.1), (⟨b3, 0, none⟩, zv p.1)]) rfl ?_
          refine HB.pa 0 rfl ?_
          refine HB.pa 1 rfl ?_
          refine HB.pa 2 rfl ?_
          refine HB.pa 3 rfl ?_
          refine HB.ld 4 rfl rfl memD ?_
          refine HB.pa 5 rfl ?_
          refine HB.ld 6 rfl rfl memD ?_
          refine HB.pa 7 rfl ?_
          refine HB.pa 8 rfl ?_
          first | refine HB.ga 9 rfl rfl ?_ | refine HB.na 9 rfl rfl ?_ | refine HB.nu 9 rfl rfl ?_
          first | refine HB.ga 10 rfl rfl ?_ | refine HB.na 10 rfl rfl ?_ | refine HB.nu 10 rfl rfl ?_
          first | refine HB.ga 11 rfl rfl ?_ | refine HB.na 11 rfl rfl ?_ | refine HB.nu 11 rfl rfl ?_
          first | refine HB.ga 12 rfl rfl ?_ | refine HB.na 12 rfl rfl ?_ | refine HB.nu 12 rfl rfl ?_
          refine HB.ldg 13 rfl rfl rfl memD ?_
          first | refine HB.ga 14 rfl rfl ?_ | refine HB.na 14 rfl rfl ?_ | refine HB.nu 14 rfl rfl ?_
          refine HB.ldg 15 rfl rfl rfl memD ?_
          first | refine HB.ga 16 rfl rfl ?_ | refine HB.na 16 rfl rfl ?_ | refine HB.nu 16 rfl rfl ?_
          first | refine HB.ga 17 rfl rfl ?_ | refine HB.na 17 rfl rfl ?_ | refine HB.nu 17 rfl rfl ?_
          first | refine HB.ga 18 rfl rfl ?_ | refine HB.na 18 rfl rfl ?_ | refine HB.nu 18 rfl rfl ?_
          first | refine HB.ga 19 rfl rfl ?_ | refine HB.na 19 rfl rfl ?_ | refine HB.nu 19 rfl rfl ?_
          first | refine HB.ga 20 rfl rfl ?_ | refine HB.na 20 rfl rfl ?_ | refine HB.nu 20 rfl rfl ?_
          first | refine HB.ga 21 rfl rfl ?_ | refine HB.na 21 rfl rfl ?_ | refine HB.nu 21 rfl rfl ?_
          first | refine HB.ga 22 rfl rfl ?_ | refine HB.na 22 rfl rfl ?_ | refine HB.nu 22 rfl rfl ?_
          first | refine HB.ga 23 rfl rfl ?_ | refine HB.na 23 rfl rfl ?_ | refine HB.nu 23 rfl rfl ?_
          first | refine HB.ga 24 rfl rfl ?_ | refine HB.na 24 rfl rfl ?_ | refine HB.nu 24 rfl rfl ?_
          first | refine HB.ga 25 rfl rfl ?_ | refine HB.na 25 rfl rfl ?_ | refine HB.nu 25 rfl rfl ?_
          first | refine HB.ga 26 rfl rfl ?_ | refine HB.na 26 rfl rfl ?_ | refine HB.nu 26 rfl rfl ?_
          refine HB.pa 27 rfl ?_
          refine HB.pa 28 rfl ?_
          refine HB.done (by (exact Keep.base hg0 (Keep.blk (b := b3) memD rfl Keep.nil))) (by kernel_rfl) ?_
          exact HX.cut () trivial ⟨rfl, rfl, rfl, rfl, rfl, rfl, by rw [decide_eq_false hO]; rfl, trivial⟩ (Hs.refl _)
    rintro - -
    obtain ⟨st1, hst1⟩ : ∃ st1 : PM × Bool, st1 = if ¬ leP x.1 p ∧ done = false then (out ++ [(p, s)], true) else (out, done) := ⟨_, rfl⟩
    have hps : putStep p s (out, done) x = if x.1 = p then st1 else (st1.1 ++ [x], st1.2) := by rw [hst1]; rfl
    have hst1l : st1.1.length ≤ out.length + 1 := by
      rw [hst1]
      split
      · show (out ++ [(p, s)]).length ≤ _
        rw [List.length_append]; exact Nat.le_refl _
      · exact Nat.le_succ _
    refine HC.seq ?_
    refine HC.cut (α := Option Addr × Nat) (fun z => [(0, .slice (some ⟨b, off, none⟩) l.length c0), (3, .pointer (some ⟨b3, 0, none⟩)), (5, .slice z.1 st1.1.length z.2), (6, .bool st1.2), (7, zv (i : Int)), (8, .bool (decide (x.1 = p)))]) (fun z => A.grow 134 3 z.1 z.2 st1.1.length (piecs st1.1) :: A.blk b3 [zv p.1, zv p.2, .string s] 134 :: []) (fun _ => True) ?_ ?_
    · by_cases hA : leP x.1 p
      · have e1 : st1 = (out, done) := by rw [hst1, if_neg (fun h => h.1 hA)]
        rw [e1, decide_eq_true hA]
        refine hwZB ?_
        exact HX.cut (a1, c1) trivial esA (Hs.refl _)
      · rw [decide_eq_false hA]
        cases done with
        | true =>
          have e1 : st1 = (out, true) := by rw [hst1, if_neg (fun h => by cases h.2)]
          rw [e1]
          refine hwZB ?_
          exact HX.cut (a1, c1) trivial esA (Hs.refl _)
        | false =>
          have e1 : st1 = (out ++ [(p, s)], true) := by rw [hst1, if_pos ⟨hA, rfl⟩]
          have e2 := piecs_snoc out (p, s)
          rw [e1]
          refine hwZB ?_
          refine HL.one (H1.ldAgg (vs := [zv p.1, zv p.2, .string s]) rfl memA rfl (fun i v hv => by rw [Nat.zero_add]; exact hv) rfl ?_)
          refine hwZB ?_
          refine HL.one (H1.lit (cs := [zv p.1, zv p.2, .string s]) rfl rfl rfl rfl rfl rfl (fun b9 => ?_))
          refine hwZB ?_
          refine HL.one (H1.app (sz := 3) (news := [zv p.1, zv p.2, .string s]) rfl (by decide) rfl rfl (fun _ _ => by first | ((repeat (first | with_reducible exact Rpl.here | with_reducible apply Rpl.there)); done) | (repeat (first | exact Rpl.here | apply Rpl.there))) rfl (fun w' hM j u hj => ?_) (pieC_one (p, s)) (by omega) (by decide) rfl (fun a' c' hac => ?_))
          · rw [add_lit, Nat.zero_add]; exact (hM.blk (b := b9) memA).cell hj
          rw [show piecs out ++ [zv p.1, zv p.2, .string s] = piecs (out ++ [(p, s)]) from e2]
          refine hwZB ?_
          exact HX.cut (a', c') trivial ⟨rfl, rfl, by rw [List.length_append]; rfl, rfl, rfl, rfl, trivial⟩ (by rw [List.length_append]; exact (Hs.refl _).skip)
    rintro ⟨a2, c2⟩ -
    dsimp only
    by_cases hS : x.1 = p
    · have e3 : putStep p s (out, done) x = st1 := by rw [hps, if_pos hS]
      rw [decide_eq_true hS]
      refine hwZB ?_
      exact HX.again (i + 1, a2, c2) hlt (by show l.length - (i + 1) < l.length - i; omega) (by dsimp only; rw [hsn, e3]; repeat (first | exact trivial | refine ⟨rfl, ?_⟩)) (by dsimp only; rw [hsn, e3]; exact Hs.refl _)
    · have e3 : putStep p s (out, done) x = (st1.1 ++ [x], st1.2) := by rw [hps, if_neg hS]
      have e2 := piecs_snoc st1.1 x
      rw [decide_eq_false hS]
      refine hwZB ?_
      refine HL.one (H1.ldAggw (b := b) (off := off + i * 3) (vs := [zv x.1.1, zv x.1.2, .string x.2]) rfl rfl (fun w' hM j u hu => cell_ext hM.ext (by rw [Nat.add_assoc]; exact hg j u hu)) rfl ?_)
      refine hwZB ?_
      refine HL.one (H1.lit (cs := [zv x.1.1, zv x.1.2, .string x.2]) rfl rfl rfl rfl rfl rfl (fun b9 => ?_))
      refine hwZB ?_
      refine HL.one (H1.app (sz := 3) (news := [zv x.1.1, zv x.1.2, .string x.2]) rfl (by decide) rfl rfl (fun _ _ => by first | ((repeat (first | with_reducible exact Rpl.here | with_reducible apply Rpl.there)); done) | (repeat (first | exact Rpl.here | apply Rpl.there))) rfl (fun w' hM j u hj => ?_) (pieC_one x) (by omega) (by decide) rfl (fun a' c' hac => ?_))
      · rw [add_lit, Nat.zero_add]; exact (hM.blk (b := b9) memA).cell hj
      rw [show piecs st1.1 ++ [zv x.1.1, zv x.1.2, .string x.2] = piecs (st1.1 ++ [x]) from e2]
      refine hwZB ?_
      exact HX.again (i + 1, a', c') hlt (by show l.length - (i + 1) < l.length - i; omega) (by dsimp only; rw [hsn, e3]; exact ⟨rfl, rfl, by rw [List.length_append]; rfl, rfl, rfl, trivial⟩) (by dsimp only; rw [hsn, e3, List.length_append]; exact (Hs.refl _).skip)
  rintro ⟨a1, c1⟩ -
  dsimp only
  obtain ⟨st, hst⟩ : ∃ st, st = putF p s l := ⟨_, rfl⟩
  have hP : putPL l p s = if st.2 then st.1 else st.1 ++ [(p, s)] := by rw [hst]; rfl
  have hlen := putF_len p s l ([], false)
  have hst0 : l.foldl (putStep p s) ([], false) = putF p s l := rfl
  rw [hst0, ← hst] at hlen
  simp only [List.length_nil, Nat.zero_add] at hlen
  rw [← hst]
  obtain ⟨out, done⟩ := st
  dsimp only at hP hlen ⊢
  cases done with
  | true =>
    have e1 : putPL l p s = out := hP
    rw [e1]
    refine hwZB ?_
    exact HX.ret1 rfl rfl fun w' hM => ⟨(a1, c1), trivial, rfl, hM.sub (Hs.cons Pick.here (Hs.refl _).skip)⟩
  | false =>
    have e1 : putPL l p s = out ++ [(p, s)] := hP
    have e2 := piecs_snoc out (p, s)
    rw [e1]
    refine hwZB ?_
    refine HL.one (H1.ldAgg (vs := [zv p.1, zv p.2, .string s]) rfl memA rfl (fun i v hv => by rw [Nat.zero_add]; exact hv) rfl ?_)
    refine hwZB ?_
    refine HL.one (H1.lit (cs := [zv p.1, zv p.2, .string s]) rfl rfl rfl rfl rfl rfl (fun b9 => ?_))
    refine hwZB ?_
    refine HL.one (H1.app (sz := 3) (news := [zv p.1, zv p.2, .string s]) rfl (by decide) rfl rfl (fun _ _ => by first | ((repeat (first | with_reducible exact Rpl.here | with_reducible apply Rpl.there)); done) | (repeat (first | exact Rpl.here | apply Rpl.there))) rfl (fun w' hM j u hj => ?_) (pieC_one (p, s)) (by omega) (by decide) rfl (fun a' c' hac => ?_))
    · rw [add_lit, Nat.zero_add]; exact (hM.blk (b := b9) memA).cell hj
    rw [show piecs out ++ [zv p.1, zv p.2, .string s] = piecs (out ++ [(p, s)]) from e2]
    refine hwZB ?_
    exact HX.ret1 rfl rfl fun w' hM => ⟨(a', c'), trivial, by rw [List.length_append]; rfl, by rw [List.length_append]; exact hM.sub (Hs.cons (Pick.there Pick.here) (Hs.refl _).skip.skip)⟩
theorem rdrop27_fn (o : Int) (v : Value) (l : PM) (hl : l.length ≤ 100000) (w : World) (hR : RdC w v l) :
    Fn Tryz.prog 69 #[v, zv o] w fun u w' => ∃ z : Option Addr × Nat, True ∧ u = .tuple #[.slice z.1 (dropM l o).length z.2, zv ((l.length : Int) - ((dropM l o).length : Int))] ∧ Mm w [A.grow 134 3 z.1 z.2 (dropM l o).length (piecs (dropM l o))] w' := by
  obtain ⟨a0, c0, rfl, hc0, hR⟩ := hR
  have hdl := dropM_len l o
  refine enterH (l := [_, _]) rfl Tryz.ntmps69 rfl ?_
  refine hbZB ?_
  refine HC.grow0 134 3 ?_
  repeat refine HC.seq ?_
  refine HC.cut (α := Option Addr × Nat) (fun z => [(0, .slice a0 l.length c0), (6, .slice z.1 (dropM l o).length z.2)]) (fun z => A.grow 134 3 z.1 z.2 (dropM l o).length (piecs (dropM l o)) :: []) (fun _ => True) ?_ ?_
  · refine HC.block ?_
    refine HC.loop (α := Nat × Option Addr × Nat) (fun z => [(0, .slice a0 l.length c0), (1, zv o), (6, .slice z.2.1 (dropM (l.take z.1) o).length z.2.2), (7, zv (z.1 : Int))])
      (fun z => A.grow 134 3 z.2.1 z.2.2 (dropM (l.take z.1) o).length (piecs (dropM (l.take z.1) o)) :: []) (fun z => z.1 ≤ l.length) (fun z => l.length - z.1) (0, none, 0) (Nat.zero_le _) esA (Hs.refl _) ?_
    rintro ⟨i, a1, c1⟩ hi
    dsimp only at hi ⊢
    by_cases hlt : i < l.length
    rotate_left
    · obtain rfl : i = l.length := by omega
      rw [List.take_length]
      refine hwZB ?_
      exact HX.cut (a1, c1) trivial esA (Hs.refl _)
    obtain ⟨b, off, rfl, hcl⟩ : ∃ b off, a0 = some ⟨b, off, none⟩ ∧ ∀ i u, (piecs l)[i]? = some u → w.cell? ⟨b, off + i, none⟩ = some u := by
      rcases hR with h | h
      · rw [h] at hlt; cases hlt
      · exact h
    obtain ⟨x, hx⟩ : ∃ x, l[i]? = some x := ⟨_, List.getElem?_eq_getElem hlt⟩
    have hg := fun j v h => hcl _ _ (piecs_get hx j v h)
    have hg0 : w.cell? ⟨b, off + i * 3, none⟩ = some (zv x.1.1) := hg 0 _ rfl
    have hsn := dropM_snoc (l.take i) x o
    rw [← take_pm hx] at hsn
    have hdl2 := dropM_len (l.take i) o
    rw [List.length_take] at hdl2
    refine hwZB ?_
    refine HL.one (H1.ld0 rfl hg0 rfl ?_)
    by_cases hO : x.1.1 = o
    · rw [if_pos hO] at hsn
      have hO2 : ¬ ¬ x.1.1 = o := fun h => h hO
      refine hwZB ?_
      exact HX.again (i + 1, a1, c1) hlt (by show l.length - (i + 1) < l.length - i; omega) (by dsimp only; rw [hsn]; repeat (first | exact trivial | refine ⟨rfl, ?_⟩)) (by dsimp only; rw [hsn]; exact Hs.refl _)
    · rw [if_neg hO] at hsn
      have e2 := piecs_snoc (dropM (l.take i) o) x
      refine hwZB ?_
      refine HL.one (H1.ldAggw (b := b) (off := off + i * 3) (vs := [zv x.1.1, zv x.1.2, .string x.2]) rfl rfl (fun w' hM j u hu => cell_ext hM.ext (by rw [Nat.add_assoc]; exact hg j u hu)) rfl ?_)
      refine hwZB ?_
      refine HL.one (H1.lit (cs := [zv x.1.1, zv x.1.2, .string x.2]) rfl rfl rfl rfl rfl rfl (fun b9 => ?_))
      refine hwZB ?_
      refine HL.one (H1.app (sz := 3) (news := [zv x.1.1, zv x.1.2, .string x.2]) rfl (by decide) rfl rfl (fun _ _ => by first | ((repeat (first | with_reducible exact Rpl.here | with_reducible apply Rpl.there)); done) | (repeat (first | exact Rpl.here | apply Rpl.there))) rfl (fun w' hM j u hj => ?_) (pieC_one x) (by omega) (by decide) rfl (fun a' c' hac => ?_))
      · rw [add_lit, Nat.zero_add]; exact (hM.blk (b := b9) memA).cell hj
      rw [show piecs (dropM (l.take i) o) ++ [zv x.1.1, zv x.1.2, .string x.2] = piecs (dropM (l.take i) o ++ [x]) from e2]
      refine hwZB ?_
      exact HX.again (i + 1, a', c') hlt (by show l.length - (i + 1) < l.length - i; omega) (by dsimp only; rw [hsn]; exact ⟨rfl, rfl, by rw [List.length_append]; rfl, rfl, trivial⟩) (by dsimp only; rw [hsn, List.length_append]; exact (Hs.refl _).skip)
  rintro ⟨a1, c1⟩ -
  dsimp only
  refine hwZB ?_
  exact HX.ret2 rfl rfl rfl fun w' hM => ⟨(a1, c1), trivial, rfl, hM⟩
end Go.Sx
/- Chapter 27: the reference's custodian: its calls: the walks. -/
namespace Go.Sx
open Go Go.Proofs Go.RowKit
theorem hwZC {G G2 : Prop} (x : G2) (hwq : Hold G2 → G := by
    intro hQq
    repeat' (first | refine HL.pa ?_ (POp.nilCheck rfl) | apply HL.fold | apply HA.fold | apply HL.nil | apply HX.n_then | apply HC.seq | apply HC.region | refine HL.pa ?_ | refine HL.ga rfl ?_ | refine HL.na rfl ?_ | refine HL.nu rfl rfl ?_ | apply HC.block | apply HC.skip | apply HC.exit | apply HC.ret | apply HX.e_block | refine HX.e_other rfl ?_ | apply HX.e_then | apply HX.e_again | apply HX.n_block | apply HX.r_then | apply HX.r_block | apply HX.r_again | refine HC.cond_yes rfl ?_ | refine HC.cond_no rfl ?_ | refine HL.one (H1.ldb rfl memA rfl rfl ?_) | refine HC.cond rfl (fun hc => ?_) (fun hc => ?_) | refine HC.cond_b rfl (fun hc => ?_) (fun hc => ?_))
    exact hQq.get) : G := hwq ⟨x⟩
theorem hbZC {G G2 : Prop} (x : G2) (hwq : Hold G2 → G := by
    intro hQq
    repeat' (first | refine HL.pa ?_ (POp.nilCheck rfl) | apply HL.fold | apply HA.fold | apply HL.nil | apply HX.n_then | apply HC.seq | apply HC.region | refine HL.pa ?_ | refine HL.ga rfl ?_ | refine HL.na rfl ?_ | refine HL.nu rfl rfl ?_ | apply HC.skip | apply HC.exit | apply HC.ret | apply HX.e_block | refine HX.e_other rfl ?_ | apply HX.e_then | apply HX.e_again | apply HX.n_block | apply HX.r_then | apply HX.r_block | apply HX.r_again | refine HC.cond_yes rfl ?_ | refine HC.cond_no rfl ?_ | refine HL.one (H1.ldb rfl memA rfl rfl ?_) | refine HC.cond rfl (fun hc => ?_) (fun hc => ?_) | refine HC.cond_b rfl (fun hc => ?_) (fun hc => ?_))
    exact hQq.get) : G := hwq ⟨x⟩
def rcC (bk : Nat) (la : Option Addr) (lc : Nat) (l : PM) : List Value := [.pointer (some ⟨bk, 0, none⟩), .slice la l.length lc]
/-- The reference's custodian without its journal; with it. -/
abbrev rcS (by_ bk : Nat) (la : Option Addr) (lc : Nat) (l : PM) (H : List Atom) : List Atom := A.blk by_ (rcC bk la lc l) 125 :: A.grow 134 3 la lc l.length (piecs l) :: H
theorem getM_first {l : PM} {i : Nat} {x : PK × ByteArray} {p : PK} (hx : l[i]? = some x) (h : ∀ y ∈ l.take i, y.1 ≠ p) (e : x.1 = p) : getM l p = some x.2 := by
  induction l generalizing i with
  | nil => simp at hx
  | cons y l ih =>
    obtain ⟨z, v⟩ := y
    have h1 : getM ((z, v) :: l) p = if p = z then some v else getM l p := rfl
    rw [h1]
    cases i with
    | zero =>
      have h2 : some (z, v) = some x := hx
      cases h2
      rw [if_pos e.symm]
    | succ i =>
      have h2 : l[i]? = some x := hx
      rw [if_neg fun e2 => h (z, v) (by rw [List.take_succ_cons]; exact .head _) e2.symm]
      exact ih h2 fun y hy => h y (by rw [List.take_succ_cons]; exact .tail _ hy)
theorem getM_all {l : PM} {p : PK} (h : ∀ y ∈ l, y.1 ≠ p) : getM l p = none := getM_none fun hm => by
  obtain ⟨y, hy, e⟩ := List.mem_map.1 hm
  exact h y hy e
theorem replay_inv {m m2 : PM} {s : ByteArray} (h : replayF m s = some m2) : 0 < s.size ∧ ∃ z q, decI s.data.toList 1 = some (z, q) ∧
    ((sb s 0 = 115 ∧ ∃ z2 q2 r, decI s.data.toList q = some (z2, q2) ∧ decS s.data.toList q2 = some (r, s.size) ∧ okP (unz z, unz z2) ∧ r.length ≤ 4096 ∧ m2 = setM m (unz z, unz z2) (mkBA r)) ∨
     (sb s 0 = 100 ∧ q = s.size ∧ okP (unz z, 0) ∧ (dropM m (unz z)).length < m.length ∧ m2 = dropM m (unz z))) := by
  unfold replayF at h
  split at h
  · cases h
  rename_i h0
  split at h
  · cases h
  rename_i z q hz
  refine ⟨by omega, z, q, hz, ?_⟩
  split at h
  · rename_i h1
    split at h
    · cases h
    rename_i z2 q2 hz2
    split at h
    · cases h
    rename_i r q3 hr
    split at h
    · rename_i h2
      split at h
      · rename_i h3
        cases h
        subst h3
        exact .inl ⟨h1, z2, q2, r, hz2, hr, h2.1, h2.2, rfl⟩
      · cases h
    · cases h
  split at h
  · rename_i h1
    split at h
    · rename_i h2
      split at h
      · rename_i h3
        cases h
        exact .inr ⟨h1, h3, h2.1, h2.2, rfl⟩
      · cases h
    · cases h
  · cases h
/-- Store, over pieces in order. -/
def storeL (l : PM) (j : Jn) (p : PK) (s : ByteArray) : Int × PM × Jn :=
  if ¬ okP p ∨ 4096 < s.size then (270, l, j) else ((j.append [recS p s]).1, if (j.append [recS p s]).1 = 0 then putPL l p s else l, (j.append [recS p s]).2)
theorem storeL_same {l m : PM} {j : Jn} {p : PK} {s : ByteArray} (h : SortL l m) (hk : (m.map Prod.fst).Nodup) : (storeL l j p s).1 = (storeF m j p s).1 ∧ (storeL l j p s).2.2 = (storeF m j p s).2.2 ∧ SortL (storeL l j p s).2.1 (storeF m j p s).2.1 := by
  unfold storeL storeF
  by_cases h1 : ¬ okP p ∨ 4096 < s.size
  · rw [if_pos h1, if_pos h1]; exact ⟨rfl, rfl, h⟩
  · rw [if_neg h1, if_neg h1]
    refine ⟨rfl, rfl, ?_⟩
    dsimp only
    by_cases h2 : (j.append [recS p s]).1 = 0
    · rw [if_pos h2, if_pos h2]; exact h.put hk p s
    · rw [if_neg h2, if_neg h2]; exact h
theorem dropL_same {l m : PM} {j : Jn} {o : Int} (h : SortL l m) : (dropF l j o).1 = (dropF m j o).1 ∧ (dropF l j o).2.1 = (dropF m j o).2.1 ∧ (dropF l j o).2.2.2 = (dropF m j o).2.2.2 ∧ SortL (dropF l j o).2.2.1 (dropF m j o).2.2.1 := by
  have h1 := h.perm.length_eq
  have h2 := (h.drop o).perm.length_eq
  unfold dropF
  rw [h1, h2]
  by_cases k1 : ¬ okP (o, 0)
  · rw [if_pos k1, if_pos k1]; exact ⟨rfl, rfl, rfl, h⟩
  rw [if_neg k1, if_neg k1]
  by_cases k2 : (dropM m o).length = m.length
  · rw [if_pos k2, if_pos k2]; exact ⟨rfl, rfl, rfl, h⟩
  rw [if_neg k2, if_neg k2]
  by_cases k3 : (j.append [recD o]).1 = 0
  · rw [if_pos k3, if_pos k3]; exact ⟨rfl, rfl, rfl, h.drop o⟩
  · rw [if_neg k3, if_neg k3]; exact ⟨rfl, rfl, rfl, h⟩
/-- The reference's custodian with its journal. -/
abbrev rcH (by_ bk bf : Nat) (la : Option Addr) (lc : Nat) (l : PM) (ja : Option Addr) (jc : Nat) (sa : Option Addr) (sc : Nat) (ka : Option Addr) (kc : Nat) (j : Jn) (H : List Atom) : List Atom := rcS by_ bk la lc l (rjH bk bf ja jc sa sc ka kc j.t j.k j.br H)
abbrev RQ := (Option Addr × Nat) × (Option Addr × Nat) × (Option Addr × Nat) × (Option Addr × Nat)
abbrev rcQ (by_ bk bf : Nat) (q : RQ) (l : PM) (j : Jn) (H : List Atom) : List Atom := rcH by_ bk bf q.1.1 q.1.2 l q.2.1.1 q.2.1.2 q.2.2.1.1 q.2.2.1.2 q.2.2.2.1 q.2.2.2.2 j H
attribute [local irreducible] WC WL WX POp Then Again Fn NX W1 WA WO QL RP RA Yld LoopAt HC HL HX HN H1 HA HO HQ HB HP A.blk A.grow A.rd A.obj A.mp AgainH CutH
attribute [local irreducible] unz sumS chainS expB
theorem rfetch_fn {w0 w : World} {H : List Atom} {by_ bk lc : Nat} {la : Option Addr} {l : PM} (p : PK) (hl : l.length ≤ 100000) (hM : Mm w0 (rcS by_ bk la lc l H) w) :
    Fn Tryz.prog 36 #[.pointer (some ⟨by_, 0, none⟩), zv p.1, zv p.2] w fun v w' => ∃ _ : Unit, True ∧ v = fetchV l p ∧ Mm w0 (rcS by_ bk la lc l H) w' := by
  refine enterK (l := [_, _, _]) hM rfl Tryz.ntmps36 rfl ?_
  refine hwZC ?_
  refine HC.loop (α := Nat) (fun i => [(0, .pointer (some ⟨by_, 0, none⟩)), (1, zv p.1), (2, zv p.2), (8, zv (i : Int))]) (fun _ => rcS by_ bk la lc l H) (fun i => i ≤ l.length ∧ ∀ y ∈ l.take i, y.1 ≠ p) (fun i => l.length - i) 0 ⟨Nat.zero_le _, fun _ h => by cases h⟩ esA (Hs.refl _) ?_
  rintro i ⟨hi, hpre⟩
  by_cases hlt : i < l.length
  rotate_left
  · obtain rfl : i = l.length := by omega
    rw [List.take_length] at hpre
    rw [fetchV_none (getM_all hpre)]
    refine hwZC ?_
    exact HX.ret2 rfl rfl rfl fun w' hM => ⟨(), trivial, rfl, hM⟩
  obtain ⟨x, hx⟩ : ∃ x, l[i]? = some x := ⟨_, List.getElem?_eq_getElem hlt⟩
  have hg0 : (piecs l)[i * 3]? = some (zv x.1.1) := piecs_get hx 0 _ rfl
  have hg1 : (piecs l)[i * 3 + 1]? = some (zv x.1.2) := piecs_get hx 1 _ rfl
  have hg2 : (piecs l)[i * 3 + 2]? = some (.string x.2) := piecs_get hx 2 _ rfl
  have htk := take_pm hx
  have hnext : x.1 ≠ p → ∀ y ∈ l.take (i + 1), y.1 ≠ p := fun hne y hy => by
    rw [htk] at hy
    rcases List.mem_append.1 hy with hy | hy
    · exact hpre y hy
    · rcases List.mem_cons.1 hy with rfl | hy
      · exact hne
      · cases hy
  refine HC.openg (e := 134) (sz := 3) (a := la) (c := lc) (n := l.length) (xs := piecs l) (.tail _ (.head _)) (by omega) ?_
  rintro g rfl
  refine hwZC ?_
  refine HL.one (H1.ldg (b := g) (e := 134) (sz := 3) rfl memA hg0 rfl ?_)
  by_cases hO : x.1.1 = p.1
  rotate_left
  · refine hwZC ?_
    exact HX.again (i + 1) ⟨hlt, hnext fun e => hO (by rw [e])⟩ (by show l.length - (i + 1) < l.length - i; omega) esA (Hs.refl _)
  refine hwZC ?_
  refine HL.one (H1.ldg (b := g) (e := 134) (sz := 3) rfl memA hg1 rfl ?_)
  by_cases hF : x.1.2 = p.2
  rotate_left
  · refine hwZC ?_
    exact HX.again (i + 1) ⟨hlt, hnext fun e => hF (by rw [e])⟩ (by show l.length - (i + 1) < l.length - i; omega) esA (Hs.refl _)
  have he : x.1 = p := Prod.ext hO hF
  refine hwZC ?_
  refine HL.one (H1.ldg (b := g) (e := 134) (sz := 3) rfl memA hg2 rfl ?_)
  rw [fetchV_some (getM_first hx hpre he)]
  refine hwZC ?_
  exact HX.ret2 rfl rfl rfl fun w' hM => ⟨(), trivial, rfl, hM⟩
theorem rholds_fn {w0 w : World} {H : List Atom} {by_ bk lc : Nat} {la : Option Addr} {l : PM} (hl : l.length ≤ 100000) (hM : Mm w0 (rcS by_ bk la lc l H) w) :
    Fn Tryz.prog 39 #[.pointer (some ⟨by_, 0, none⟩)] w fun v w' => ∃ z : Option Addr × Nat, True ∧ v = .slice z.1 (l.map Prod.fst).length z.2 ∧ Mm w0 (A.grow 43 2 z.1 z.2 (l.map Prod.fst).length (pcl (l.map Prod.fst)) :: rcS by_ bk la lc l H) w' := by
  refine enterK (l := [_]) hM rfl Tryz.ntmps39 rfl ?_
  refine hbZC ?_
  refine HC.grow0 43 2 ?_
  repeat refine HC.seq ?_
  refine HC.cut (α := Option Addr × Nat) (fun z => [(3, .slice z.1 (l.map Prod.fst).length z.2)]) (fun z => A.grow 43 2 z.1 z.2 (l.map Prod.fst).length (pcl (l.map Prod.fst)) :: rcS by_ bk la lc l H) (fun _ => True) ?_ ?_
  · refine HC.block ?_
    refine HC.loop (α := Nat × Option Addr × Nat) (fun z => [(0, .pointer (some ⟨by_, 0, none⟩)), (3, .slice z.2.1 ((l.take z.1).map Prod.fst).length z.2.2), (4, zv (z.1 : Int))])
      (fun z => A.grow 43 2 z.2.1 z.2.2 ((l.take z.1).map Prod.fst).length (pcl ((l.take z.1).map Prod.fst)) :: rcS by_ bk la lc l H) (fun z => z.1 ≤ l.length) (fun z => l.length - z.1) (0, none, 0) (Nat.zero_le _) esA (Hs.refl _) ?_
    rintro ⟨i, a1, c1⟩ hi
    dsimp only at hi ⊢
    by_cases hlt : i < l.length
    rotate_left
    · obtain rfl : i = l.length := by omega
      rw [List.take_length]
      refine hwZC ?_
      exact HX.cut (a1, c1) trivial esA (Hs.refl _)
    obtain ⟨x, hx⟩ : ∃ x, l[i]? = some x := ⟨_, List.getElem?_eq_getElem hlt⟩
    have hg0 : (piecs l)[i * 3]? = some (zv x.1.1) := piecs_get hx 0 _ rfl
    have hg1 : (piecs l)[i * 3 + 1]? = some (zv x.1.2) := piecs_get hx 1 _ rfl
    have htk := take_pm hx
    have hmk : (l.take (i + 1)).map Prod.fst = (l.take i).map Prod.fst ++ [x.1] := by rw [htk, List.map_append]; rfl
    have hml : ((l.take i).map Prod.fst).length ≤ l.length := by rw [List.length_map, List.length_take]; omega
    generalize (l.take i).map Prod.fst = ks at hmk hml
    have hsn := pcl_snoc ks x.1
    refine HC.openg (e := 134) (sz := 3) (a := la) (c := lc) (n := l.length) (xs := piecs l) (.tail _ (.tail _ (.head _))) (by omega) ?_
    rintro g rfl
    refine hwZC ?_
    refine HC.anyC ([(⟨by_, 1, none⟩, .slice (some ⟨g, 0, none⟩) l.length lc), (⟨g, i * 3, none⟩, zv x.1.1), (⟨g, i * 3 + 1, none⟩, zv x.1.2)]) rfl ?_
    refine HB.pa 0 rfl ?_
    refine HB.pa 1 rfl ?_
    refine HB.pa 2 rfl ?_ (POp.nilCheck rfl)
    refine HB.pa 3 rfl ?_
    refine HB.ld 4 rfl rfl memD ?_
    refine HB.pa 5 rfl ?_
    refine HB.pa 6 rfl ?_
    refine HB.pa 7 rfl ?_
    refine HB.ld 8 rfl rfl memD ?_
    refine HB.pa 9 rfl ?_
    refine HB.pa 10 rfl ?_ (POp.nilCheck rfl)
    refine HB.pa 11 rfl ?_
    refine HB.ld 12 rfl rfl memD ?_
    refine HB.pa 13 rfl ?_
    refine HB.pa 14 rfl ?_
    refine HB.pa 15 rfl ?_
    refine HB.ld 16 rfl rfl memD ?_
    refine HB.pa 17 rfl ?_ (POp.build (cs := [zv x.1.1, zv x.1.2]) rfl rfl)
    refine HB.all (by (exact Keep.blk (b := by_) memD rfl (Keep.grow (b := g) (e := 134) (sz := 3) memD hg0 (Keep.grow (b := g) (e := 134) (sz := 3) memD hg1 Keep.nil)))) [18] (by kernel_rfl) rfl ⟨⟨_, rfl, ?_⟩, trivial⟩
    refine HP.one ?_
    refine H1.lit (cs := [zv x.1.1, zv x.1.2]) rfl rfl rfl rfl rfl rfl (fun b9 => ?_)
    apply HB.fold
    refine HB.all (by (exact Keep.blk (b := by_) memD rfl (Keep.grow (b := g) (e := 134) (sz := 3) memD hg0 (Keep.grow (b := g) (e := 134) (sz := 3) memD hg1 Keep.nil)))) [19] (by kernel_rfl) rfl ⟨⟨_, rfl, ?_⟩, trivial⟩
    refine HP.one ?_
    refine H1.app (sz := 2) (news := [zv x.1.1, zv x.1.2]) rfl (by decide) rfl rfl (fun _ _ => by first | ((repeat (first | with_reducible exact Rpl.here | with_reducible apply Rpl.there)); done) | (repeat (first | exact Rpl.here | apply Rpl.there))) rfl (fun w' hM j u hj => by rw [add_lit, Nat.zero_add]; exact (hM.blk (b := b9) memA).cell hj) (by intro v hv; rcases List.mem_cons.1 hv with rfl | hv; rfl; rcases List.mem_cons.1 hv with rfl | hv; rfl; cases hv) (by omega) (by decide) rfl (fun a' c' hac => ?_)
    rw [show pcl ks ++ [zv x.1.1, zv x.1.2] = pcl (ks ++ [x.1]) from hsn]
    apply HB.fold
    refine HB.pa 20 rfl ?_
    refine HB.done (by (exact Keep.blk (b := by_) memD rfl (Keep.grow (b := g) (e := 134) (sz := 3) memD hg0 (Keep.grow (b := g) (e := 134) (sz := 3) memD hg1 Keep.nil)))) (by kernel_rfl) ?_
    refine hwZC ?_
    exact HX.again (i + 1, a', c') hlt (by show l.length - (i + 1) < l.length - i; omega) (by dsimp only; rw [hmk]; exact ⟨rfl, by rw [List.length_append]; rfl, rfl, trivial⟩) (by dsimp only; rw [hmk, List.length_append]; exact (Hs.refl _).skip)
  rintro ⟨a1, c1⟩ -
  dsimp only
  refine hwZC ?_
  exact HX.ret1 rfl rfl fun w' hM => ⟨(a1, c1), trivial, rfl, hM⟩
theorem rexpected_fn {w : World} (s ch : ByteArray) (hs : s.size ≤ 100000) (hc : ch.size ≤ 100) : Fn Tryz.prog 80 #[.string s, .string ch] w fun v w' => v = .string (expB s ch) ∧ Ext w w' := by
  have hz := askB_size s ch hc
  refine enterH (l := [_, _]) rfl Tryz.ntmps80 rfl ?_
  refine hwZC ?_
  refine HL.one (H1.callx (vs := [_, _]) rfl rfl (fun w' _ => asked_fn s ch hs hc w') ?_)
  refine hwZC ?_
  refine HL.one (H1.callx (vs := [_]) rfl rfl (fun w' _ => refSum_fn (askB s ch) (by omega) w') ?_)
  rw [← expB_ask hc]
  refine hwZC ?_
  exact HX.ret1 rfl rfl fun w' hM => ⟨rfl, hM.ext⟩
theorem ransV_eq {l : PM} {p : PK} {ch : ByteArray} (hc : ch.size ≤ 100) : ansV l p ch = match getM l p with
    | some s => .tuple #[.string (expB s ch), zv 0]
    | none => .tuple #[.string (ByteArray.mk #[]), zv 271] := by
  unfold ansV
  rw [if_neg (by omega)]
  cases getM l p <;> rfl
theorem ranswer_fn {w0 w : World} {H : List Atom} {by_ bk lc : Nat} {la : Option Addr} {l : PM} (p : PK) (ch : ByteArray) (hc : ch.size ≤ 100) (hl : l.length ≤ 100000) (hs : ∀ s, getM l p = some s → s.size ≤ 100000) (hM : Mm w0 (rcS by_ bk la lc l H) w) :
    Fn Tryz.prog 37 #[.pointer (some ⟨by_, 0, none⟩), zv p.1, zv p.2, .string ch] w fun v w' => ∃ _ : Unit, True ∧ v = ansV l p ch ∧ Mm w0 (rcS by_ bk la lc l H) w' := by
  have hf := fun w' => rfetch_fn (w0 := w0) (w := w') (by_ := by_) (bk := bk) (la := la) (lc := lc) (l := l) (H := H) p hl
  rw [ransV_eq hc]
  refine enterK (l := [_, _, _, _]) hM rfl Tryz.ntmps37 rfl ?_
  cases hg : getM l p with
  | none =>
    rw [fetchV_none hg] at hf
    dsimp only
    refine hwZC ?_
    refine HL.one (H1.callk (α := Unit) (V := fun _ => .tuple #[.string (ByteArray.mk #[]), zv 271]) (I := fun _ => True) (H' := fun _ => rcS by_ bk la lc l H) (vs := [_, _, _]) rfl rfl (fun w' hM => hf w' hM) ?_)
    rintro - -
    refine hwZC ?_
    exact HX.ret2 rfl rfl rfl fun w' hM => ⟨(), trivial, rfl, hM⟩
  | some s =>
    rw [fetchV_some hg] at hf
    dsimp only
    refine hwZC ?_
    refine HL.one (H1.callk (α := Unit) (V := fun _ => .tuple #[.string s, zv 0]) (I := fun _ => True) (H' := fun _ => rcS by_ bk la lc l H) (vs := [_, _, _]) rfl rfl (fun w' hM => hf w' hM) ?_)
    rintro - -
    refine hwZC ?_
    refine HL.one (H1.callx (vs := [_, _]) rfl rfl (fun w' _ => rexpected_fn s ch (hs s hg) hc) ?_)
    refine hwZC ?_
    exact HX.ret2 rfl rfl rfl fun w' hM => ⟨(), trivial, rfl, hM⟩
set_option maxHeartbeats 2000000 in
theorem rstore_fn {w0 w : World} {H : List Atom} {by_ bk bf : Nat} {q : RQ} {l : PM} {j : Jn} (p : PK) (s : ByteArray) (hM : Mm w0 (rcQ by_ bk bf q l j H) w) (hj : JOk j) (hi : TpOk j.t) (hf : j.k.Fit) (hv : j.k.Vis) (hN : j.k.dur.length ≤ 100000) (hl : l.length ≤ 100000) :
    Fn Tryz.prog 35 #[.pointer (some ⟨by_, 0, none⟩), zv p.1, zv p.2, .string s] w fun v w' => ∃ q : RQ, True ∧ v = zv (storeL l j p s).1 ∧ Mm w0 (rcQ by_ bk bf q (storeL l j p s).2.1 (storeL l j p s).2.2 H) w' := by
  obtain ⟨⟨la, lc⟩, ⟨ja, jc⟩, ⟨sa, sc⟩, ⟨ka, kc⟩⟩ := q
  refine enterK (l := [_, _, _, _]) hM rfl Tryz.ntmps35 rfl ?_
  refine hwZC ?_
  refine HL.one (H1.call0 (vs := [_, _]) rfl rfl (fun w' _ => rvalid27_fn p.1 p.2 w') ?_)
  by_cases hp : okP p
  rotate_left
  · have hF : storeL l j p s = (270, l, j) := by unfold storeL; rw [if_pos (.inl hp)]
    rw [hF, decide_eq_false (p := okP (p.1, p.2)) hp]
    refine hwZC ?_
    exact HX.ret1 rfl rfl fun w' hM => ⟨((la, lc), (ja, jc), (sa, sc), (ka, kc)), trivial, rfl, hM⟩
  rw [decide_eq_true (p := okP (p.1, p.2)) hp]
  by_cases hs : 4096 < s.size
  · have hF : storeL l j p s = (270, l, j) := by unfold storeL; rw [if_pos (.inr hs)]
    have hs' : (4096 : Int) < (s.size : Int) := by omega
    rw [hF]
    refine hwZC ?_
    exact HX.ret1 rfl rfl fun w' hM => ⟨((la, lc), (ja, jc), (sa, sc), (ka, kc)), trivial, rfl, hM⟩
  have hs' : ¬ (4096 : Int) < (s.size : Int) := by omega
  obtain ⟨e, j2, hap⟩ : ∃ e j2, j.append [recS p s] = (e, j2) := ⟨_, _, rfl⟩
  have hF : storeL l j p s = (e, if e = 0 then putPL l p s else l, j2) := by
    unfold storeL
    rw [if_neg (by rintro (h | h); exact h hp; exact hs h), hap]
  have hrs := recS_size hp (s := s) (by omega)
  have hre : (mkB 115 ++ putsB (ByteArray.mk #[]) [p.1.toNat, p.2.toNat]) ++ (strN s.size ++ s) = recS p s := by rw [putsB_nil]; rfl
  rw [hF]
  dsimp only
  obtain ⟨k1, k2, k3, k4⟩ := hp
  have hns : ∀ n ∈ [p.1.toNat, p.2.toNat], n ≤ 1099511627776 := by
    intro n hn
    rcases List.mem_cons.1 hn with rfl | hn
    · omega
    rcases List.mem_cons.1 hn with rfl | hn
    · omega
    · cases hn
  have e12 : ints (intsN [p.1.toNat, p.2.toNat]) = [zv p.1, zv p.2] := by
    have e1 : ((p.1.toNat : Nat) : Int) = p.1 := by omega
    have e2 : ((p.2.toNat : Nat) : Int) = p.2 := by omega
    show [zv ((p.1.toNat : Nat) : Int), zv ((p.2.toNat : Nat) : Int)] = _
    rw [e1, e2]
  have hps := putsB_size [p.1.toNat, p.2.toNat] (ByteArray.mk #[]) hns
  have h00 : (ByteArray.mk #[]).size = 0 := rfl
  have hz := strN_size (n := s.size) (by omega)
  have hzz := ba_append_size (strN s.size) s
  have hm1 : (mkB 115).size = 1 := rfl
  have hmm := ba_append_size (mkB 115) (putsB (ByteArray.mk #[]) [p.1.toNat, p.2.toNat])
  simp only [List.length_cons, List.length_nil] at hps
  refine hwZC ?_
  refine HC.cut (α := (Option Addr × Nat) × (Option Addr × Nat) × (Option Addr × Nat)) (fun _ => [(0, .pointer (some ⟨by_, 0, none⟩)), (1, zv p.1), (2, zv p.2), (3, .string s), (9, zv e)]) (fun q => rcH by_ bk bf la lc l q.1.1 q.1.2 q.2.1.1 q.2.1.2 q.2.2.1 q.2.2.2 j2 H) (fun _ => True) ?_ ?_
  · refine HC.anyC ([(⟨by_, 0, none⟩, .pointer (some ⟨bk, 0, none⟩))]) rfl ?_
    refine HB.pa 0 rfl ?_
    refine HB.pa 1 rfl ?_ (POp.nilCheck rfl)
    refine HB.pa 2 rfl ?_
    refine HB.ld 3 rfl rfl memD ?_
    refine HB.pa 4 rfl ?_
    refine HB.pa 5 rfl ?_
    refine HB.pa 9 rfl ?_
    refine HB.all (by (exact Keep.blk (b := by_) memD rfl Keep.nil)) [6] (by kernel_rfl) rfl ⟨⟨_, rfl, ?_⟩, trivial⟩
    refine HP.one ?_
    refine H1.lit (cs := [zv p.1, zv p.2]) rfl rfl rfl rfl rfl rfl (fun b8 => ?_)
    apply HB.fold
    refine HB.all (by (exact Keep.blk (b := by_) memD rfl Keep.nil)) [7] (by kernel_rfl) rfl ⟨⟨_, rfl, ?_⟩, trivial⟩
    refine HP.one ?_
    refine H1.callx (vs := [.slice (some ⟨b8, 0, none⟩) 2 2]) rfl rfl (fun w' hM => rnumbers_fn [p.1.toNat, p.2.toNat] _ hns (by show 2 ≤ 100; decide) w' (by rw [e12]; exact blk_rd (e := 3) (hM.blk (.head _)) rfl)) ?_
    apply HB.fold
    refine HB.pa 8 rfl ?_ (POp.cat (s := mkB 115) (u := putsB (ByteArray.mk #[]) [p.1.toNat, p.2.toNat]) rfl rfl (by omega))
    refine HB.all (by (exact Keep.blk (b := by_) memD rfl Keep.nil)) [10] (by kernel_rfl) rfl ⟨⟨_, rfl, ?_⟩, trivial⟩
    refine HP.one ?_
    refine H1.callx (vs := [_]) rfl rfl (fun w' _ => refText27_fn s (by omega) w') ?_
    apply HB.fold
    refine HB.pa 11 rfl ?_ (POp.cat (s := mkB 115 ++ putsB (ByteArray.mk #[]) [p.1.toNat, p.2.toNat]) (u := strN s.size ++ s) rfl rfl (by omega))
    rw [hre]
    refine HB.all (by (exact Keep.blk (b := by_) memD rfl Keep.nil)) [12] (by kernel_rfl) rfl ⟨⟨_, rfl, ?_⟩, trivial⟩
    refine HP.one ?_
    refine H1.lit (cs := strs [recS p s]) rfl rfl rfl rfl rfl rfl (fun b9 => ?_)
    apply HB.fold
    refine HB.all (by (exact Keep.blk (b := by_) memD rfl Keep.nil)) [13] (by kernel_rfl) rfl ⟨⟨_, rfl, ?_⟩, trivial⟩
    refine HP.one ?_
    refine H1.callk (α := (Option Addr × Nat) × (Option Addr × Nat) × (Option Addr × Nat)) (V := fun _ => zv e) (I := fun _ => True) (H' := fun q => rjH bk bf q.1.1 q.1.2 q.2.1.1 q.2.1.2 q.2.2.1 q.2.2.2 j2.t j2.k j2.br (A.grow 9 1 (some ⟨b9, 0, none⟩) 1 1 (strs [recS p s]) :: rcS by_ bk la lc l H)) (vs := [_, .slice (some ⟨b9, 0, none⟩) 1 1]) rfl rfl
        (fun w' hM => by
          have h := rappend_fn (j := j) (g := [recS p s]) (a9 := some ⟨b9, 0, none⟩) (c9 := 1) (H := A.grow 9 1 (some ⟨b9, 0, none⟩) 1 1 (strs [recS p s]) :: rcS by_ bk la lc l H) ((blkGrow3 (n := 1) (sz := 1) (hM.sub (Hs.cons Pick.here (Hs.cons (Pick.there Pick.here) (Hs.cons (Pick.there Pick.here) (Hs.cons (Pick.there Pick.here) ((Hs.refl _))))))) rfl (by decide)).sub (Hs.cons (Pick.there (Pick.there (Pick.there Pick.here))) (Hs.cons (Pick.there (Pick.there (Pick.there (Pick.there Pick.here)))) (Hs.cons (Pick.there (Pick.there (Pick.there (Pick.there Pick.here)))) (Hs.cons (Pick.there (Pick.there (Pick.there (Pick.there Pick.here)))) (Hs.cons (Pick.there (Pick.there (Pick.there (Pick.there Pick.here)))) (Hs.cons Pick.here (Hs.cons Pick.here (Hs.cons Pick.here (Hs.refl _).skip))))))))) (.head _) hj hi hf hv hN (by show 1 ≤ 6; decide) (fun r hr => by
            rcases List.mem_cons.1 hr with rfl | hr
            · omega
            · cases hr)
          rw [hap] at h
          exact h) ?_
    rintro ⟨⟨ja2, jc2⟩, ⟨sa2, sc2⟩, ⟨ka2, kc2⟩⟩ -
    dsimp only
    apply HB.fold
    refine HB.pa 14 rfl ?_
    refine HB.done (by (exact Keep.blk (b := by_) memD rfl Keep.nil)) (by kernel_rfl) ?_
    refine hwZC ?_
    exact HX.cut ((ja2, jc2), (sa2, sc2), (ka2, kc2)) trivial esA (Hs.cons (Pick.there (Pick.there (Pick.there (Pick.there (Pick.there (Pick.there Pick.here)))))) (Hs.cons (Pick.there (Pick.there (Pick.there (Pick.there (Pick.there (Pick.there Pick.here)))))) (Hs.cons Pick.here (Hs.cons Pick.here (Hs.cons Pick.here (Hs.cons Pick.here (Hs.cons Pick.here (Hs.refl _).skip)))))))
  rintro ⟨⟨ja, jc⟩, ⟨sa, sc⟩, ⟨ka, kc⟩⟩ -
  dsimp only
  by_cases he : e = 0
  · rw [if_pos he]
    refine hwZC ?_
    refine HL.build (cs := [zv p.1, zv p.2, .string s]) rfl rfl rfl ?_
    refine hwZC ?_
    refine HL.one (H1.callz (α := Option Addr × Nat) (V := fun z => .slice z.1 (putPL l p s).length z.2) (Hn := fun z => [A.grow 134 3 z.1 z.2 (putPL l p s).length (piecs (putPL l p s))]) (I := fun _ => True) (vs := [_, .agg [zv p.1, zv p.2, .string s].toArray]) rfl rfl (fun w' hM => rput_fn p s _ l hl w' (hM.grC (e := 134) memA)) ?_)
    rintro ⟨la2, lc2⟩ -
    dsimp only
    refine hwZC ?_
    refine HL.one (H1.st rfl rfl (by intro _ h; cases h) (by intro _ h; cases h) rplA (by show 1 < 2; decide) ?_)
    refine hwZC ?_
    exact HX.ret1 rfl rfl fun w' hM => ⟨((la2, lc2), (ja, jc), (sa, sc), (ka, kc)), trivial, rfl, hM.sub (Hs.cons (Pick.there Pick.here) (Hs.cons Pick.here (Hs.cons (Pick.there Pick.here) (Hs.cons (Pick.there Pick.here) (Hs.cons (Pick.there Pick.here) (Hs.cons (Pick.there Pick.here) (Hs.cons (Pick.there Pick.here) (Hs.refl _).skip)))))))⟩
  · rw [if_neg he]
    refine hwZC ?_
    exact HX.ret1 rfl rfl fun w' hM => ⟨((la, lc), (ja, jc), (sa, sc), (ka, kc)), trivial, rfl, hM⟩
set_option maxHeartbeats 2000000 in
theorem rcdrop_fn {w0 w : World} {H : List Atom} {by_ bk bf : Nat} {q : RQ} {l : PM} {j : Jn} (o : Int) (hM : Mm w0 (rcQ by_ bk bf q l j H) w) (hj : JOk j) (hi : TpOk j.t) (hf : j.k.Fit) (hv : j.k.Vis) (hN : j.k.dur.length ≤ 100000) (hl : l.length ≤ 100000) :
    Fn Tryz.prog 30 #[.pointer (some ⟨by_, 0, none⟩), zv o] w fun v w' => ∃ q : RQ, True ∧ v = .tuple #[zv (dropF l j o).1, zv (dropF l j o).2.1] ∧ Mm w0 (rcQ by_ bk bf q (dropF l j o).2.2.1 (dropF l j o).2.2.2 H) w' := by
  obtain ⟨⟨la, lc⟩, ⟨ja, jc⟩, ⟨sa, sc⟩, ⟨ka, kc⟩⟩ := q
  have hdl := dropM_len l o
  refine enterK (l := [_, _]) hM rfl Tryz.ntmps30 rfl ?_
  refine hwZC ?_
  refine HL.one (H1.call0 (vs := [_, zv 0]) rfl rfl (fun w' _ => rvalid27_fn o 0 w') ?_)
  by_cases hp : okP (o, 0)
  rotate_left
  · have hF : dropF l j o = (0, 270, l, j) := by unfold dropF; rw [if_pos hp]
    rw [hF, decide_eq_false hp]
    refine hwZC ?_
    exact HX.ret2 rfl rfl rfl fun w' hM => ⟨((la, lc), (ja, jc), (sa, sc), (ka, kc)), trivial, rfl, hM⟩
  rw [decide_eq_true hp]
  refine hwZC ?_
  refine HL.one (H1.callz (α := Option Addr × Nat) (V := fun z => .tuple #[.slice z.1 (dropM l o).length z.2, zv ((l.length : Int) - ((dropM l o).length : Int))]) (Hn := fun z => [A.grow 134 3 z.1 z.2 (dropM l o).length (piecs (dropM l o))]) (I := fun _ => True) (vs := [_, zv o]) rfl rfl (fun w' hM => rdrop27_fn o _ l hl w' (hM.grC (e := 134) memA)) ?_)
  rintro ⟨la2, lc2⟩ -
  dsimp only
  by_cases hd : (dropM l o).length = l.length
  · have hF : dropF l j o = (0, 0, l, j) := dropF_none hp hd
    have hd' : (l.length : Int) - ((dropM l o).length : Int) = 0 := by omega
    rw [hF]
    refine hwZC ?_
    exact HX.ret2 rfl rfl rfl fun w' hM => ⟨((la, lc), (ja, jc), (sa, sc), (ka, kc)), trivial, rfl, hM.tail⟩
  have hd' : ¬ (l.length : Int) - ((dropM l o).length : Int) = 0 := by omega
  obtain ⟨e, j2, hap⟩ : ∃ e j2, j.append [recD o] = (e, j2) := ⟨_, _, rfl⟩
  have hF : dropF l j o = if e = 0 then ((l.length : Int) - ((dropM l o).length : Int), 0, dropM l o, j2) else (0, e, l, j2) := by
    unfold dropF
    rw [if_neg (fun h => h hp), if_neg hd, hap]
  obtain ⟨k1, k2, -, -⟩ := hp
  have hrs := recD_size (o := o) k2
  have hre : mkB 100 ++ putsB (ByteArray.mk #[]) [o.toNat] = recD o := by rw [putsB_nil]; rfl
  have hns : ∀ n ∈ [o.toNat], n ≤ 1099511627776 := by
    intro n hn
    rcases List.mem_cons.1 hn with rfl | hn
    · dsimp only at k2; omega
    · cases hn
  have e12 : ints (intsN [o.toNat]) = [zv o] := by
    have e1 : ((o.toNat : Nat) : Int) = o := by dsimp only at k1; omega
    show [zv ((o.toNat : Nat) : Int)] = _
    rw [e1]
  have hps := putsB_size [o.toNat] (ByteArray.mk #[]) hns
  have h00 : (ByteArray.mk #[]).size = 0 := rfl
  have hm1 : (mkB 100).size = 1 := rfl
  simp only [List.length_cons, List.length_nil] at hps
  refine hwZC ?_
  refine HC.cut (α := (Option Addr × Nat) × (Option Addr × Nat) × (Option Addr × Nat)) (fun _ => [(0, .pointer (some ⟨by_, 0, none⟩)), (6, .slice la2 (dropM l o).length lc2), (7, zv ((l.length : Int) - ((dropM l o).length : Int))), (8, zv e)]) (fun q => A.grow 134 3 la2 lc2 (dropM l o).length (piecs (dropM l o)) :: rcH by_ bk bf la lc l q.1.1 q.1.2 q.2.1.1 q.2.1.2 q.2.2.1 q.2.2.2 j2 H) (fun _ => True) ?_ ?_
  · refine HC.anyC ([(⟨by_, 0, none⟩, .pointer (some ⟨bk, 0, none⟩))]) rfl ?_
    refine HB.pa 0 rfl ?_
    refine HB.pa 1 rfl ?_ (POp.nilCheck rfl)
    refine HB.pa 2 rfl ?_
    refine HB.ld 3 rfl rfl memD ?_
    refine HB.pa 4 rfl ?_
    refine HB.all (by (exact Keep.blk (b := by_) memD rfl Keep.nil)) [5] (by kernel_rfl) rfl ⟨⟨_, rfl, ?_⟩, trivial⟩
    refine HP.one ?_
    refine H1.lit (cs := [zv o]) rfl rfl rfl rfl rfl rfl (fun b8 => ?_)
    apply HB.fold
    refine HB.all (by (exact Keep.blk (b := by_) memD rfl Keep.nil)) [6] (by kernel_rfl) rfl ⟨⟨_, rfl, ?_⟩, trivial⟩
    refine HP.one ?_
    refine H1.callx (vs := [.slice (some ⟨b8, 0, none⟩) 1 1]) rfl rfl (fun w' hM => rnumbers_fn [o.toNat] _ hns (by show 1 ≤ 100; decide) w' (by rw [e12]; exact blk_rd (e := 3) (hM.blk (.head _)) rfl)) ?_
    apply HB.fold
    refine HB.pa 7 rfl ?_ (POp.cat (s := mkB 100) (u := putsB (ByteArray.mk #[]) [o.toNat]) rfl rfl (by omega))
    rw [hre]
    refine HB.all (by (exact Keep.blk (b := by_) memD rfl Keep.nil)) [8] (by kernel_rfl) rfl ⟨⟨_, rfl, ?_⟩, trivial⟩
    refine HP.one ?_
    refine H1.lit (cs := strs [recD o]) rfl rfl rfl rfl rfl rfl (fun b9 => ?_)
    apply HB.fold
    refine HB.all (by (exact Keep.blk (b := by_) memD rfl Keep.nil)) [9] (by kernel_rfl) rfl ⟨⟨_, rfl, ?_⟩, trivial⟩
    refine HP.one ?_
    refine H1.callk (α := (Option Addr × Nat) × (Option Addr × Nat) × (Option Addr × Nat)) (V := fun _ => zv e) (I := fun _ => True) (H' := fun q => rjH bk bf q.1.1 q.1.2 q.2.1.1 q.2.1.2 q.2.2.1 q.2.2.2 j2.t j2.k j2.br (A.grow 9 1 (some ⟨b9, 0, none⟩) 1 1 (strs [recD o]) :: A.grow 134 3 la2 lc2 (dropM l o).length (piecs (dropM l o)) :: rcS by_ bk la lc l H)) (vs := [_, .slice (some ⟨b9, 0, none⟩) 1 1]) rfl rfl
        (fun w' hM => by
          have h := rappend_fn (j := j) (g := [recD o]) (a9 := some ⟨b9, 0, none⟩) (c9 := 1) (H := A.grow 9 1 (some ⟨b9, 0, none⟩) 1 1 (strs [recD o]) :: A.grow 134 3 la2 lc2 (dropM l o).length (piecs (dropM l o)) :: rcS by_ bk la lc l H) ((blkGrow3 (n := 1) (sz := 1) hM rfl (by decide)).sub (Hs.cons (Pick.there (Pick.there (Pick.there (Pick.there (Pick.there Pick.here))))) (Hs.cons (Pick.there (Pick.there (Pick.there (Pick.there (Pick.there Pick.here))))) (Hs.cons (Pick.there (Pick.there (Pick.there (Pick.there (Pick.there Pick.here))))) (Hs.cons (Pick.there (Pick.there (Pick.there (Pick.there (Pick.there Pick.here))))) (Hs.cons (Pick.there (Pick.there (Pick.there (Pick.there (Pick.there Pick.here))))) (Hs.cons Pick.here (Hs.cons (Pick.there Pick.here) (Hs.cons (Pick.there Pick.here) (Hs.cons (Pick.there Pick.here) (Hs.refl _).skip)))))))))) (.head _) hj hi hf hv hN (by show 1 ≤ 6; decide) (fun r hr => by
            rcases List.mem_cons.1 hr with rfl | hr
            · omega
            · cases hr)
          rw [hap] at h
          exact h) ?_
    rintro ⟨⟨ja2, jc2⟩, ⟨sa2, sc2⟩, ⟨ka2, kc2⟩⟩ -
    dsimp only
    apply HB.fold
    refine HB.pa 10 rfl ?_
    refine HB.done (by (exact Keep.blk (b := by_) memD rfl Keep.nil)) (by kernel_rfl) ?_
    refine hwZC ?_
    exact HX.cut ((ja2, jc2), (sa2, sc2), (ka2, kc2)) trivial esA (Hs.cons (Pick.there (Pick.there (Pick.there (Pick.there (Pick.there (Pick.there Pick.here)))))) (Hs.cons (Pick.there (Pick.there (Pick.there (Pick.there (Pick.there (Pick.there Pick.here)))))) (Hs.cons (Pick.there (Pick.there (Pick.there (Pick.there (Pick.there (Pick.there Pick.here)))))) (Hs.cons Pick.here (Hs.cons Pick.here (Hs.cons Pick.here (Hs.cons Pick.here (Hs.cons Pick.here (Hs.refl _).skip))))))))
  rintro ⟨⟨ja, jc⟩, ⟨sa, sc⟩, ⟨ka, kc⟩⟩ -
  dsimp only
  rw [hF]
  by_cases he : e = 0
  · rw [if_pos he]
    refine hwZC ?_
    refine HL.one (H1.st rfl rfl (by intro _ h; cases h) (by intro _ h; cases h) rplA (by show 1 < 2; decide) ?_)
    refine hwZC ?_
    exact HX.ret2 rfl rfl rfl fun w' hM => ⟨((la2, lc2), (ja, jc), (sa, sc), (ka, kc)), trivial, rfl, hM.sub (Hs.cons (Pick.there Pick.here) (Hs.cons Pick.here (Hs.cons (Pick.there Pick.here) (Hs.cons (Pick.there Pick.here) (Hs.cons (Pick.there Pick.here) (Hs.cons (Pick.there Pick.here) (Hs.cons (Pick.there Pick.here) (Hs.refl _).skip)))))))⟩
  · rw [if_neg he]
    refine hwZC ?_
    exact HX.ret2 rfl rfl rfl fun w' hM => ⟨((la, lc), (ja, jc), (sa, sc), (ka, kc)), trivial, rfl, hM.tail⟩
set_option maxHeartbeats 4000000 in
theorem rcopen_fn {w0 w : World} {H : List Atom} {bf sc kc : Nat} {sa ka : Option Addr} {k k' : Dk} {t : Tp} {m : PM} (hM : Mm w0 (rfH bf sa sc ka kc k H) w) (hk : k.Ok) (hf : k.Fit) (hv : k.Vis) (hp : k.pend.length ≤ 9000) (hN : k.dur.length ≤ 100000)
    (hop : openF k = (0, k', some t)) (hrs : ∀ r ∈ t.recs, r.size ≤ 65536) (hrl : t.recs.length ≤ 50000) (hrp : replaysF [] t.recs = some m) :
    Fn Tryz.prog 29 #[.pointer (some ⟨bf, 0, none⟩)] w fun v w' => ∃ z : Nat × Nat × PM × RQ, SortL z.2.2.1 m ∧ v = .tuple #[.pointer (some ⟨z.1, 0, none⟩), zv 0] ∧ Mm w0 (rcQ z.1 z.2.1 bf z.2.2.2 z.2.2.1 ⟨t, k', false⟩ H) w' := by
  refine enterK (l := [_]) hM rfl Tryz.ntmps29 rfl ?_
  refine hwZC ?_
  refine HL.one (H1.callk (α := Nat × (Option Addr × Nat) × (Option Addr × Nat) × (Option Addr × Nat)) (V := fun z => .tuple #[.pointer (some ⟨z.1, 0, none⟩), zv 0]) (I := fun _ => True) (H' := fun z => rjH z.1 bf z.2.1.1 z.2.1.2 z.2.2.1.1 z.2.2.1.2 z.2.2.2.1 z.2.2.2.2 t k' false H) (vs := [_]) rfl rfl
    (fun w' hM => by
      have h := ropen_fn hM hk hf hv hp hN
      rw [hop] at h
      exact h.mono fun v w2 ⟨z, h1, h2⟩ => ⟨z, trivial, h1, h2⟩) ?_)
  rintro ⟨bk, ⟨ja, jc⟩, ⟨sa, sc⟩, ⟨ka, kc⟩⟩ -
  dsimp only
  refine hwZC ?_
  refine HL.build (cs := [.pointer (some ⟨bk, 0, none⟩), .slice none 0 0]) rfl rfl rfl ?_
  refine hwZC ?_
  refine HL.one (H1.boxAgg (cs := [.pointer (some ⟨bk, 0, none⟩), .slice none 0 0]) rfl rfl (fun by_ => ?_))
  refine hbZC ?_
  refine HC.grow0 134 3 ?_
  repeat refine HC.seq ?_
  refine HC.cut (α := PM × Option Addr × Nat) (fun _ => [(6, .pointer (some ⟨by_, 0, none⟩))]) (fun z => rcS by_ bk z.2.1 z.2.2 z.1 (rjH bk bf ja jc sa sc ka kc t k' false H)) (fun z => SortL z.1 m) ?_ ?_
  rotate_left
  · rintro ⟨l, la, lc⟩ hS
    dsimp only at hS ⊢
    refine hwZC ?_
    exact HX.ret2 rfl rfl rfl fun w' hM => ⟨(by_, bk, l, (la, lc), (ja, jc), (sa, sc), (ka, kc)), hS, rfl, hM⟩
  refine HC.block ?_
  refine HC.loop (α := Nat × PM × PM × Option Addr × Nat) (fun z => [(4, .pointer (some ⟨bk, 0, none⟩)), (6, .pointer (some ⟨by_, 0, none⟩)), (7, zv (z.1 : Int))])
    (fun z => rcS by_ bk z.2.2.2.1 z.2.2.2.2 z.2.2.1 (rjH bk bf ja jc sa sc ka kc t k' false H)) (fun z => z.1 ≤ t.recs.length ∧ replaysF [] (t.recs.take z.1) = some z.2.1 ∧ (z.2.1.map Prod.fst).Nodup ∧ z.2.1.length ≤ z.1 ∧ SortL z.2.2.1 z.2.1) (fun z => t.recs.length - z.1) (0, [], [], none, 0) ⟨Nat.zero_le _, rfl, List.nodup_nil, Nat.le_refl _, sortL0⟩ esA (Hs.cons (Pick.there Pick.here) (Hs.cons Pick.here (Hs.refl _))) ?_
  rintro ⟨i, mi, l, la, lc⟩ ⟨hi, hF, hnd, hml, hS⟩
  dsimp only at hi hF hnd hml hS ⊢
  have hll := hS.perm.length_eq
  by_cases hlt : i < t.recs.length
  rotate_left
  · obtain rfl : i = t.recs.length := by omega
    rw [List.take_length] at hF
    rw [hF] at hrp
    obtain rfl := Option.some.inj hrp
    refine hwZC ?_
    exact HX.cut (l, la, lc) hS esA (Hs.refl _)
  have hget := strs_get hlt
  have hsz := hrs (fr t.recs i) (by unfold fr; simp [hlt])
  have htk := take_fr hlt
  have hF2 := replaysF_snoc (t.recs.take i) [] (fr t.recs i)
  rw [← htk, hF] at hF2
  have hF3 := replaysF_app (t.recs.take (i + 1)) (t.recs.drop (i + 1)) []
  rw [List.take_append_drop, hrp] at hF3
  generalize fr t.recs i = s at hget hsz hF2
  have hF4 : replaysF [] (t.recs.take (i + 1)) = replayF mi s := hF2
  obtain ⟨m2, hr2⟩ : ∃ m2, replayF mi s = some m2 := by
    cases hr : replayF mi s with
    | none => rw [hF4, hr] at hF3; cases hF3
    | some m2 => exact ⟨m2, rfl⟩
  rw [hr2] at hF4
  clear hF2 hF3
  obtain ⟨hnd2, hml2⟩ := replay_keeps hr2 hnd
  obtain ⟨hs0, z, q, hz, hcase⟩ := replay_inv hr2
  have hlen : s.data.toList.length = s.size := by rw [Array.length_toList]; rfl
  have hne : ¬ s = ByteArray.mk #[] := fun h => by rw [h] at hs0; exact absurd hs0 (by decide)
  have hq := decI_le (by omega) hz
  rw [hlen] at hq
  refine HC.openg (e := 9) (sz := 1) (a := ja) (c := jc) (n := t.recs.length) (xs := strs t.recs) memA (by omega) ?_
  rintro gj rfl
  refine hwZC ?_
  refine HL.one (H1.ldg (b := gj) (e := 9) (sz := 1) rfl memA hget rfl ?_)
  refine hwZC ?_
  refine HL.build (cs := [.string s, zv 1, .bool false]) rfl rfl rfl ?_
  refine hwZC ?_
  refine HL.one (H1.boxAgg (cs := [.string s, zv 1, .bool false]) rfl rfl (fun br => ?_))
  refine hwZC ?_
  refine HL.one (H1.callk (α := Unit) (V := fun _ => zv (unz z)) (I := fun _ => True) (H' := fun _ => A.blk br [.string s, zv (q : Int), .bool false] 130 :: rcS by_ bk la lc l (rjH bk bf (some ⟨gj, 0, none⟩) jc sa sc ka kc t k' false H)) (vs := [_]) rfl rfl (fun w' hM => rInt06_fn (p := 1) s hz hM (by omega) (by omega)) ?_)
  rintro - -
  refine hwZC ?_
  refine HL.one (H1.call0 (vs := [_, zv 0]) rfl rfl (fun w' _ => rvalid27_fn (unz z) 0 w') ?_)
  refine hbZC ?_
  repeat refine HC.seq ?_
  refine HC.cut (α := PM × Option Addr × Nat) (fun _ => [(4, .pointer (some ⟨bk, 0, none⟩)), (6, .pointer (some ⟨by_, 0, none⟩)), (7, zv (i : Int)), (8, .string s), (9, .pointer (some ⟨br, 0, none⟩)), (11, .bool true)])
    (fun x => A.blk br [.string s, zv (s.size : Int), .bool false] 130 :: rcS by_ bk x.2.1 x.2.2 x.1 (rjH bk bf (some ⟨gj, 0, none⟩) jc sa sc ka kc t k' false H)) (fun x => SortL x.1 m2) ?_ ?_
  rotate_left
  · rintro ⟨l2, la2, lc2⟩ hS2
    dsimp only at hS2 ⊢
    refine hwZC ?_
    exact HX.again (i + 1, m2, l2, la2, lc2) ⟨hlt, hF4, hnd2, by show m2.length ≤ i + 1; omega, hS2⟩ (by show t.recs.length - (i + 1) < t.recs.length - i; omega) esA (Hs.refl _).skip
  refine HC.block ?_
  rcases hcase with ⟨h1, z2, q2, r, hz2, hr, hok, hrl2, rfl⟩ | ⟨h1, rfl, hok, hdl, rfl⟩
  · have h1' : ((sb s 0 : Nat) : Int) = 115 := by omega
    have hq2 := decI_le (by omega) hz2
    rw [hlen] at hq2
    have hrz := mkBA_size2 r
    have hrz2 : ((mkBA r).size : Int) ≤ 4096 := by omega
    refine hwZC ?_
    refine HL.one (H1.callk (α := Unit) (V := fun _ => zv (unz z2)) (I := fun _ => True) (H' := fun _ => A.blk br [.string s, zv (q2 : Int), .bool false] 130 :: rcS by_ bk la lc l (rjH bk bf (some ⟨gj, 0, none⟩) jc sa sc ka kc t k' false H)) (vs := [_]) rfl rfl (fun w' hM => rInt06_fn (p := q) s hz2 hM (by omega) (by omega)) ?_)
    rintro - -
    refine hwZC ?_
    refine HL.one (H1.callk (α := Unit) (V := fun _ => .string (mkBA r)) (I := fun _ => True) (H' := fun _ => A.blk br [.string s, zv (s.size : Int), .bool false] 130 :: rcS by_ bk la lc l (rjH bk bf (some ⟨gj, 0, none⟩) jc sa sc ka kc t k' false H)) (vs := [_]) rfl rfl (fun w' hM => rText06_fn (p := q2) s hr hM (by omega) (by omega)) ?_)
    rintro - -
    generalize mkBA r = u at hrz hrz2 hr2 hnd2 hml2 hF4 ⊢
    generalize unz z2 = f at hok hr2 hnd2 hml2 hF4 ⊢
    generalize unz z = o at hok hr2 hnd2 hml2 hF4 ⊢
    refine hwZC ?_
    refine HL.build (cs := [zv o, zv f, .string u]) rfl rfl rfl ?_
    refine hwZC ?_
    refine HL.one (H1.alloc (cs := [zv 0, zv 0, .string (ByteArray.mk #[])]) rfl rfl (fun b12 => ?_))
    refine hwZC ?_
    refine HL.one (H1.stAgg (cs := [zv 0, zv 0, .string (ByteArray.mk #[])]) (vs := [zv o, zv f, .string u]) rfl rfl rfl (pieC_one ((o, f), u)) rplA rfl ?_)
    refine hwZC ?_
    refine HL.one (H1.call0 (vs := [_, _]) rfl rfl (fun w' _ => rvalid27_fn o f w') ?_)
    rw [decide_eq_true hok]
    refine hwZC ?_
    refine HC.anyC (cellsA b12 [zv o, zv f, .string u] ++ []) rfl ?_
    refine HB.pa 0 rfl ?_
    refine HB.pa 1 rfl ?_
    refine HB.pa 2 rfl ?_ (POp.nilCheck rfl)
    refine HB.pa 3 rfl ?_
    refine HB.ldA (vs := [zv o, zv f, .string u]) 5 rfl rfl rfl (fun i v hv => cellsL (cellsA_mem hv)) ?_
    refine HB.all (by (exact Keep.blkA (b := b12) memD Keep.nil)) [4] (by kernel_rfl) rfl ⟨⟨_, rfl, ?_⟩, trivial⟩
    refine HP.one ?_
    refine H1.ldb (b := by_) rfl memA rfl rfl ?_
    apply HB.fold
    refine HB.all (by (exact Keep.blkA (b := b12) memD Keep.nil)) [6] (by kernel_rfl) rfl ⟨⟨_, rfl, ?_⟩, trivial⟩
    refine HP.one ?_
    refine H1.callz (α := Option Addr × Nat) (V := fun z => .slice z.1 (putPL l (o, f) u).length z.2) (Hn := fun z => [A.grow 134 3 z.1 z.2 (putPL l (o, f) u).length (piecs (putPL l (o, f) u))]) (I := fun _ => True) (vs := [_, .agg [zv o, zv f, .string u].toArray]) rfl rfl (fun w' hM => rput_fn (o, f) u _ l (by omega) w' (hM.grC (e := 134) memA)) ?_
    rintro ⟨la2, lc2⟩ -
    dsimp only
    apply HB.fold
    refine HB.pa 7 rfl ?_ (POp.nilCheck rfl)
    refine HB.pa 8 rfl ?_
    refine HB.all (by (exact Keep.blkA (b := b12) memD Keep.nil)) [9] (by kernel_rfl) rfl ⟨⟨_, rfl, ?_⟩, trivial⟩
    refine HP.one ?_
    refine H1.st (b := by_) rfl rfl (by intro _ h; cases h) (by intro _ h; cases h) rplA (by show 1 < 2; decide) ?_
    apply HB.fold
    refine HB.done (by (exact Keep.blkA (b := b12) memD Keep.nil)) (by kernel_rfl) ?_
    refine hwZC ?_
    exact HX.cut (putPL l (o, f) u, la2, lc2) (hS.put hnd (o, f) u) ⟨rfl, rfl, rfl, rfl, rfl, by rw [decide_eq_true hrz2]; rfl, trivial⟩ (Hs.cons (Pick.there (Pick.there Pick.here)) (Hs.cons (Pick.there (Pick.there Pick.here)) (Hs.cons Pick.here (Hs.refl _).skip.skip)))
  · have h1' : ((sb s 0 : Nat) : Int) = 100 := by omega
    have h1n : ¬ ((sb s 0 : Nat) : Int) = 115 := by omega
    have hdl2 := (hS.drop (unz z)).perm.length_eq
    have hpos : (0 : Int) < (l.length : Int) - ((dropM l (unz z)).length : Int) := by omega
    rw [decide_eq_true hok]
    generalize unz z = o at hok hr2 hnd2 hml2 hF4 hdl hdl2 hpos ⊢
    refine hwZC ?_
    refine HL.one (H1.callz (α := Option Addr × Nat) (V := fun z => .tuple #[.slice z.1 (dropM l o).length z.2, zv ((l.length : Int) - ((dropM l o).length : Int))]) (Hn := fun z => [A.grow 134 3 z.1 z.2 (dropM l o).length (piecs (dropM l o))]) (I := fun _ => True) (vs := [_, zv o]) rfl rfl (fun w' hM => rdrop27_fn o _ l (by omega) w' (hM.grC (e := 134) memA)) ?_)
    rintro ⟨la2, lc2⟩ -
    dsimp only
    refine hwZC ?_
    refine HL.one (H1.st (b := by_) rfl rfl (by intro _ h; cases h) (by intro _ h; cases h) rplA (by show 1 < 2; decide) ?_)
    refine hwZC ?_
    exact HX.cut (dropM l o, la2, lc2) (hS.drop o) ⟨rfl, rfl, rfl, rfl, rfl, by rw [decide_eq_true hpos]; rfl, trivial⟩ (Hs.cons (Pick.there Pick.here) (Hs.cons (Pick.there Pick.here) (Hs.cons Pick.here (Hs.refl _).skip)))
end Go.Sx
/- slices.Sort and slices.Compact at numbers. -/
namespace Go.Sx
open Go Go.Proofs Go.RowKit
def srtI (l : List Int) : List Int := l.mergeSort fun x y => decide (x ≤ y)
theorem srtI_perm (l : List Int) : (srtI l).Perm l := List.mergeSort_perm _ _
theorem srtI_len (l : List Int) : (srtI l).length = l.length := (srtI_perm l).length_eq
theorem srtI_pw (l : List Int) : (srtI l).Pairwise (· ≤ ·) := by
  have := List.pairwise_mergeSort (le := fun x y : Int => decide (x ≤ y)) (by intro a b c; simp only [decide_eq_true_eq]; omega) (by intro a b; simp only [Bool.or_eq_true, decide_eq_true_eq]; omega) l
  exact this.imp fun h => by simpa using h
/-- The numbers, ascending, each once. -/
def numL (l : List Int) : List Int := Lib.compact (srtI l)
theorem compact_mem {m : List Int} (x : Int) : x ∈ Lib.compact m ↔ x ∈ m := by
  unfold Lib.compact Lib.compactUpTo
  rw [List.mem_map]
  constructor
  · rintro ⟨j, hj, rfl⟩
    have hlt := List.mem_range.1 (List.mem_filter.1 hj).1
    simp [hlt]
  · intro h
    obtain ⟨i, hi, hx⟩ := List.getElem_of_mem h
    suffices H : ∀ n i (hi : i < m.length), i ≤ n → m[i] = x → ∃ j, j ∈ (List.range m.length).filter (Lib.keeps m.toArray) ∧ m.toArray[j]! = x from H i i hi (Nat.le_refl _) hx
    intro n
    induction n with
    | zero =>
      intro i hi h0 hx
      obtain rfl : i = 0 := by omega
      exact ⟨0, List.mem_filter.2 ⟨List.mem_range.2 hi, by unfold Lib.keeps; simp⟩, by simp [hi, hx]⟩
    | succ n ih =>
      intro i hi hn hx
      by_cases hk : Lib.keeps m.toArray i = true
      · exact ⟨i, List.mem_filter.2 ⟨List.mem_range.2 hi, hk⟩, by simp [hi, hx]⟩
      · unfold Lib.keeps at hk
        rw [decide_eq_true_eq, not_or, Decidable.not_not] at hk
        have hi1 : i - 1 < m.length := by omega
        refine ih (i - 1) hi1 (by omega) ?_
        have := hk.2
        simp [hi, hi1] at this
        rw [← this]; exact hx
theorem compact_lt {m : List Int} (h : m.Pairwise (· ≤ ·)) : (Lib.compact m).Pairwise (· < ·) := by
  unfold Lib.compact Lib.compactUpTo
  rw [List.pairwise_map]
  refine ((List.pairwise_lt_range (n := m.length)).filter (Lib.keeps m.toArray)).imp_of_mem fun {i j} hi hj hij => ?_
  have hi1 := List.mem_range.1 (List.mem_filter.1 hi).1
  have hj1 := List.mem_filter.1 hj
  have hj2 := List.mem_range.1 hj1.1
  have hk := hj1.2
  unfold Lib.keeps at hk
  rw [decide_eq_true_eq] at hk
  have hj3 : j - 1 < m.length := by omega
  have hne : m[j] ≠ m[j - 1] := by
    rcases hk with hk | hk
    · omega
    · simpa [hj2, hj3] using hk
  have h1 := List.pairwise_iff_getElem.1 h (j - 1) j hj3 hj2 (by omega)
  have h2 : m[i] ≤ m[j - 1] := by
    by_cases e : i = j - 1
    · subst e; exact Int.le_refl _
    · exact List.pairwise_iff_getElem.1 h i (j - 1) hi1 hj3 (by omega)
  simp only [List.getElem!_toArray, List.getElem!_eq_getElem?_getD, List.getElem?_eq_getElem hi1, List.getElem?_eq_getElem hj2, Option.getD_some]
  omega
theorem mem_numL {l : List Int} {x : Int} : x ∈ numL l ↔ x ∈ l := by unfold numL; rw [compact_mem, (srtI_perm l).mem_iff]
theorem numL_lt (l : List Int) : (numL l).Pairwise (· < ·) := compact_lt (srtI_pw l)
theorem numL_len (l : List Int) : (numL l).length ≤ l.length := by
  rw [← srtI_len l]
  exact Lib.compact_length_le _
theorem putCells_take (ys : List Int) (cur : Array Value) (h : ys.length ≤ cur.size) : (Go.Sort.putCells (Value.int .i64) 0 ys.toArray cur).toList.take ys.length = ints ys := by
  apply List.ext_getElem?
  intro i
  rw [List.getElem?_take]
  by_cases hi : i < ys.length
  · rw [if_pos hi, ints_get hi]
    have hi2 : i < cur.size := by omega
    simp [Go.Sort.putCells, hi2, at', zv, hi]
  · rw [if_neg hi, List.getElem?_eq_none (by rw [ints_len]; omega)]
theorem sortI_fn {w0 w : World} {H H' : List Atom} {a : Option Addr} {c : Nat} {l : List Int} (hM : Mm w0 H w) (hr : Rpl (A.grow 3 1 a c l.length (ints l)) (A.grow 3 1 a c l.length (ints (srtI l))) H H') (hl : l.length ≤ 1000000) :
    Fn Tryz.prog 126 #[.slice a l.length c] w fun v w' => v = .tuple #[] ∧ Mm w0 H' w' := by
  by_cases h0 : l = []
  · subst h0
    refine Calls.mono (Tryz.slices_Sort_int_none a c w) ?_
    rintro e w' ⟨rfl, rfl⟩
    have hs : srtI [] = [] := by simp [srtI]
    rw [hs] at hr
    exact ⟨_, rfl, rfl, Rpl.same hr ▸ hM⟩
  have hne : l.length ≠ 0 := fun e => h0 (List.eq_nil_of_length_eq_zero e)
  have hown := hM.own hr.mem
  obtain ⟨b, cur, rfl, hg, hnc, hcm, hcs⟩ : ∃ b cur, a = some ⟨b, 0, none⟩ ∧ w.heap[b]? = some (.cells cur 3 (0, 0)) ∧ l.length ≤ c ∧ c ≤ maxLen ∧ cur.size = c * 1 := by
    rcases hown.2 with ⟨-, h2⟩ | ⟨g, cap, cur, hv, -, hg, hnc, hcm, hcs, -⟩
    · exact absurd h2 hne
    · cases hv; exact ⟨g, cur, rfl, hg, hnc, hcm, hcs⟩
  have hlt := (Array.getElem?_eq_some_iff.1 hg).1
  have hcell : ∀ j, j < l.length → w.cell? ⟨b, j, none⟩ = some (zv (at' l j)) := fun j hj => ownsRow_cell hown (ints_get hj)
  refine Calls.mono (Tryz.slices_Sort_int b 0 c l w (fun j hj => ?_) hlt (by omega)) ?_
  · have hj' : j < l.length := by simpa using hj
    rw [Nat.zero_add, hcell j hj']
    refine ⟨?_, by simp [World.frozen?, hg]⟩
    simp [at', hj', zv, getElem!_pos]
  · rintro e w' ⟨rfl, n, os, rfl⟩
    have hs : (Go.Sort.putRow (Value.int .i64) (Go.Sort.ahead w n) b 0 (srtI l).toArray).heap.size = w.heap.size := by simp [Go.Sort.putRow, Go.Sort.mapBlock, Go.Sort.ahead]
    refine ⟨_, rfl, rfl, hM.turn hr rfl rfl rfl ?_ (fun k hk hkb => ?_) ?_ (by simp [A.grow, Value.ownBlock]) (fun b' hb' => .inl (by simpa [A.grow, Value.ownBlock] using hb'))⟩
    · simp [Go.Sort.grow, Go.Sort.putRow, Go.Sort.mapBlock, Go.Sort.ahead]
    · have hkb' : ¬ b = k := fun e => hkb (by subst e; simp [A.grow, Value.ownBlock])
      show ((Go.Sort.putRow (Value.int .i64) (Go.Sort.ahead w n) b 0 (srtI l).toArray).heap ++ os)[k]? = _
      rw [Array.getElem?_append, if_pos (by rw [hs]; exact hk)]
      show (w.heap.modify b _)[k]? = _
      rw [Array.getElem?_modify, if_neg hkb']
    · have hls := srtI_len l
      refine ⟨by simp [ints, hls], .inr ⟨b, c, Go.Sort.putCells (Value.int .i64) 0 (srtI l).toArray cur, rfl, Nat.zero_le _, ?_, hnc, hcm, by simp [Go.Sort.putCells, hcs], ?_⟩⟩
      · have hm : (Go.Sort.putRow (Value.int .i64) (Go.Sort.ahead w n) b 0 (srtI l).toArray).heap[b]? = some (.cells (Go.Sort.putCells (Value.int .i64) 0 (srtI l).toArray cur) 3 (0, 0)) := by
          simp [Go.Sort.putRow, Go.Sort.mapBlock, Go.Sort.ahead, Array.getElem?_modify, hg, Go.Sort.onCells]
        show (Go.Sort.grow (Go.Sort.putRow (Value.int .i64) (Go.Sort.ahead w n) b 0 (srtI l).toArray) os).heap[b]? = _
        rw [Go.Sort.grow]
        simp only [Array.getElem?_append]
        rw [if_pos (by rw [hs]; exact hlt), hm]
      · rw [Nat.mul_one, ← hls]
        exact putCells_take _ _ (by omega)
theorem compactI_fn {w0 w : World} {H H' : List Atom} {a : Option Addr} {c : Nat} {l : List Int} (hM : Mm w0 H w) (hr : Rpl (A.grow 3 1 a c l.length (ints l)) (A.grow 3 1 a c (Lib.compact l).length (ints (Lib.compact l))) H H') (hl : l.length ≤ 1000000) :
    Fn Tryz.prog 72 #[.slice a l.length c] w fun v w' => v = .slice a (Lib.compact l).length c ∧ Mm w0 H' w' := by
  by_cases h0 : l = []
  · subst h0
    refine Calls.mono (Tryz.slices_Compact_int_empty a c w) ?_
    rintro e w' ⟨rfl, rfl⟩
    exact ⟨_, rfl, rfl, Rpl.same hr ▸ hM⟩
  have hne : l.length ≠ 0 := fun e => h0 (List.eq_nil_of_length_eq_zero e)
  have hown := hM.own hr.mem
  obtain ⟨b, cur, rfl, hg, hnc, hcm, hcs⟩ : ∃ b cur, a = some ⟨b, 0, none⟩ ∧ w.heap[b]? = some (.cells cur 3 (0, 0)) ∧ l.length ≤ c ∧ c ≤ maxLen ∧ cur.size = c * 1 := by
    rcases hown.2 with ⟨-, h2⟩ | ⟨g, cap, cur, hv, -, hg, hnc, hcm, hcs, -⟩
    · exact absurd h2 hne
    · cases hv; exact ⟨g, cur, rfl, hg, hnc, hcm, hcs⟩
  have hlt := (Array.getElem?_eq_some_iff.1 hg).1
  have hcell : ∀ j, j < l.length → w.cell? ⟨b, j, none⟩ = some (zv (at' l j)) := fun j hj => ownsRow_cell hown (ints_get hj)
  have hle : (Lib.compact l).length ≤ l.length := Lib.compact_length_le l
  refine Calls.mono (Tryz.slices_Compact_int b 0 c l w (fun j hj => ?_) (by omega) hnc) ?_
  · have hj' : j < l.length := by simpa using hj
    rw [Nat.zero_add, hcell j hj']
    refine ⟨?_, by simp [World.frozen?, hg]⟩
    simp [at', hj', zv, getElem!_pos]
  · rintro e w' ⟨rfl, q, rfl⟩
    obtain ⟨ys, hys⟩ : ∃ ys, ys = Lib.compact l ++ List.replicate (l.length - (Lib.compact l).length) 0 := ⟨_, rfl⟩
    have hyl : ys.length = l.length := by rw [hys, List.length_append, List.length_replicate]; omega
    rw [← hys]
    refine ⟨_, rfl, rfl, hM.turn hr rfl rfl rfl (by simp [Go.Sort.putRow, Go.Sort.mapBlock, Go.Sort.ahead]) (fun k hk hkb => ?_) ?_ (by simp [A.grow, Value.ownBlock]) (fun b' hb' => .inl (by simpa [A.grow, Value.ownBlock] using hb'))⟩
    · have hkb' : ¬ b = k := fun e => hkb (by subst e; simp [A.grow, Value.ownBlock])
      show (w.heap.modify b _)[k]? = _
      rw [Array.getElem?_modify, if_neg hkb']
    · refine ⟨by simp [ints], .inr ⟨b, c, Go.Sort.putCells (Value.int .i64) 0 ys.toArray cur, rfl, Nat.zero_le _, ?_, by omega, hcm, by simp [Go.Sort.putCells, hcs], ?_⟩⟩
      · simp [Go.Sort.putRow, Go.Sort.mapBlock, Go.Sort.ahead, Array.getElem?_modify, hg, Go.Sort.onCells]
      · have h1 := putCells_take ys cur (by omega)
        have h2 : (Go.Sort.putCells (Value.int .i64) 0 ys.toArray cur).toList.take ((Lib.compact l).length * 1) = ((Go.Sort.putCells (Value.int .i64) 0 ys.toArray cur).toList.take ys.length).take (Lib.compact l).length := by
          rw [List.take_take, Nat.mul_one, Nat.min_eq_left (by omega)]
        rw [h2, h1, hys, ints_app, ← ints_len (Lib.compact l), List.take_left]
end Go.Sx

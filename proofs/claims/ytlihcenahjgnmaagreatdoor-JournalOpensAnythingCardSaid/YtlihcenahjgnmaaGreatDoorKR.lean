/- Plain, chapter 26: what holds of a journal, whatever happens to its disk. -/
import Derived.Test.YtlihcenahjgnmaaGreatDoorKM
import Derived.Test.YtlihcenahjgnmaaGreatDoorJB
import Derived.Test.YtlihcenahjgnmaaGreatDoorKQ
import Derived.Test.YtlihcenahjgnmaaGreatDoorJM
namespace Go.Sx
open Go
theorem hwKR {G G2 : Prop} (x : G2) (hwq : Hold G2 → G := by
    intro hQq
    repeat' (first | refine HL.pa ?_ (POp.nilCheck rfl) | apply HL.fold | apply HA.fold | apply HL.nil | apply HX.n_then | apply HC.seq | apply HC.region | refine HL.pa ?_ | refine HL.ga rfl ?_ | refine HL.na rfl ?_ | refine HL.nu rfl rfl ?_ | apply HC.block | apply HC.skip | apply HC.exit | apply HC.ret | apply HX.e_block | refine HX.e_other rfl ?_ | apply HX.e_then | apply HX.e_again | apply HX.n_block | apply HX.r_then | apply HX.r_block | apply HX.r_again | refine HC.cond_yes rfl ?_ | refine HC.cond_no rfl ?_ | refine HL.one (H1.ldb rfl memA rfl rfl ?_) | refine HC.cond rfl (fun hc => ?_) (fun hc => ?_) | refine HC.cond_b rfl (fun hc => ?_) (fun hc => ?_))
    exact hQq.get) : G := hwq ⟨x⟩
theorem hbKR {G G2 : Prop} (x : G2) (hwq : Hold G2 → G := by
    intro hQq
    repeat' (first | refine HL.pa ?_ (POp.nilCheck rfl) | apply HL.fold | apply HA.fold | apply HL.nil | apply HX.n_then | apply HC.seq | apply HC.region | refine HL.pa ?_ | refine HL.ga rfl ?_ | refine HL.na rfl ?_ | refine HL.nu rfl rfl ?_ | apply HC.skip | apply HC.exit | apply HC.ret | apply HX.e_block | refine HX.e_other rfl ?_ | apply HX.e_then | apply HX.e_again | apply HX.n_block | apply HX.r_then | apply HX.r_block | apply HX.r_again | refine HC.cond_yes rfl ?_ | refine HC.cond_no rfl ?_ | refine HL.one (H1.ldb rfl memA rfl rfl ?_) | refine HC.cond rfl (fun hc => ?_) (fun hc => ?_) | refine HC.cond_b rfl (fun hc => ?_) (fun hc => ?_))
    exact hQq.get) : G := hwq ⟨x⟩
theorem Dk.Fit.write {k : Dk} (h : k.Fit) (off : Nat) (s : ByteArray) : (k.write off s).2.Fit := by
  unfold Dk.write
  split
  · exact h
  · split
    · rename_i h1
      intro x hx
      obtain ⟨q1, -, q3⟩ := put_parts k off s
      have hx' : x ∈ (k.put off s).pend := hx
      rw [q3] at hx'
      show x.1 + x.2.size ≤ (k.put off s).dur.length
      rw [q1]
      rcases List.mem_append.1 hx' with hx' | hx'
      · exact h x hx'
      · rcases List.mem_cons.1 hx' with rfl | hx'
        · exact h1
        · cases hx'
    · exact h
theorem Dk.Fit.sync {k : Dk} (h : k.Fit) : k.sync.2.Fit := by
  unfold Dk.sync
  split
  · exact h
  · intro x hx; cases hx
theorem Dk.Fit.cut {k : Dk} (h : k.Fit) (n : Nat) : (k.cut n).2.Fit := by
  unfold Dk.cut
  split
  · exact h
  · exact h
theorem Dk.Fit.run {k : Dk} (h : k.Fit) (o : DOp) : (o.run k).2.Fit := by
  cases o with
  | wr off s => exact h.write off s
  | sy => exact h.sync
theorem Dk.Vis.run {k : Dk} (h : k.Vis) (o : DOp) : (o.run k).2.Vis := by
  cases o with
  | wr off s => exact h.write off s
  | sy => exact h.sync
theorem Dk.Fit.runOps : ∀ (l : List DOp) {k : Dk}, k.Fit → (runOps l k).2.Fit
  | [], k, h => h
  | o :: l, k, h => by
    by_cases h0 : (o.run k).1 = 0
    · rw [runOps_ok h0]; exact Dk.Fit.runOps l (h.run o)
    · rw [runOps_no h0]; exact h.run o
theorem Dk.Fit.crash (k : Dk) (keep : List Int) (torn : Int) : (k.crash keep torn).Fit := fun x hx => by cases hx
theorem cut_len (k : Dk) (n : Nat) : (k.cut n).2.dur = k.dur ∧ (k.cut n).2.vis = k.vis ∧ (k.cut n).2.pend = k.pend ∧ ((k.cut n).2.left = k.left ∨ (k.cut n).2.left = n) := by
  unfold Dk.cut
  split
  · exact ⟨rfl, rfl, rfl, .inl rfl⟩
  · exact ⟨rfl, rfl, rfl, .inr rfl⟩
theorem cut_ok3 {k : Dk} (hk : k.Ok) (n : Nat) (hn : n ≤ 1000000) : (k.cut n).2.Ok := by
  obtain ⟨h1, h2, h3, h4⟩ := cut_len k n
  have hl := hk.left
  exact ⟨by rw [h1, h2]; exact hk.len, by rw [h1]; exact hk.lo, by rw [h1]; exact hk.hi, by omega, by rw [h3]; exact hk.pend⟩
theorem runOps_one (o : DOp) (k : Dk) : runOps [o] k = o.run k := by
  by_cases h : (o.run k).1 = 0
  · rw [runOps_ok h]
    show (0, (o.run k).2) = _
    rw [← h]
  · rw [runOps_no h]
/-- What holds of what is kept, and stays with every record, holds of all that is read. -/
theorem loadF_inv {P : Tp → Prop} (step : ∀ t r, P t → r.size ≤ 65536 → P (t.add r)) : ∀ (n : Nat) {s : List UInt8} {t t' : Tp}, s.length - t.size ≤ n → P t → loadF s t = some t' → P t'
  | n, s, t, t', hn, hP, h => by
    by_cases h1 : t.size < s.length ∧ s.getD t.size 0 ≠ 0
    · by_cases h2 : s.getD t.size 0 = 1
      · cases hd : decS s (t.size + 1) with
        | none => rw [loadF_none h1 hd] at h; cases h
        | some x =>
          obtain ⟨r, q⟩ := x
          by_cases h3 : q + 32 ≤ s.length ∧ outL t.head (mkBA r) = (s.drop t.size).take (q + 32 - t.size)
          · rw [loadF_step h1 h2 hd h3] at h
            have hol := outL_pos t.head (mkBA r)
            have hrs : (mkBA r).size = r.length := by show r.toArray.size = _; rw [List.size_toArray]
            have hP2 := step t (mkBA r) hP (by rw [hrs]; exact (decS_le hd).2.2)
            match n, hn with
            | 0, hn => omega
            | n + 1, hn => exact loadF_inv step n (by show s.length - (t.size + (outL t.head (mkBA r)).length) ≤ n; omega) hP2 h
          · rw [loadF_no h1 hd h3] at h; cases h
      · rw [loadF_bad h1 h2] at h; cases h
    · rw [loadF_end h1] at h
      injection h with h; subst h; exact hP
theorem adds_inv {P : Tp → Prop} (step : ∀ t r, P t → r.size ≤ 65536 → P (t.add r)) : ∀ (l : List ByteArray) {t : Tp}, (∀ r ∈ l, r.size ≤ 65536) → P t → P (adds t l)
  | [], _, _, h => h
  | r :: l, _, hs, h => adds_inv step l (fun x hx => hs x (List.mem_cons_of_mem _ hx)) (step _ r h (hs r (List.mem_cons_self ..)))
/-- What is kept is what its records say. -/
structure TpOk (t : Tp) : Prop where
  adds : t = Go.Sx.adds t00 t.recs
  len : 33 * t.recs.length ≤ t.size
  sz : ∀ r ∈ t.recs, r.size ≤ 65536
theorem tpOk0 : TpOk t00 := ⟨rfl, Nat.le_refl _, fun _ h => by cases h⟩
theorem TpOk.step (t : Tp) (r : ByteArray) (h : TpOk t) (hr : r.size ≤ 65536) : TpOk (t.add r) := by
  have hrs : (t.add r).recs = t.recs ++ [r] := rfl
  refine ⟨?_, ?_, ?_⟩
  · rw [hrs, adds_snoc, ← h.adds]
  · have h1 := h.len
    have h2 := outL_len t.head r
    rw [hrs, List.length_append]
    show 33 * (t.recs.length + 1) ≤ t.size + (outL t.head r).length
    omega
  · intro x hx
    rw [hrs] at hx
    rcases List.mem_append.1 hx with hx | hx
    · exact h.sz x hx
    · rcases List.mem_cons.1 hx with rfl | hx
      · exact hr
      · cases hx
theorem TpOk.head {t : Tp} (h : TpOk t) : t.head.size ≤ 32 := by rw [h.adds]; exact adds_head _ _ (Nat.le_refl _)
/-- What holds of a journal, or of its absence, on a disk. -/
structure JInv (N p : Nat) (k : Dk) (o : Option (Tp × Bool)) : Prop where
  ok : k.Ok
  fit : k.Fit
  vis : k.Vis
  len : k.dur.length = N
  pend : k.pend.length ≤ p
  t : ∀ t br, o = some (t, br) → TpOk t ∧ t.size ≤ N
theorem JInv.jok {N p : Nat} {k : Dk} {t : Tp} {br : Bool} (h : JInv N p k (some (t, br))) (hN : N ≤ 100000) (hp : p ≤ 9000) : JOk ⟨t, k, br⟩ := by
  obtain ⟨h1, h2⟩ := h.t t br rfl
  have h3 := h.pend
  have h4 := h1.len
  exact ⟨h.ok, by show k.pend.length ≤ _; omega, by show t.size ≤ k.dur.length; rw [h.len]; exact h2, by show t.recs.length ≤ _; omega, h1.head⟩
theorem JInv.cut {N p : Nat} {k : Dk} {o : Option (Tp × Bool)} (h : JInv N p k o) (n : Nat) (hn : n ≤ 1000000) : JInv N (p + 4) (k.cut n).2 o := by
  obtain ⟨h1, -, h3, -⟩ := cut_len k n
  exact ⟨cut_ok3 h.ok n hn, h.fit.cut n, h.vis.cut n, by rw [h1]; exact h.len, by rw [h3]; exact Nat.le_add_right_of_le h.pend, h.t⟩
theorem JInv.crash {N p : Nat} {k : Dk} {o : Option (Tp × Bool)} (h : JInv N p k o) (keep : List Int) (torn : Int) : JInv N p (k.crash keep torn) none :=
  ⟨crash_ok h.ok h.fit keep torn, Dk.Fit.crash k keep torn, crash_vis k keep torn, by rw [crash_len h.fit]; exact h.len, Nat.zero_le _, fun _ _ e => by cases e⟩
theorem JInv.runs {N p : Nat} {k : Dk} {o : Option (Tp × Bool)} (h : JInv N p k o) (l : List DOp) (hl : l.length ≤ 4) (hp : p ≤ 9000) : JInv N (p + 4) (runOps l k).2 o := by
  obtain ⟨h1, h2, h3, h4⟩ := runOps_len l k h.ok.len
  have h5 := h.pend
  exact ⟨runOps_okk h.ok (by omega), Dk.Fit.runOps l h.fit, Dk.Vis.runOps l h.vis, by rw [h2]; exact h.len, by omega, h.t⟩
theorem JInv.more {N p : Nat} {k : Dk} {o : Option (Tp × Bool)} (h : JInv N p k o) : JInv N (p + 4) k o := ⟨h.ok, h.fit, h.vis, h.len, Nat.le_add_right_of_le h.pend, h.t⟩
theorem JInv.put {N p : Nat} {k : Dk} {o o' : Option (Tp × Bool)} (h : JInv N p k o) (ht : ∀ t br, o' = some (t, br) → TpOk t ∧ t.size ≤ N) : JInv N p k o' := ⟨h.ok, h.fit, h.vis, h.len, h.pend, ht⟩
/-- A group is appended. -/
theorem JInv.app {N p : Nat} {k : Dk} {t : Tp} {br : Bool} (h : JInv N p k (some (t, br))) (hp : p ≤ 9000) (l : List ByteArray) (hl : l.any isLong = false) :
    ∃ (e : Int) (j2 : Jn), (⟨t, k, br⟩ : Jn).append l = (e, j2) ∧ JInv N (p + 4) j2.k (some (j2.t, j2.br)) := by
  obtain ⟨h1, h2⟩ := h.t t br rfl
  by_cases hb : (⟨t, k, br⟩ : Jn).br = true ∨ l.any isLong = true
  · exact ⟨_, _, append_br hb, h.more⟩
  by_cases hf : ((⟨t, k, br⟩ : Jn).k.dur.length : Int) - ((⟨t, k, br⟩ : Jn).t.size : Int) < ((outsL (⟨t, k, br⟩ : Jn).t.head l).length : Int)
  · exact ⟨_, _, append_full hb hf, h.more⟩
  by_cases hn : outsL (⟨t, k, br⟩ : Jn).t.head l = []
  · exact ⟨_, _, append_nil hb hf hn, h.more⟩
  have hr := h.runs (grp t (outsL t.head l)) (Nat.le_refl _) hp
  by_cases he : (runOps (grp t (outsL t.head l)) k).1 = 0
  · refine ⟨_, _, append_ok hb hf hn he, hr.put fun t' br' e => ?_⟩
    cases e
    have hlen := h.len
    have hsz := adds_size l t
    have hf' : ¬ (k.dur.length : Int) - (t.size : Int) < ((outsL t.head l).length : Int) := hf
    refine ⟨adds_inv TpOk.step l (fun r hr => ?_) h1, by show (adds t l).size ≤ N; omega⟩
    have := List.any_eq_false.1 hl r hr
    unfold isLong at this
    simpa using this
  · refine ⟨_, _, append_no hb hf hn he, hr.put fun t' br' e => ?_⟩
    cases e
    exact ⟨h1, h2⟩
/-- Open: what comes of it. -/
theorem JInv.opens {N p : Nat} {k : Dk} {o : Option (Tp × Bool)} (h : JInv N p k o) (hp : p ≤ 9000) :
    (∃ t k', openF k = (0, k', some t) ∧ JInv N (p + 4) k' (some (t, false))) ∨ (∃ e k', openF k = (e, k', none) ∧ e ≠ 0 ∧ JInv N (p + 4) k' none) := by
  have hno : JInv N p k none := h.put fun _ _ e => by cases e
  cases ho : k.off
  rotate_left
  · exact .inr ⟨251, k, openF_off ho, by decide, hno.more⟩
  cases hF : loadF k.vis t00 with
  | none => exact .inr ⟨262, k, openF_bad ho hF, by decide, hno.more⟩
  | some t =>
    have ht := loadF_inv TpOk.step _ (Nat.le_refl _) tpOk0 hF
    have hts := loadF_le _ (Nat.le_refl _) (Nat.zero_le _) hF
    have hlen := h.len
    have hvl := h.ok.len
    have hput : ∀ t' br', some (t, false) = some (t', br') → TpOk t' ∧ t'.size ≤ N := fun t' br' e => by
      cases e
      exact ⟨ht, by omega⟩
    by_cases hz : isZero (k.vis.drop t.size) = true
    · exact .inl ⟨t, k, openF_zero ho hF hz, (h.put hput).more⟩
    have hr := hno.runs (clr k t) (by show 2 ≤ 4; decide) hp
    by_cases he : (runOps (clr k t) k).1 = 0
    · exact .inl ⟨t, _, openF_clr ho hF hz he, hr.put hput⟩
    · exact .inr ⟨_, _, openF_no ho hF hz he, he, hr⟩
theorem jinv0 {N : Nat} (h1 : 1 ≤ N) (h2 : N ≤ 4194304) : JInv N 0 (newK N) none := by
  have h0 := clean0 (n := N) h1 h2
  exact ⟨h0.ok, fun x hx => (by have h2 : (newK N).pend = [] := h0.pend; rw [h2] at hx; cases hx), newK_vis N, by rw [h0.dur, h0.len], by rw [h0.pend]; exact Nat.le_refl _, fun _ _ e => by cases e⟩
end Go.Sx
/- Chapter 26: the reference's journal: the walks. -/
namespace Go.Sx
open Go Go.Proofs Go.RowKit
/-- The cells of the reference's journal. -/
def rjC (bf : Nat) (ja : Option Addr) (jc : Nat) (t : Tp) (br : Bool) : List Value := [.pointer (some ⟨bf, 0, none⟩), .slice ja t.recs.length jc, zv (t.size : Int), .bool br]
abbrev rjH (bk bf : Nat) (ja : Option Addr) (jc : Nat) (sa : Option Addr) (sc : Nat) (la : Option Addr) (lc : Nat) (t : Tp) (k : Dk) (br : Bool) (H : List Atom) : List Atom :=
  A.blk bk (rjC bf ja jc t br) 43 :: A.grow 9 1 ja jc t.recs.length (strs t.recs) :: rfH bf sa sc la lc k H
attribute [local irreducible] WC WL WX POp Then Again Fn NX W1 WA WO QL RP RA Yld LoopAt HC HL HX HN H1 HA HO HQ HB HP A.blk A.grow A.rd A.obj A.mp AgainH CutH
attribute [local irreducible] sumS chainS
theorem stored_fn (h r : ByteArray) (hh : h.size ≤ 32) (hr : r.size ≤ 65536) (w : World) : Fn Tryz.prog 44 #[.string h, .string r] w fun v w' => v = .tuple #[.string (outB h r), .string (chainS h r)] ∧ Ext w w' := by
  have hz := strN_size (n := r.size) (by omega)
  have hc32 := chainS_size h r
  have hm1 : (mkB 1).size = 1 := rfl
  have ha1 := ba_append_size (strN r.size) r
  have ha2 := ba_append_size (mkB 1) (strN r.size ++ r)
  have hoe := outB_eq h r
  refine enterH (l := [_, _]) rfl Tryz.ntmps44 rfl ?_
  refine hwKR ?_
  refine HL.one (H1.callx (vs := [_, _]) rfl rfl (fun w' _ => refChain_fn h r (by omega) w') ?_)
  refine hwKR ?_
  refine HL.one (H1.callx (vs := [_]) rfl rfl (fun w' _ => refPutString_fn r hr w') ?_)
  refine hwKR ?_
  refine HL.pa ?_ (POp.cat (s := mkB 1) (u := strN r.size ++ r) rfl rfl (by omega))
  refine hwKR ?_
  exact HX.ret2 rfl rfl rfl fun w' hM => ⟨by rw [← hoe], hM.ext⟩
theorem rroom_fn {w0 w : World} {H : List Atom} {bk bf jc sc lc : Nat} {ja sa la : Option Addr} {t : Tp} {k : Dk} {br : Bool} (hM : Mm w0 (rjH bk bf ja jc sa sc la lc t k br H) w) (hk : k.Ok) (ht : t.size ≤ k.dur.length) :
    Fn Tryz.prog 21 #[.pointer (some ⟨bk, 0, none⟩)] w fun v w' => ∃ _ : Unit, True ∧ v = zv ((k.dur.length : Int) - (t.size : Int)) ∧ Mm w0 (rjH bk bf ja jc sa sc la lc t k br H) w' := by
  have hhi := hk.hi
  refine enterK (l := [_]) hM rfl Tryz.ntmps21 rfl ?_
  refine hwKR ?_
  refine HC.anyC ([(⟨bk, 0, none⟩, .pointer (some ⟨bf, 0, none⟩)), (⟨bf, 0, none⟩, .slice sa k.dur.length sc), (⟨bk, 2, none⟩, zv (t.size : Int))]) rfl ?_
  refine HB.pa 0 rfl ?_
  refine HB.pa 1 rfl ?_ (POp.nilCheck rfl)
  refine HB.pa 2 rfl ?_
  refine HB.ld 3 rfl rfl memD ?_
  refine HB.pa 4 rfl ?_ (POp.nilCheck rfl)
  refine HB.pa 5 rfl ?_
  refine HB.ld 6 rfl rfl memD ?_
  refine HB.pa 7 rfl ?_
  refine HB.pa 8 rfl ?_
  refine HB.pa 9 rfl ?_ (POp.nilCheck rfl)
  refine HB.pa 10 rfl ?_
  refine HB.ld 11 rfl rfl memD ?_
  refine HB.pa 12 rfl ?_
  refine HB.pa 13 rfl ?_
  refine HB.done (by (exact Keep.blk (b := bk) memD rfl (Keep.blk (b := bf) memD rfl (Keep.blk (b := bk) memD rfl Keep.nil)))) (by kernel_rfl) ?_
  refine hwKR ?_
  exact HX.ret1 rfl rfl fun w' hM => ⟨(), trivial, rfl, hM⟩
/-- Open: what comes of it. -/
def ropenP (w0 : World) (bf : Nat) (H : List Atom) : Int × Dk × Option Tp → Value → World → Prop
  | (e, k', some t), v, w' => ∃ z : Nat × (Option Addr × Nat) × (Option Addr × Nat) × (Option Addr × Nat), v = .tuple #[.pointer (some ⟨z.1, 0, none⟩), zv e] ∧ Mm w0 (rjH z.1 bf z.2.1.1 z.2.1.2 z.2.2.1.1 z.2.2.1.2 z.2.2.2.1 z.2.2.2.2 t k' false H) w'
  | (e, k', none), v, w' => ∃ q : (Option Addr × Nat) × (Option Addr × Nat), v = .tuple #[.pointer none, zv e] ∧ Mm w0 (rfH bf q.1.1 q.1.2 q.2.1 q.2.2 k' H) w'
theorem isZero_iff {l : List UInt8} {s : ByteArray} (h : s.data.toList = l) : isZero l = true ↔ s = mkBA (List.replicate l.length 0) := by
  constructor
  · intro hz
    exact ba_ext (by rw [h]; exact isZero_rep hz)
  · intro e
    rw [← h, e]
    exact rep_isZero _
set_option maxHeartbeats 4000000 in
theorem ropen_fn {w0 w : World} {H : List Atom} {bf sc lc : Nat} {sa la : Option Addr} {k : Dk} (hM : Mm w0 (rfH bf sa sc la lc k H) w) (hk : k.Ok) (hf : k.Fit) (hv : k.Vis) (hp : k.pend.length ≤ 9000) (hN : k.dur.length ≤ 100000) :
    Fn Tryz.prog 50 #[.pointer (some ⟨bf, 0, none⟩)] w fun v w' => ropenP w0 bf H (openF k) v w' := by
  have hlo := hk.lo
  have hlen := hk.len
  have hms : (mkBA k.vis).size = k.vis.length := by show k.vis.toArray.size = _; rw [List.size_toArray]
  refine enterK (l := [_]) hM rfl Tryz.ntmps50 rfl ?_
  cases hoff : k.off
  rotate_left
  · have hop : openF k = (251, k, none) := by unfold openF; rw [if_pos hoff]
    rw [hop]
    refine hwKR ?_
    refine HL.one (H1.callk (α := Unit) (V := fun _ => .tuple #[.string (mkBA []), zv 251]) (I := fun _ => True) (H' := fun _ => rfH bf sa sc la lc k H) (vs := [_, zv 0, _]) rfl rfl (fun w' hM => by
      have := rread_fn hM hk hf hv hN
      rw [hoff] at this
      exact this) ?_)
    rintro - -
    refine hwKR ?_
    exact HX.ret2 rfl rfl rfl fun w' hM => ⟨((sa, sc), (la, lc)), rfl, hM⟩
  refine hwKR ?_
  refine HL.one (H1.callk (α := Unit) (V := fun _ => .tuple #[.string (mkBA k.vis), zv 0]) (I := fun _ => True) (H' := fun _ => rfH bf sa sc la lc k H) (vs := [_, zv 0, _]) rfl rfl (fun w' hM => by
    have := rread_fn hM hk hf hv hN
    rw [hoff] at this
    exact this) ?_)
  rintro - -
  refine hwKR ?_
  refine HL.build (cs := [.pointer (some ⟨bf, 0, none⟩), .slice none 0 0, zv 0, .bool false]) rfl rfl rfl ?_
  refine hwKR ?_
  refine HL.one (H1.boxAgg (cs := [.pointer (some ⟨bf, 0, none⟩), .slice none 0 0, zv 0, .bool false]) rfl rfl (fun bk => ?_))
  refine hwKR ?_
  refine HL.one (H1.callx (u := .string zero32) (vs := [.slice none 0 0]) rfl rfl (fun w' _ => refHead_fn (.slice none 0 0) [] (fun _ h => by cases h) (Nat.zero_le _) w' ⟨none, 0, rfl, Nat.le_refl _, .inl rfl⟩) ?_)
  refine hbKR ?_
  refine HC.grow0 9 1 ?_
  have hls : ∀ (m : Nat) (x : List UInt8), (mkBA x).data.toList = x := fun _ _ => rfl
  repeat refine HC.seq ?_
  refine HC.cut (α := Tp × (Option Addr × Nat)) (fun z => [(0, .pointer (some ⟨bf, 0, none⟩)), (4, zv (k.dur.length : Int)), (5, .string (mkBA k.vis)), (7, .pointer (some ⟨bk, 0, none⟩))])
    (fun z => rjH bk bf z.2.1 z.2.2 sa sc la lc z.1 k false H) (fun z => loadF k.vis t00 = some z.1 ∧ z.1.size ≤ k.vis.length) ?_ ?_
  · refine HC.block ?_
    refine HC.loop (α := Tp × (Option Addr × Nat)) (fun z => [(0, .pointer (some ⟨bf, 0, none⟩)), (4, zv (k.dur.length : Int)), (5, .string (mkBA k.vis)), (7, .pointer (some ⟨bk, 0, none⟩)), (8, .string z.1.head)])
      (fun z => rjH bk bf z.2.1 z.2.2 sa sc la lc z.1 k false H) (fun z => loadF k.vis z.1 = loadF k.vis t00 ∧ z.1.size ≤ k.vis.length ∧ z.1.head.size ≤ 32 ∧ z.1.recs.length ≤ z.1.size) (fun z => k.vis.length - z.1.size)
      (t00, (none, 0)) ⟨rfl, Nat.zero_le _, Nat.le_refl _, Nat.le_refl _⟩ esA (Hs.cons (Pick.there Pick.here) (Hs.cons Pick.here (Hs.refl _))) ?_
    rintro ⟨t, ⟨ja, jc⟩⟩ ⟨hload, hsz, hhd, hrc⟩
    dsimp only at hload hsz hhd hrc ⊢
    have hfin : ¬ (t.size < k.vis.length ∧ k.vis.getD t.size 0 ≠ 0) → loadF k.vis t00 = some t := fun h => by rw [← hload, loadF_end h]
    by_cases h1 : t.size < k.vis.length
    rotate_left
    · have h1' : ¬ (t.size : Int) < (k.dur.length : Int) := by omega
      refine hwKR ?_
      exact HX.cut (t, (ja, jc)) ⟨hfin (fun h => h1 h.1), hsz⟩ esA (Hs.refl _)
    have h1' : (t.size : Int) < (k.dur.length : Int) := by omega
    obtain ⟨b, hb⟩ : ∃ b, b = (k.vis.getD t.size 0).toNat := ⟨_, rfl⟩
    have hsb : sb (mkBA k.vis) t.size = b := hb.symm
    have hbl : b < 256 := by rw [hb]; exact UInt8.toNat_lt _
    by_cases h2 : b = 0
    · have h2' : k.vis.getD t.size 0 = 0 := UInt8.toNat_inj.1 (by rw [← hb, h2]; rfl)
      have h2i : (b : Int) = 0 := by omega
      refine hwKR ?_
      exact HX.cut (t, (ja, jc)) ⟨hfin (fun h => h.2 h2'), hsz⟩ esA (Hs.refl _)
    have h2' : k.vis.getD t.size 0 ≠ 0 := fun h => h2 (by rw [hb, h]; rfl)
    have h2i : ¬ (b : Int) = 0 := by omega
    have hne : t.size < k.vis.length ∧ k.vis.getD t.size 0 ≠ 0 := ⟨h1, h2'⟩
    have hbad : ∀ w', Mm w0 (rjH bk bf ja jc sa sc la lc t k false H) w' → loadF k.vis t = none → ropenP w0 bf H (openF k) (.tuple #[.pointer none, zv 262]) w' := fun w' hM hn => by
      rw [openF_bad hoff (by rw [← hload, hn])]
      exact ⟨((sa, sc), (la, lc)), rfl, hM.tail.tail⟩
    refine hwKR ?_
    refine HL.one (H1.callx (vs := [_, _]) rfl rfl (fun w' _ => refString_fn (mkBA k.vis) (t.size + 1) (by omega) (by omega) w') ?_)
    rw [show (mkBA k.vis).data.toList = k.vis from rfl]
    by_cases h3 : b = 1
    rotate_left
    · have h3i : ¬ (b : Int) = 1 := by omega
      have hn := loadF_bad hne (fun h => h3 (by rw [hb, h]; rfl))
      cases decS k.vis (t.size + 1) with
      | none =>
        unfold strV
        refine hwKR ?_
        exact HX.ret2 rfl rfl rfl fun w' hM => hbad w' hM hn
      | some x =>
        obtain ⟨r, q⟩ := x
        unfold strV
        refine hwKR ?_
        exact HX.ret2 rfl rfl rfl fun w' hM => hbad w' hM hn
    have h3i : (b : Int) = 1 := by omega
    have hone : k.vis.getD t.size 0 = 1 := UInt8.toNat_inj.1 (by rw [← hb, h3]; rfl)
    cases hd : decS k.vis (t.size + 1) with
    | none =>
      have hn := loadF_none hne hd
      unfold strV
      refine hwKR ?_
      exact HX.ret2 rfl rfl rfl fun w' hM => hbad w' hM hn
    | some x =>
      obtain ⟨r, q⟩ := x
      have hle := decS_le hd
      have hrs : (mkBA r).size = r.length := by show r.toArray.size = _; rw [List.size_toArray]
      have hno := fun h => loadF_no hne hd h
      have hyes := fun h => loadF_step hne hone hd h
      unfold strV
      refine hwKR ?_
      refine HL.one (H1.callx (vs := [_, _]) rfl rfl (fun w' _ => refChain_fn t.head (mkBA r) (by omega) w') ?_)
      by_cases hq : q + 32 ≤ k.vis.length
      rotate_left
      · have hqi : (k.dur.length : Int) < (q : Int) + 32 := by omega
        have hn := hno fun h => hq h.1
        refine hwKR ?_
        exact HX.ret2 rfl rfl rfl fun w' hM => hbad w' hM hn
      have hqi : ¬ (k.dur.length : Int) < (q : Int) + 32 := by omega
      have hreq := rec_eq hne.1 hone hd hq
      have e1 : ((q : Int) + 32).toNat = q + 32 := by omega
      have e2 := extract_mk (mkBA k.vis) q (q + 32)
      rw [show (mkBA k.vis).data.toList = k.vis from rfl, show q + 32 - q = 32 from by omega] at e2
      have key : (mkBA k.vis).extract (q : Int).toNat ((q : Int) + 32).toNat = chainS t.head (mkBA r) ↔ outL t.head (mkBA r) = (k.vis.drop t.size).take (q + 32 - t.size) := by
        rw [Int.toNat_natCast, e1, e2, hreq]
        constructor
        · intro h
          have := congrArg (fun x : ByteArray => x.data.toList) h
          exact this
        · intro h
          rw [h]; rfl
      repeat' (first | refine HL.pa ?_ (POp.nilCheck rfl) | apply HL.fold | apply HA.fold | apply HL.nil | apply HX.n_then | apply HC.seq | apply HC.region | refine HL.pa ?_ | refine HL.ga rfl ?_ | refine HL.na rfl ?_ | refine HL.nu rfl rfl ?_ | apply HC.block | apply HC.skip | apply HC.exit | apply HC.ret | apply HX.e_block | refine HX.e_other rfl ?_ | apply HX.e_then | apply HX.e_again | apply HX.n_block | apply HX.r_then | apply HX.r_block | apply HX.r_again | refine HC.cond_yes rfl ?_ | refine HC.cond_no rfl ?_ | refine HL.one (H1.ldb rfl memA rfl rfl ?_) | refine HC.cond rfl (fun hc => ?_) (fun hc => ?_) | refine HC.cond_b rfl (fun hc => ?_) (fun hc => ?_))
      · have hn := hno fun h => hc (key.2 h.2)
        exact HX.ret2 rfl rfl rfl fun w' hM => hbad w' hM hn
      have hcmp := key.1 (Classical.not_not.1 hc)
      have hld := hyes ⟨hq, hcmp⟩
      have hll : (outL t.head (mkBA r)).length = q + 32 - t.size := by rw [hcmp, List.length_take, List.length_drop]; omega
      have hsz2 : (t.add (mkBA r)).size = q + 32 := by show t.size + (outL t.head (mkBA r)).length = _; omega
      have ez : (q : Int) + 32 = ((t.add (mkBA r)).size : Int) := by omega
      have hrl : (t.recs ++ [mkBA r]).length = t.recs.length + 1 := by rw [List.length_append]; rfl
      refine HL.one (H1.lit (cs := [.string (mkBA r)]) rfl rfl rfl rfl rfl rfl (fun b9 => ?_))
      refine hwKR ?_
      refine HL.one (H1.app1 (u := .string (mkBA r)) rfl rfl (fun _ _ => by first | ((repeat (first | with_reducible exact Rpl.here | with_reducible apply Rpl.there)); done) | (repeat (first | exact Rpl.here | apply Rpl.there))) memA rfl rfl (by omega) rfl rfl (fun a' c' => ?_))
      rw [strs_snoc, ← hrl]
      refine hwKR ?_
      refine HL.one (H1.st rfl rfl (by intro _ h; cases h) (by intro _ h; cases h) rplA (by show 1 < 4; decide) ?_)
      refine hwKR ?_
      refine HL.one (H1.st rfl rfl (by intro _ h; cases h) (by intro _ h; cases h) rplA (by show 2 < 4; decide) ?_)
      refine hwKR ?_
      rw [ez]
      refine HX.again (t.add (mkBA r), (some ⟨a', 0, none⟩, c')) ⟨by rw [← hld]; exact hload, ?_, ?_, ?_⟩ ?_ esA (Hs.refl _).skip
      · show (t.add (mkBA r)).size ≤ _; omega
      · show (chainS t.head (mkBA r)).size ≤ 32; rw [chainS_size]; exact Nat.le_refl _
      · show (t.recs ++ [mkBA r]).length ≤ (t.add (mkBA r)).size; omega
      · show k.vis.length - (t.add (mkBA r)).size < k.vis.length - t.size; omega
  rintro ⟨t, ⟨ja, jc⟩⟩ ⟨hload, hsz⟩
  dsimp only at hload hsz ⊢
  obtain ⟨m, hm⟩ : ∃ m, m = k.vis.length - t.size := ⟨_, rfl⟩
  have hsub : (k.dur.length : Int) - (t.size : Int) = (m : Int) := by omega
  obtain ⟨Z, hZ⟩ : ∃ Z, Z = mkBA (List.replicate m 0) := ⟨_, rfl⟩
  have hZl : Z.size = m := by rw [hZ]; show (List.replicate m (0 : UInt8)).toArray.size = m; rw [List.size_toArray, List.length_replicate]
  have hex : ((mkBA k.vis).extract t.size (mkBA k.vis).size).data.toList = k.vis.drop t.size := by
    rw [extract_L, hms, show (mkBA k.vis).data.toList = k.vis from rfl, List.take_of_length_le (by rw [List.length_drop]; exact Nat.le_refl _)]
  have hiff := isZero_iff hex
  rw [List.length_drop, ← hm, ← hZ] at hiff
  have hclr : clr k t = [.wr t.size Z, .sy] := by unfold clr; rw [← hm, hZ]
  refine hwKR ?_
  rw [hsub]
  refine HL.one (H1.make (l := m) (c := m) rfl rfl rfl rfl rfl (Nat.le_refl _) (by omega) (by omega) rfl (fun bm => ?_))
  rw [ub_zero]
  refine hwKR ?_
  refine HL.one (H1.bstrC (ys := List.replicate m 0) rfl (by rw [List.length_replicate]) (fun w' hM => blk_rd (e := 5) (hM.blk memA) (by rw [ub_len, List.length_replicate])) rfl ?_)
  rw [show (⟨(List.replicate m 0).toArray⟩ : ByteArray) = Z from hZ.symm]
  by_cases hz : isZero (k.vis.drop t.size) = true
  · rw [openF_zero hoff hload hz]
    have hzz : ¬ ¬ (mkBA k.vis).extract (t.size : Int).toNat (mkBA k.vis).size = Z := Classical.not_not.2 (by rw [Int.toNat_natCast]; exact hiff.1 hz)
    refine hwKR ?_
    exact HX.ret2 rfl rfl rfl fun w' hM => ⟨(bk, (ja, jc), (sa, sc), (la, lc)), rfl, hM.tail⟩
  have hzz : ¬ (mkBA k.vis).extract t.size (mkBA k.vis).size = Z := fun h => hz (hiff.2 h)
  have hrw := fun w' => rwrite_fn (w := w') (w0 := w0) (H := A.blk bk (rjC bf ja jc t false) 43 :: A.grow 9 1 ja jc t.recs.length (strs t.recs) :: H) (bf := bf) (sc := sc) (lc := lc) (sa := sa) (la := la) (k := k) t.size Z
  obtain ⟨e1, k1, hw1⟩ : ∃ e1 k1, k.write t.size Z = (e1, k1) := ⟨_, _, rfl⟩
  have hro : (DOp.wr t.size Z).run k = (e1, k1) := hw1
  have hk1 : k1.Ok := by have := (DOp.wr t.size Z).run_ok hk (by omega); rw [hro] at this; exact this
  have hf1 : k1.Fit := by have := hf.write t.size Z; rw [hw1] at this; exact this
  have hv1 : k1.Vis := by have := hv.write t.size Z; rw [hw1] at this; exact this
  have hl1 : k1.dur.length = k.dur.length := by have := ((DOp.wr t.size Z).run_len k hlen).2.1; rw [hro] at this; exact this
  rw [hw1] at hrw
  dsimp only at hrw
  refine hwKR ?_
  refine HL.one (H1.callk (α := (Option Addr × Nat) × (Option Addr × Nat)) (V := fun _ => zv e1) (I := fun _ => True) (H' := fun q => rfH bf q.1.1 q.1.2 q.2.1 q.2.2 k1 (A.blk bk (rjC bf ja jc t false) 43 :: A.grow 9 1 ja jc t.recs.length (strs t.recs) :: H)) (vs := [_, zv (t.size : Int), _]) rfl rfl
    (fun w' hM => hrw w' (hM.sub (Hs.cons (Pick.there (Pick.there (Pick.there Pick.here))) (Hs.cons (Pick.there (Pick.there (Pick.there Pick.here))) (Hs.cons (Pick.there (Pick.there (Pick.there Pick.here))) (Hs.refl _).skip)))) hk (by omega) (by omega)) ?_)
  rintro ⟨⟨sa1, sc1⟩, ⟨la1, lc1⟩⟩ -
  dsimp only
  by_cases he1 : e1 = 0
  rotate_left
  · have hrr : runOps (clr k t) k = (e1, k1) := by rw [hclr, runOps_no (by rw [hro]; exact he1), hro]
    rw [openF_no hoff hload hz (by rw [hrr]; exact he1), hrr]
    refine hwKR ?_
    exact HX.ret2 rfl rfl rfl fun w' hM => ⟨((sa1, sc1), (la1, lc1)), rfl, hM.sub (Hs.cons Pick.here (Hs.cons Pick.here (Hs.cons Pick.here (Hs.refl _).skip.skip)))⟩
  subst he1
  obtain ⟨e2, k2, hw2⟩ : ∃ e2 k2, k1.sync = (e2, k2) := ⟨_, _, rfl⟩
  have hrs := fun w' => rsync_fn (w := w') (w0 := w0) (H := A.blk bk (rjC bf ja jc t false) 43 :: A.grow 9 1 ja jc t.recs.length (strs t.recs) :: H) (bf := bf) (sc := sc1) (lc := lc1) (sa := sa1) (la := la1) (k := k1)
  rw [hw2] at hrs
  dsimp only at hrs
  have hrr : runOps (clr k t) k = (e2, k2) := by rw [hclr, runOps_ok (by rw [hro]), hro, runOps_one]; exact hw2
  refine hwKR ?_
  refine HL.one (H1.callk (α := (Option Addr × Nat) × (Option Addr × Nat)) (V := fun _ => zv e2) (I := fun _ => True) (H' := fun q => rfH bf q.1.1 q.1.2 q.2.1 q.2.2 k2 (A.blk bk (rjC bf ja jc t false) 43 :: A.grow 9 1 ja jc t.recs.length (strs t.recs) :: H)) (vs := [_]) rfl rfl
    (fun w' hM => hrs w' hM hk1 hf1 hv1 (by omega)) ?_)
  rintro ⟨⟨sa2, sc2⟩, ⟨la2, lc2⟩⟩ -
  dsimp only
  by_cases he2 : e2 = 0
  · subst he2
    rw [openF_clr hoff hload hz (by rw [hrr]), hrr]
    refine hwKR ?_
    exact HX.ret2 rfl rfl rfl fun w' hM => ⟨(bk, (ja, jc), (sa2, sc2), (la2, lc2)), rfl, hM.sub (Hs.cons (Pick.there (Pick.there (Pick.there Pick.here))) (Hs.cons (Pick.there (Pick.there (Pick.there Pick.here))) (Hs.refl _)))⟩
  · rw [openF_no hoff hload hz (by rw [hrr]; exact he2), hrr]
    refine hwKR ?_
    exact HX.ret2 rfl rfl rfl fun w' hM => ⟨((sa2, sc2), (la2, lc2)), rfl, hM.sub (Hs.cons Pick.here (Hs.cons Pick.here (Hs.cons Pick.here (Hs.refl _).skip.skip)))⟩
end Go.Sx
/- Chapter 26: the reference's Append: the walk. -/
namespace Go.Sx
open Go Go.Proofs Go.RowKit
theorem mkBA_size (l : List UInt8) : (mkBA l).size = l.length := by show l.toArray.size = _; rw [List.size_toArray]
theorem mkBA_outB (l : List UInt8) (h r : ByteArray) : mkBA l ++ outB h r = mkBA (l ++ outL h r) := ba_ext (by
  rw [ByteArray.data_append]
  simp [mkBA, outB])
theorem outsL_le : ∀ (l : List ByteArray) (h : ByteArray), (∀ r ∈ l, r.size ≤ 100) → (outsL h l).length ≤ 150 * l.length
  | [], _, _ => Nat.zero_le _
  | r :: l, h, hs => by
    have h1 := outsL_le l (chainS h r) fun x hx => hs x (List.mem_cons_of_mem _ hx)
    have h2 := outL_len h r
    have h3 := hs r (List.mem_cons_self ..)
    have h4 := strN_size (n := r.size) (by omega)
    show (outL h r ++ outsL (chainS h r) l).length ≤ 150 * (l.length + 1)
    rw [List.length_append]; omega
attribute [local irreducible] WC WL WX POp Then Again Fn NX W1 WA WO QL RP RA Yld LoopAt HC HL HX HN H1 HA HO HQ HB HP A.blk A.grow A.rd A.obj A.mp AgainH CutH
attribute [local irreducible] sumS chainS
set_option maxHeartbeats 4000000 in
theorem rappend_fn {w0 w : World} {H : List Atom} {bk bf jc sc lc c9 : Nat} {ja sa la a9 : Option Addr} {j : Jn} {g : List ByteArray} (hM : Mm w0 (rjH bk bf ja jc sa sc la lc j.t j.k j.br H) w) (hm : A.grow 9 1 a9 c9 g.length (strs g) ∈ H)
    (hj : JOk j) (hi : TpOk j.t) (hf : j.k.Fit) (hv : j.k.Vis) (hN : j.k.dur.length ≤ 100000) (hg : g.length ≤ 6) (hs : ∀ r ∈ g, r.size ≤ 100) :
    Fn Tryz.prog 12 #[.pointer (some ⟨bk, 0, none⟩), .slice a9 g.length c9] w fun v w' => ∃ q : (Option Addr × Nat) × (Option Addr × Nat) × (Option Addr × Nat), True ∧ v = zv (j.append g).1 ∧
      Mm w0 (rjH bk bf q.1.1 q.1.2 q.2.1.1 q.2.1.2 q.2.2.1 q.2.2.2 (j.append g).2.t (j.append g).2.k (j.append g).2.br H) w' := by
  obtain ⟨t, k, br⟩ := j
  have hk := hj.k
  have hpn := hj.pend
  have hfit := hj.fit
  have hrec := hj.recs
  have hhd := hj.head
  dsimp only at hM hi hf hv hN hk hpn hfit hrec hhd
  have hlong : g.any isLong = false := not_long fun r hr => Nat.le_trans (hs r hr) (by decide)
  refine enterK (l := [_, _]) hM rfl Tryz.ntmps12 rfl ?_
  cases br with
  | true =>
    rw [append_br (.inl rfl)]
    refine hwKR ?_
    exact HX.ret1 rfl rfl fun w' hM => ⟨((ja, jc), (sa, sc), (la, lc)), trivial, rfl, hM⟩
  | false =>
  have hnb : ¬ ((⟨t, k, false⟩ : Jn).br = true ∨ g.any isLong = true) := by rw [hlong]; rintro (h | h) <;> cases h
  have hlen := outsL_le g t.head hs
  have hts := hi.sz
  refine hwKR ?_
  refine HL.one (H1.callx (u := .string t.head) (vs := [_]) rfl rfl (fun w' hM => by
    have := refHead_fn (.slice ja t.recs.length jc) t.recs (fun r hr => Nat.le_trans (hts r hr) (by decide)) (by omega) w' (Mm.gr (e := 9) (a := ja) (c := jc) hM memA)
    rw [← hi.adds] at this
    exact this) ?_)
  refine hbKR ?_
  obtain ⟨o, ho⟩ : ∃ o, o = outsL t.head g := ⟨_, rfl⟩
  have hlen2 := hlen
  rw [← ho] at hlen
  have hol := mkBA_size o
  repeat refine HC.seq ?_
  refine HC.cut (α := Unit) (fun _ => [(0, .pointer (some ⟨bk, 0, none⟩)), (1, .slice a9 g.length c9), (5, .string (mkBA o))]) (fun _ => rjH bk bf ja jc sa sc la lc t k false H) (fun _ => True) ?_ ?_
  · refine HC.block ?_
    refine HC.loop (α := Nat) (fun i => [(0, .pointer (some ⟨bk, 0, none⟩)), (1, .slice a9 g.length c9), (5, .string (mkBA (outsL t.head (g.take i)))), (6, .string (adds t (g.take i)).head), (7, zv (i : Int))]) (fun _ => rjH bk bf ja jc sa sc la lc t k false H) (fun i => i ≤ g.length) (fun i => g.length - i) 0 (Nat.zero_le _) esA (Hs.refl _) ?_
    intro i hil
    by_cases hlt : i < g.length
    · have htk := take_fr hlt
      have hsn := outsL_snoc t (g.take i) (fr g i)
      have hsa := adds_snoc t (g.take i) (fr g i)
      rw [← htk] at hsn hsa
      have hle := outsL_take t g i
      have hszr := hs _ (fr_mem2 hlt)
      have hget := strs_get hlt
      have hh2 := adds_head (g.take i) t hhd
      have hmb := mkBA_size (outsL t.head (g.take i))
      have hob := outB_size (adds t (g.take i)).head (fr g i)
      have hobl := outL_len (adds t (g.take i)).head (fr g i)
      have hsz2 := strN_size (n := (fr g i).size) (by omega)
      have hle2 := outsL_take t g (i + 1)
      have hcat := mkBA_outB (outsL t.head (g.take i)) (adds t (g.take i)).head (fr g i)
      rw [← hsn] at hcat
      generalize fr g i = s at hsn hsa hszr hget hob hobl hsz2 hcat
      refine HC.openg (e := 9) (sz := 1) (a := a9) (c := c9) (n := g.length) (xs := strs g) (.tail _ (.tail _ (.tail _ (.tail _ (.tail _ hm))))) (by omega) ?_
      rintro b9 rfl
      have hng : ¬ (65536 : Int) < (s.size : Int) := by omega
      refine hwKR ?_
      refine HL.one (H1.ldg rfl (.tail _ (.tail _ (.tail _ (.tail _ (.tail _ hm))))) hget rfl ?_)
      refine hwKR ?_
      refine HL.one (H1.ldg rfl (.tail _ (.tail _ (.tail _ (.tail _ (.tail _ hm))))) hget rfl ?_)
      refine hwKR ?_
      refine HL.one (H1.callx (vs := [_, _]) rfl rfl (fun w' _ => stored_fn (adds t (g.take i)).head s hh2 (by omega) w') ?_)
      refine hwKR ?_
      rw [hcat]
      exact HX.again (i + 1) hlt (by show g.length - (i + 1) < g.length - i; omega) (by rw [hsa]; exact ⟨rfl, rfl, rfl, rfl, rfl, trivial⟩) (Hs.refl _)
    · obtain rfl : i = g.length := by omega
      rw [List.take_length, ← ho]
      refine hwKR ?_
      exact HX.cut () trivial esA (Hs.refl _)
  rintro - -
  refine hwKR ?_
  refine HL.one (H1.callk (α := Unit) (V := fun _ => zv ((k.dur.length : Int) - (t.size : Int))) (I := fun _ => True) (H' := fun _ => rjH bk bf ja jc sa sc la lc t k false H) (vs := [_]) rfl rfl (fun w' hM => rroom_fn hM hk (by omega)) ?_)
  rintro - -
  by_cases hful : (k.dur.length : Int) - (t.size : Int) < (o.length : Int)
  · have hful' : (k.dur.length : Int) - (t.size : Int) < ((mkBA o).size : Int) := by omega
    rw [append_full hnb (by rw [ho] at hful; exact hful)]
    refine hwKR ?_
    exact HX.ret1 rfl rfl fun w' hM => ⟨((ja, jc), (sa, sc), (la, lc)), trivial, rfl, hM⟩
  have hful' : ¬ (k.dur.length : Int) - (t.size : Int) < ((mkBA o).size : Int) := by omega
  have hfulA : ¬ ((⟨t, k, false⟩ : Jn).k.dur.length : Int) - ((⟨t, k, false⟩ : Jn).t.size : Int) < ((outsL (⟨t, k, false⟩ : Jn).t.head g).length : Int) := by rw [ho] at hful; exact hful
  by_cases hnil : o = []
  · rw [append_nil hnb hfulA (by rw [ho] at hnil; exact hnil)]
    subst hnil
    have he : mkBA [] = ByteArray.mk #[] := rfl
    refine hwKR ?_
    exact HX.ret1 rfl rfl fun w' hM => ⟨((ja, jc), (sa, sc), (la, lc)), trivial, rfl, hM⟩
  have hne : ¬ mkBA o = ByteArray.mk #[] := fun h => hnil (mkBA_inj.1 h)
  have hnilA : ¬ outsL (⟨t, k, false⟩ : Jn).t.head g = [] := by rw [ho] at hnil; exact hnil
  have hfin := fun h => append_ok hnb hfulA hnilA h
  have hbad := fun h => append_no hnb hfulA hnilA h
  dsimp only at hfin hbad
  rw [← ho] at hfin hbad
  have hopos : 0 < o.length := List.length_pos_iff.2 hnil
  obtain ⟨o1, ho1⟩ : ∃ o1, o1 = mkBA (o.drop 1) := ⟨_, rfl⟩
  obtain ⟨o0, ho0⟩ : ∃ o0, o0 = mkBA (o.take 1) := ⟨_, rfl⟩
  have hs1 : o1.size = o.length - 1 := by rw [ho1, mkBA_size, List.length_drop]
  have hs0 : o0.size = 1 := by rw [ho0, mkBA_size, List.length_take]; omega
  have hx1 : (mkBA o).extract 1 (mkBA o).size = o1 := by
    rw [extract_mk, hol, ho1, show (mkBA o).data.toList = o from rfl, List.take_of_length_le (by rw [List.length_drop]; exact Nat.le_refl _)]
  have hx0 : (mkBA o).extract 0 1 = o0 := by
    rw [extract_mk, ho0, show (mkBA o).data.toList = o from rfl]; rfl
  have hgrp : grp t o = [.wr (t.size + 1) o1, .sy, .wr t.size o0, .sy] := by unfold grp; rw [← ho1, ← ho0]
  rw [hgrp] at hfin hbad
  have hw : ∀ {k : Dk} (off : Nat) (s : ByteArray) {e : Int} {k1 : Dk}, k.write off s = (e, k1) → k.Ok → k.Fit → k.Vis → k.pend.length ≤ 9500 → k1.Ok ∧ k1.Fit ∧ k1.Vis ∧ k1.dur.length = k.dur.length ∧ k1.pend.length ≤ k.pend.length + 1 := by
    intro k off s e k1 h hk hf hv hp
    have hro : (DOp.wr off s).run k = (e, k1) := h
    have h1 := (DOp.wr off s).run_ok hk (by omega)
    have h2 := (DOp.wr off s).run_len k hk.len
    have h3 := Dk.Fit.run hf (.wr off s)
    have h4 := Dk.Vis.run hv (.wr off s)
    rw [hro] at h1 h2 h3 h4
    exact ⟨h1, h3, h4, h2.2.1, h2.2.2.2⟩
  have hy : ∀ {k : Dk} {e : Int} {k1 : Dk}, k.sync = (e, k1) → k.Ok → k.Fit → k.Vis → k.pend.length ≤ 9500 → k1.Ok ∧ k1.Fit ∧ k1.Vis ∧ k1.dur.length = k.dur.length ∧ k1.pend.length ≤ k.pend.length + 1 := by
    intro k e k1 h hk hf hv hp
    have hro : DOp.sy.run k = (e, k1) := h
    have h1 := DOp.sy.run_ok hk (by omega)
    have h2 := DOp.sy.run_len k hk.len
    have h3 := Dk.Fit.run hf .sy
    have h4 := Dk.Vis.run hv .sy
    rw [hro] at h1 h2 h3 h4
    exact ⟨h1, h3, h4, h2.2.1, h2.2.2.2⟩
  obtain ⟨e1, k1, hw1⟩ : ∃ e1 k1, k.write (t.size + 1) o1 = (e1, k1) := ⟨_, _, rfl⟩
  obtain ⟨hk1, hf1, hv1, hl1, hp1⟩ := hw _ _ hw1 hk hf hv (by omega)
  have hr1 : (DOp.wr (t.size + 1) o1).run k = (e1, k1) := hw1
  refine hwKR ?_
  refine HC.cut (α := (Option Addr × Nat) × (Option Addr × Nat)) (fun _ => [(0, .pointer (some ⟨bk, 0, none⟩)), (1, .slice a9 g.length c9), (5, .string (mkBA o)), (10, zv e1)]) (fun q => rjH bk bf ja jc q.1.1 q.1.2 q.2.1 q.2.2 t k1 false H) (fun _ => True) ?_ ?_
  · have hrw := fun w' => rwrite_fn (w := w') (w0 := w0) (H := A.blk bk (rjC bf ja jc t false) 43 :: A.grow 9 1 ja jc t.recs.length (strs t.recs) :: H) (bf := bf) (sc := sc) (lc := lc) (sa := sa) (la := la) (k := k) (t.size + 1) o1
    rw [hw1] at hrw
    dsimp only at hrw
    refine HC.anyC ([(⟨bk, 0, none⟩, .pointer (some ⟨bf, 0, none⟩)), (⟨bk, 2, none⟩, zv (t.size : Int))]) rfl ?_
    refine HB.pa 0 rfl ?_
    refine HB.pa 1 rfl ?_ (POp.nilCheck rfl)
    refine HB.pa 2 rfl ?_
    refine HB.ld 3 rfl rfl memD ?_
    refine HB.pa 4 rfl ?_
    refine HB.pa 5 rfl ?_ (POp.nilCheck rfl)
    refine HB.pa 6 rfl ?_
    refine HB.ld 7 rfl rfl memD ?_
    refine HB.pa 8 rfl ?_
    refine HB.pa 9 rfl ?_
    refine HB.pa 10 rfl ?_ (POp.sub_l rfl rfl (by omega) (by omega))
    rw [show (1 : Int).toNat = 1 from rfl, hx1]
    refine HB.all (by (exact Keep.blk (b := bk) memD rfl (Keep.blk (b := bk) memD rfl Keep.nil))) [11] (by kernel_rfl) rfl ⟨⟨_, rfl, ?_⟩, trivial⟩
    refine HP.one ?_
    refine H1.callk (α := (Option Addr × Nat) × (Option Addr × Nat)) (V := fun _ => zv e1) (I := fun _ => True) (H' := fun q => rfH bf q.1.1 q.1.2 q.2.1 q.2.2 k1 (A.blk bk (rjC bf ja jc t false) 43 :: A.grow 9 1 ja jc t.recs.length (strs t.recs) :: H)) (vs := [_, zv ((t.size + 1 : Nat) : Int), _]) rfl rfl
      (fun w' hM => hrw w' (hM.sub (Hs.cons (Pick.there (Pick.there Pick.here)) (Hs.cons (Pick.there (Pick.there Pick.here)) (Hs.cons (Pick.there (Pick.there Pick.here)) (Hs.refl _))))) hk (by omega) (by omega)) ?_
    rintro ⟨⟨sa1, sc1⟩, ⟨la1, lc1⟩⟩ -
    dsimp only
    apply HB.fold
    refine HB.pa 12 rfl ?_
    refine HB.done (by (exact Keep.blk (b := bk) memD rfl (Keep.blk (b := bk) memD rfl Keep.nil))) (by kernel_rfl) ?_
    refine hwKR ?_
    exact HX.cut ((sa1, sc1), (la1, lc1)) trivial esA (Hs.cons (Pick.there (Pick.there (Pick.there Pick.here))) (Hs.cons (Pick.there (Pick.there (Pick.there Pick.here))) (Hs.refl _)))
  clear sa sc la lc hM
  rintro ⟨⟨sa, sc⟩, ⟨la, lc⟩⟩ -
  dsimp only
  by_cases he1 : e1 = 0
  rotate_left
  · have hrr : runOps [.wr (t.size + 1) o1, .sy, .wr t.size o0, .sy] k = (e1, k1) := by rw [runOps_no (by rw [hr1]; exact he1), hr1]
    rw [hbad (by rw [hrr]; exact he1), hrr]
    refine hwKR ?_
    refine HL.one (H1.st rfl rfl (by intro _ h; cases h) (by intro _ h; cases h) rplA (by show 3 < 4; decide) ?_)
    refine hwKR ?_
    exact HX.ret1 rfl rfl fun w' hM => ⟨((ja, jc), (sa, sc), (la, lc)), trivial, rfl, hM⟩
  subst he1
  obtain ⟨e2, k2, hw2⟩ : ∃ e2 k2, k1.sync = (e2, k2) := ⟨_, _, rfl⟩
  obtain ⟨hk2, hf2, hv2, hl2, hp2⟩ := hy hw2 hk1 hf1 hv1 (by omega)
  have hr2 : DOp.sy.run k1 = (e2, k2) := hw2
  have hrs := fun w' => rsync_fn (w := w') (w0 := w0) (H := A.blk bk (rjC bf ja jc t false) 43 :: A.grow 9 1 ja jc t.recs.length (strs t.recs) :: H) (bf := bf) (sc := sc) (lc := lc) (sa := sa) (la := la) (k := k1)
  rw [hw2] at hrs
  dsimp only at hrs
  refine hwKR ?_
  refine HL.one (H1.callk (α := (Option Addr × Nat) × (Option Addr × Nat)) (V := fun _ => zv e2) (I := fun _ => True) (H' := fun q => rfH bf q.1.1 q.1.2 q.2.1 q.2.2 k2 (A.blk bk (rjC bf ja jc t false) 43 :: A.grow 9 1 ja jc t.recs.length (strs t.recs) :: H)) (vs := [_]) rfl rfl
    (fun w' hM => hrs w' (hM.sub (Hs.cons (Pick.there (Pick.there Pick.here)) (Hs.cons (Pick.there (Pick.there Pick.here)) (Hs.cons (Pick.there (Pick.there Pick.here)) (Hs.refl _))))) hk1 hf1 hv1 (by omega)) ?_)
  clear hrs sa sc la lc
  rintro ⟨⟨sa, sc⟩, ⟨la, lc⟩⟩ -
  dsimp only
  by_cases he2 : e2 = 0
  rotate_left
  · have hrr : runOps [.wr (t.size + 1) o1, .sy, .wr t.size o0, .sy] k = (e2, k2) := by rw [runOps_ok (by rw [hr1]), hr1, runOps_no (by rw [hr2]; exact he2), hr2]
    rw [hbad (by rw [hrr]; exact he2), hrr]
    refine hwKR ?_
    refine HL.one (H1.st rfl rfl (by intro _ h; cases h) (by intro _ h; cases h) rplA (by show 3 < 4; decide) ?_)
    refine hwKR ?_
    exact HX.ret1 rfl rfl fun w' hM => ⟨((ja, jc), (sa, sc), (la, lc)), trivial, rfl, hM.sub (Hs.cons (Pick.there (Pick.there (Pick.there Pick.here))) (Hs.cons (Pick.there (Pick.there (Pick.there Pick.here))) (Hs.refl _)))⟩
  subst he2
  obtain ⟨e3, k3, hw3⟩ : ∃ e3 k3, k2.write t.size o0 = (e3, k3) := ⟨_, _, rfl⟩
  obtain ⟨hk3, hf3, hv3, hl3, hp3⟩ := hw _ _ hw3 hk2 hf2 hv2 (by omega)
  have hr3 : (DOp.wr t.size o0).run k2 = (e3, k3) := hw3
  refine hwKR ?_
  refine HC.cut (α := (Option Addr × Nat) × (Option Addr × Nat)) (fun _ => [(0, .pointer (some ⟨bk, 0, none⟩)), (1, .slice a9 g.length c9), (5, .string (mkBA o)), (10, zv e3)]) (fun q => rjH bk bf ja jc q.1.1 q.1.2 q.2.1 q.2.2 t k3 false H) (fun _ => True) ?_ ?_
  · have hrw := fun w' => rwrite_fn (w := w') (w0 := w0) (H := A.blk bk (rjC bf ja jc t false) 43 :: A.grow 9 1 ja jc t.recs.length (strs t.recs) :: H) (bf := bf) (sc := sc) (lc := lc) (sa := sa) (la := la) (k := k2) t.size o0
    rw [hw3] at hrw
    dsimp only at hrw
    refine HC.anyC ([(⟨bk, 0, none⟩, .pointer (some ⟨bf, 0, none⟩)), (⟨bk, 2, none⟩, zv (t.size : Int))]) rfl ?_
    refine HB.pa 0 rfl ?_
    refine HB.pa 1 rfl ?_ (POp.nilCheck rfl)
    refine HB.pa 2 rfl ?_
    refine HB.ld 3 rfl rfl memD ?_
    refine HB.pa 4 rfl ?_
    refine HB.pa 5 rfl ?_ (POp.nilCheck rfl)
    refine HB.pa 6 rfl ?_
    refine HB.ld 7 rfl rfl memD ?_
    refine HB.pa 8 rfl ?_
    refine HB.pa 9 rfl ?_ (POp.sub_h rfl rfl (by omega) (by omega))
    rw [show (1 : Int).toNat = 1 from rfl, hx0]
    refine HB.all (by (exact Keep.blk (b := bk) memD rfl (Keep.blk (b := bk) memD rfl Keep.nil))) [10] (by kernel_rfl) rfl ⟨⟨_, rfl, ?_⟩, trivial⟩
    refine HP.one ?_
    refine H1.callk (α := (Option Addr × Nat) × (Option Addr × Nat)) (V := fun _ => zv e3) (I := fun _ => True) (H' := fun q => rfH bf q.1.1 q.1.2 q.2.1 q.2.2 k3 (A.blk bk (rjC bf ja jc t false) 43 :: A.grow 9 1 ja jc t.recs.length (strs t.recs) :: H)) (vs := [_, zv (t.size : Int), _]) rfl rfl
      (fun w' hM => hrw w' (hM.sub (Hs.refl _)) hk2 (by omega) (by omega)) ?_
    rintro ⟨⟨sa1, sc1⟩, ⟨la1, lc1⟩⟩ -
    dsimp only
    apply HB.fold
    refine HB.pa 11 rfl ?_
    refine HB.done (by (exact Keep.blk (b := bk) memD rfl (Keep.blk (b := bk) memD rfl Keep.nil))) (by kernel_rfl) ?_
    refine hwKR ?_
    exact HX.cut ((sa1, sc1), (la1, lc1)) trivial esA (Hs.cons (Pick.there (Pick.there (Pick.there Pick.here))) (Hs.cons (Pick.there (Pick.there (Pick.there Pick.here))) (Hs.refl _)))
  clear sa sc la lc
  rintro ⟨⟨sa, sc⟩, ⟨la, lc⟩⟩ -
  dsimp only
  by_cases he3 : e3 = 0
  rotate_left
  · have hrr : runOps [.wr (t.size + 1) o1, .sy, .wr t.size o0, .sy] k = (e3, k3) := by rw [runOps_ok (by rw [hr1]), hr1, runOps_ok (by rw [hr2]), hr2, runOps_no (by rw [hr3]; exact he3), hr3]
    rw [hbad (by rw [hrr]; exact he3), hrr]
    refine hwKR ?_
    refine HL.one (H1.st rfl rfl (by intro _ h; cases h) (by intro _ h; cases h) rplA (by show 3 < 4; decide) ?_)
    refine hwKR ?_
    exact HX.ret1 rfl rfl fun w' hM => ⟨((ja, jc), (sa, sc), (la, lc)), trivial, rfl, hM⟩
  subst he3
  obtain ⟨e4, k4, hw4⟩ : ∃ e4 k4, k3.sync = (e4, k4) := ⟨_, _, rfl⟩
  have hr4 : DOp.sy.run k3 = (e4, k4) := hw4
  have hrs := fun w' => rsync_fn (w := w') (w0 := w0) (H := A.blk bk (rjC bf ja jc t false) 43 :: A.grow 9 1 ja jc t.recs.length (strs t.recs) :: H) (bf := bf) (sc := sc) (lc := lc) (sa := sa) (la := la) (k := k3)
  rw [hw4] at hrs
  dsimp only at hrs
  refine hwKR ?_
  refine HL.one (H1.callk (α := (Option Addr × Nat) × (Option Addr × Nat)) (V := fun _ => zv e4) (I := fun _ => True) (H' := fun q => rfH bf q.1.1 q.1.2 q.2.1 q.2.2 k4 (A.blk bk (rjC bf ja jc t false) 43 :: A.grow 9 1 ja jc t.recs.length (strs t.recs) :: H)) (vs := [_]) rfl rfl
    (fun w' hM => hrs w' (hM.sub (Hs.cons (Pick.there (Pick.there Pick.here)) (Hs.cons (Pick.there (Pick.there Pick.here)) (Hs.cons (Pick.there (Pick.there Pick.here)) (Hs.refl _))))) hk3 hf3 hv3 (by omega)) ?_)
  clear hrs sa sc la lc
  rintro ⟨⟨sa, sc⟩, ⟨la, lc⟩⟩ -
  dsimp only
  have hrr : runOps [.wr (t.size + 1) o1, .sy, .wr t.size o0, .sy] k = (e4, k4) := by rw [runOps_ok (by rw [hr1]), hr1, runOps_ok (by rw [hr2]), hr2, runOps_ok (by rw [hr3]), hr3, runOps_one, hr4]
  by_cases he4 : e4 = 0
  rotate_left
  · rw [hbad (by rw [hrr]; exact he4), hrr]
    refine hwKR ?_
    refine HL.one (H1.st rfl rfl (by intro _ h; cases h) (by intro _ h; cases h) rplA (by show 3 < 4; decide) ?_)
    refine hwKR ?_
    exact HX.ret1 rfl rfl fun w' hM => ⟨((ja, jc), (sa, sc), (la, lc)), trivial, rfl, hM.sub (Hs.cons (Pick.there (Pick.there (Pick.there Pick.here))) (Hs.cons (Pick.there (Pick.there (Pick.there Pick.here))) (Hs.refl _)))⟩
  subst he4
  rw [hfin (by rw [hrr]), hrr]
  refine hwKR ?_
  refine HL.grow0 9 1 ?_
  refine hwKR ?_
  refine HL.one (H1.appR3 (n := 0) (m := t.recs.length) (vs := strs t.recs) rfl (strs_len2 _) rfl rfl (fun _ _ => by first | ((repeat (first | with_reducible exact Rpl.here | with_reducible apply Rpl.there)); done) | (repeat (first | exact Rpl.here | apply Rpl.there))) (fun w' hM => Mm.gr (e := 9) (a := ja) (c := jc) hM memA) (strs_one2 _) (by omega) (by decide) rfl (.inl rfl) (fun a4 c4 ha4 => ?_))
  rw [Nat.zero_add, List.nil_append]
  refine hwKR ?_
  refine HL.one (H1.appR3 (n := t.recs.length) (m := g.length) (xs := strs t.recs) (vs := strs g) rfl (strs_len2 g) rfl rfl (fun _ _ => by first | ((repeat (first | with_reducible exact Rpl.here | with_reducible apply Rpl.there)); done) | (repeat (first | exact Rpl.here | apply Rpl.there))) (fun w' hM => Mm.gr (e := 9) (a := a9) (c := c9) hM (.tail _ (.tail _ (.tail _ (.tail _ (.tail _ (.tail _ hm))))))) (strs_one2 g) (by omega) (by decide) rfl (by rw [Nat.zero_add] at ha4; exact ha4) (fun a6 c6 _ => ?_))
  rw [strs_app2, ← List.length_append]
  refine hwKR ?_
  refine HL.one (H1.st rfl rfl (by intro _ h; cases h) (by intro _ h; cases h) rplA (by show 1 < 4; decide) ?_)
  refine hwKR ?_
  refine HL.one (H1.st rfl rfl (by intro _ h; cases h) (by intro _ h; cases h) rplA (by show 2 < 4; decide) ?_)
  refine hwKR ?_
  have er := adds_recs g t
  have es := adds_size g t
  rw [← ho] at es
  have ez : (t.size : Int) + ((mkBA o).size : Int) = ((adds t g).size : Int) := by omega
  rw [ez]
  refine HX.ret1 rfl rfl fun w' hM => ⟨((a6, c6), (sa, sc), (la, lc)), trivial, rfl, ?_⟩
  show Mm w0 (A.blk bk (rjC bf a6 c6 (adds t g) false) _ :: A.grow _ 1 a6 c6 (adds t g).recs.length (strs (adds t g).recs) :: rfH bf sa sc la lc k4 H) w'
  unfold rjC
  rw [er]
  exact hM.sub (Hs.cons (Pick.there (Pick.there (Pick.there (Pick.there Pick.here)))) (Hs.cons Pick.here (Hs.cons Pick.here (Hs.cons Pick.here (Hs.cons Pick.here (Hs.refl _).skip)))))
end Go.Sx


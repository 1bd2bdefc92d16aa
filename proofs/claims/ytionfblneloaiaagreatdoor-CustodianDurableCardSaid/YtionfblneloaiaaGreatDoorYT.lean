/- Plain, chapter 27: what a deed does, with and without power. -/
import Derived.Test.YtionfblneloaiaaGreatDoorYL
import Derived.Test.YtionfblneloaiaaGreatDoorKC
namespace Go.Sx
open Go
theorem hwYT {G G2 : Prop} (x : G2) (hwq : Hold G2 → G := by
    intro hQq
    repeat' (first | refine HL.pa ?_ (POp.pneN rfl rfl) | refine HL.pa ?_ (POp.pnil1 rfl rfl) | refine HL.pa ?_ (POp.pnil0 rfl rfl) | refine HL.pa ?_ (POp.nilCheck rfl) | apply HL.fold | apply HA.fold | apply HL.nil | apply HX.n_then | apply HC.seq | apply HC.region | refine HL.pa ?_ | refine HL.ga rfl ?_ | refine HL.na rfl ?_ | refine HL.nu rfl rfl ?_ | apply HC.block | apply HC.skip | apply HC.exit | apply HC.ret | apply HX.e_block | refine HX.e_other rfl ?_ | apply HX.e_then | apply HX.e_again | apply HX.n_block | apply HX.r_then | apply HX.r_block | apply HX.r_again | refine HC.cond_yes rfl ?_ | refine HC.cond_no rfl ?_ | refine HL.one (H1.ldb rfl memA rfl rfl ?_) | refine HC.cond rfl (fun hc => ?_) (fun hc => ?_) | refine HC.cond_b rfl (fun hc => ?_) (fun hc => ?_))
    exact hQq.get) : G := hwq ⟨x⟩
structure DeedV where
  kind : Int
  object : Int
  fragment : Int
  s : ByteArray
  keep : List Int
  vk : Value
instance : Inhabited DeedV := ⟨⟨0, 0, 0, ByteArray.mk #[], [], undef⟩⟩
def deedC (q : DeedV) : List Value := [zv q.kind, zv q.object, zv q.fragment, .string q.s, q.vk]
def deedAt (l : List DeedV) (i : Nat) : DeedV := l.getD i default
/-- A slice of deeds. -/
structure RdDeeds (w : World) (a : Option Addr) (c : Nat) (l : List DeedV) : Prop where
  cap : l.length ≤ c
  cells : l = [] ∨ ∃ b off, a = some ⟨b, off, none⟩ ∧ b < w.heap.size ∧ ∀ i, i < l.length → ∀ (j : Nat) (u : Value), (deedC (deedAt l i))[j]? = some u → w.cell? ⟨b, off + i * 5 + j, none⟩ = some u
  kind : ∀ i, i < l.length → -9223372036854775808 ≤ (deedAt l i).kind ∧ (deedAt l i).kind ≤ 9223372036854775807
  object : ∀ i, i < l.length → -9223372036854775808 ≤ (deedAt l i).object ∧ (deedAt l i).object ≤ 9223372036854775807
  fragment : ∀ i, i < l.length → -9223372036854775808 ≤ (deedAt l i).fragment ∧ (deedAt l i).fragment ≤ 9223372036854775807
  s : ∀ i, i < l.length → (deedAt l i).s.size ≤ 9223372036854775807
  keep : ∀ i, i < l.length → Rd w (deedAt l i).vk (ints (deedAt l i).keep) ∧ (deedAt l i).keep.length ≤ 9223372036854775807
def objD (q : DeedV) : Int := 1 + pk q.object 4
def plD (q : DeedV) : PK := (objD q, pk q.fragment 5)
theorem objD_b (q : DeedV) : 1 ≤ objD q ∧ objD q ≤ 4 := by
  have h := pk_lt q.object (n := 4) (by decide)
  unfold objD; omega
theorem plD_ok (q : DeedV) : okP (plD q) := by
  have h := objD_b q
  have h2 := pk_lt q.fragment (n := 5) (by decide)
  exact ⟨h.1, by show objD q ≤ _; omega, h2.1, by show pk q.fragment 5 < _; omega⟩
theorem objD_ok (q : DeedV) : okP (objD q, 0) := by
  have h := objD_b q
  exact ⟨h.1, by show objD q ≤ _; omega, Int.le_refl _, by show (0 : Int) < 9; decide⟩
/-- A deed: the error, the fragments, the journal. -/
def doF (m : PM) (j : Jn) (q : DeedV) : Int × PM × Jn := if pk q.kind 6 = 5 then ((dropF m j (objD q)).2.1, (dropF m j (objD q)).2.2.1, (dropF m j (objD q)).2.2.2) else storeF m j (plD q) (cutS 200 q.s)
def doM (m : PM) (q : DeedV) : PM := if pk q.kind 6 = 5 then dropM m (objD q) else setM m (plD q) (cutS 200 q.s)
/-- The records that a deed appends. -/
def doR (m : PM) (q : DeedV) : List ByteArray := if pk q.kind 6 = 5 then (if (dropM m (objD q)).length = m.length then [] else [recD (objD q)]) else [recS (plD q) (cutS 200 q.s)]
theorem dropM_all {m : PM} {o : Int} (h : (dropM m o).length = m.length) : dropM m o = m := by
  unfold dropM at h ⊢
  exact List.filter_eq_self.2 (List.length_filter_eq_length_iff.1 h)
theorem recS_le3 {p : PK} {s : ByteArray} (hp : okP p) (hs : s.size ≤ 200) : (recS p s).size ≤ 300 := by
  obtain ⟨h1, h2, h3, h4⟩ := hp
  have h5 := putsB_size [p.1.toNat, p.2.toNat] (mkB 115) (by
    intro n hn
    rcases List.mem_cons.1 hn with rfl | hn
    · omega
    rcases List.mem_cons.1 hn with rfl | hn
    · omega
    · cases hn)
  have h6 := strN_size (n := s.size) (by omega)
  have h7 : (mkB 115).size = 1 := rfl
  unfold recS
  rw [ByteArray.size_append, ByteArray.size_append]
  simp only [List.length_cons, List.length_nil] at h5
  omega
theorem needL_le3 : ∀ (l : List ByteArray), (∀ r ∈ l, r.size ≤ 300) → needL l ≤ 350 * l.length
  | [], _ => Nat.zero_le _
  | r :: l, h => by
    have h1 := needL_le3 l fun x hx => h x (List.mem_cons_of_mem _ hx)
    have h2 := h r (List.mem_cons_self ..)
    have h3 := strN_size (n := r.size) (by omega)
    show (33 + (strN r.size).size + r.size) + needL l ≤ 350 * (l.length + 1)
    omega
theorem doR_len (m : PM) (q : DeedV) : (doR m q).length ≤ 1 := by
  unfold doR
  split
  · split
    · exact Nat.zero_le _
    · exact Nat.le_refl _
  · exact Nat.le_refl _
theorem doR_size (m : PM) (q : DeedV) : ∀ r ∈ doR m q, r.size ≤ 300 := by
  intro r hr
  unfold doR at hr
  split at hr
  · split at hr
    · cases hr
    · rcases List.mem_cons.1 hr with rfl | hr
      · have := recD_size (o := objD q) (by have := objD_b q; omega)
        omega
      · cases hr
  · rcases List.mem_cons.1 hr with rfl | hr
    · exact recS_le3 (plD_ok q) (cutS_size 200 q.s)
    · cases hr
/-- A custodian whose records are durable, behind at most i deeds. -/
structure DI (i : Nat) (m : PM) (j : Jn) (l : List ByteArray) : Prop where
  c : CClean m j 20000 l
  len : l.length ≤ i
  sz : ∀ r ∈ l, r.size ≤ 300
theorem DI.more {i : Nat} {m : PM} {j : Jn} {l : List ByteArray} (h : DI i m j l) : DI (i + 1) m j l := ⟨h.c, Nat.le_succ_of_le h.len, h.sz⟩
theorem di0 : DI 0 [] ⟨t00, newK 20000, false⟩ [] := ⟨cclean0 (by decide) (by decide), Nat.le_refl _, fun _ h => by cases h⟩
theorem DI.app {i : Nat} {m : PM} {j : Jn} {l : List ByteArray} (h : DI i m j l) (q : DeedV) : (l ++ doR m q).length ≤ i + 1 ∧ ∀ r ∈ l ++ doR m q, r.size ≤ 300 := by
  refine ⟨?_, fun r hr => ?_⟩
  · have h1 := h.len
    have h2 := doR_len m q
    rw [List.length_append]; omega
  · rcases List.mem_append.1 hr with hr | hr
    · exact h.sz r hr
    · exact doR_size m q r hr
theorem DI.fits {i : Nat} {m : PM} {j : Jn} {l : List ByteArray} (h : DI i m j l) (q : DeedV) (hi : i ≤ 15) : needL (l ++ doR m q) ≤ 20000 := by
  obtain ⟨h1, h2⟩ := h.app q
  have h3 := needL_le3 _ h2
  omega
theorem DI.does {i : Nat} {m : PM} {j : Jn} {l : List ByteArray} (h : DI i m j l) (q : DeedV) (hi : i ≤ 15) : ∃ j', doF m j q = (0, doM m q, j') ∧ DI (i + 1) (doM m q) j' (l ++ doR m q) := by
  have hf := h.fits q hi
  obtain ⟨a1, a2⟩ := h.app q
  unfold doF doM
  by_cases hk : pk q.kind 6 = 5
  · rw [if_pos hk, if_pos hk]
    by_cases hd : (dropM m (objD q)).length = m.length
    · have hR : doR m q = [] := by unfold doR; rw [if_pos hk, if_pos hd]
      rw [hR, List.append_nil] at a1 a2 ⊢
      rw [dropF_none (objD_ok q) hd, dropM_all hd]
      exact ⟨j, rfl, h.c, a1, a2⟩
    · have hR : doR m q = [recD (objD q)] := by unfold doR; rw [if_pos hk, if_neg hd]
      rw [hR] at a1 a2 hf ⊢
      have hl := dropM_len m (objD q)
      obtain ⟨j', h1, h2⟩ := h.c.drop (objD_ok q) (by omega) hf
      rw [h1]
      exact ⟨j', rfl, h2, a1, a2⟩
  · rw [if_neg hk, if_neg hk]
    have hR : doR m q = [recS (plD q) (cutS 200 q.s)] := by unfold doR; rw [if_neg hk]
    rw [hR] at a1 a2 hf ⊢
    obtain ⟨j', h1, h2⟩ := h.c.store (plD_ok q) (Nat.le_trans (cutS_size 200 q.s) (by decide)) hf
    exact ⟨j', h1, h2, a1, a2⟩
theorem half_app {m : PM} {j : Jn} {l : List ByteArray} {N : Nat} (h : CClean m j N l) (n : Nat) (hn : n ≤ 1000000) {r : ByteArray} (hr : r.size ≤ 65536) :
    ∃ (e : Int) (j' : Jn), (Jn.mk j.t (j.k.cut n).2 j.br).append [r] = (e, j') ∧ (e = 0 ∨ e ≠ 0) ∧ (e = 0 → Ends N (l ++ [r]) (l ++ [r]) j'.k) ∧ (e ≠ 0 → Ends N l (l ++ [r]) j'.k) := by
  have hh := h.jn.half.cut n hn
  obtain ⟨e, j', h1, h2⟩ := half_step (j := Jn.mk j.t (j.k.cut n).2 j.br) (G := [r]) h.jn.t h.jn.br hh (one_long hr)
  refine ⟨e, j', h1, Decidable.em _, ?_⟩
  rcases h2 with ⟨rfl, -, -, h3⟩ | ⟨rfl, rfl⟩ | ⟨rfl, -, -, h3⟩
  · exact ⟨fun _ => h3.ends, fun h => absurd rfl h⟩
  · refine ⟨(fun h => by cases h), fun _ => ?_⟩
    have := hh.ends
    exact ⟨this.ok, this.fits, this.pend, this.dur, fun keep torn => .inl ((this.good keep torn).elim id id)⟩
  · exact ⟨(fun h => by cases h), fun _ => h3⟩
/-- The last deed, while the power fails. -/
theorem DI.power {i : Nat} {m : PM} {j : Jn} {l : List ByteArray} (h : DI i m j l) (q : DeedV) (n : Nat) (hn : n ≤ 1000000) : ∃ (e : Int) (m' : PM) (j' : Jn), doF m ⟨j.t, (j.k.cut n).2, j.br⟩ q = (e, m', j') ∧ (e = 0 → Ends 20000 (l ++ doR m q) (l ++ doR m q) j'.k) ∧ (e ≠ 0 → Ends 20000 l (l ++ doR m q) j'.k) := by
  obtain ⟨a1, a2⟩ := h.app q
  unfold doF
  by_cases hk : pk q.kind 6 = 5
  · rw [if_pos hk]
    by_cases hd : (dropM m (objD q)).length = m.length
    · have hR : doR m q = [] := by unfold doR; rw [if_pos hk, if_pos hd]
      rw [hR, List.append_nil]
      rw [dropF_none (objD_ok q) hd]
      exact ⟨0, _, _, rfl, fun _ => (h.c.jn.half.cut n hn).ends, fun _ => (h.c.jn.half.cut n hn).ends⟩
    · have hR : doR m q = [recD (objD q)] := by unfold doR; rw [if_pos hk, if_neg hd]
      rw [hR] at a2 ⊢
      have hrz : (recD (objD q)).size ≤ 65536 := Nat.le_trans (a2 _ (List.mem_append_right _ (.head _))) (by decide)
      obtain ⟨e, j', h1, -, h2, h3⟩ := half_app h.c n hn hrz
      have hF : dropF m ⟨j.t, (j.k.cut n).2, j.br⟩ (objD q) = ((dropF m ⟨j.t, (j.k.cut n).2, j.br⟩ (objD q)).1, e, (if e = 0 then dropM m (objD q) else m), j') := by
        unfold dropF
        rw [if_neg (fun h => h (objD_ok q)), if_neg hd, h1]
        by_cases he : e = 0
        · subst he; rfl
        · simp only [if_neg he]
      rw [hF]
      exact ⟨e, _, j', rfl, h2, h3⟩
  · rw [if_neg hk]
    have hR : doR m q = [recS (plD q) (cutS 200 q.s)] := by unfold doR; rw [if_neg hk]
    rw [hR] at a2 ⊢
    have hrz : (recS (plD q) (cutS 200 q.s)).size ≤ 65536 := Nat.le_trans (a2 _ (List.mem_append_right _ (.head _))) (by decide)
    obtain ⟨e, j', h1, -, h2, h3⟩ := half_app h.c n hn hrz
    have hF : storeF m ⟨j.t, (j.k.cut n).2, j.br⟩ (plD q) (cutS 200 q.s) = (e, (if e = 0 then setM m (plD q) (cutS 200 q.s) else m), j') := by
      unfold storeF
      have := cutS_size 200 q.s
      rw [if_neg (by rintro (h | h); exact h (plD_ok q); omega), h1]
    rw [hF]
    exact ⟨e, _, j', rfl, h2, h3⟩
/-- An object is removed behind deeds. -/
theorem DI.drop {i : Nat} {m : PM} {j : Jn} {l : List ByteArray} (h : DI i m j l) (q : DeedV) (hi : i ≤ 15) : ∃ j' l', dropF m j (objD q) = ((m.length : Int) - ((dropM m (objD q)).length : Int), 0, dropM m (objD q), j') ∧ DI (i + 1) (dropM m (objD q)) j' l' := by
  have hk : pk 5 6 = 5 := by decide
  obtain ⟨j', h1, h2⟩ := h.does { q with kind := 5 } hi
  have e1 : objD { q with kind := 5 } = objD q := rfl
  have e2 : doM m { q with kind := 5 } = dropM m (objD q) := by unfold doM; rw [if_pos hk, e1]
  rw [e2] at h1 h2
  refine ⟨j', _, ?_, h2⟩
  by_cases hd : (dropM m (objD q)).length = m.length
  · unfold doF at h1
    rw [if_pos hk, e1, dropF_none (objD_ok q) hd] at h1
    rw [dropF_none (objD_ok q) hd]
    have e3 : (m.length : Int) - ((dropM m (objD q)).length : Int) = 0 := by omega
    rw [e3]
    simp only [Prod.mk.injEq, true_and] at h1 ⊢
    exact h1
  · have hf := h.fits { q with kind := 5 } hi
    have hR : doR m { q with kind := 5 } = [recD (objD q)] := by unfold doR; rw [if_pos hk, e1, if_neg hd]
    rw [hR] at hf
    have hl := dropM_len m (objD q)
    obtain ⟨j2, k1, -⟩ := h.c.drop (objD_ok q) (by omega) hf
    unfold doF at h1
    rw [if_pos hk, e1, k1] at h1
    rw [k1]
    simp only [Prod.mk.injEq, true_and] at h1 ⊢
    exact h1
theorem DI.jok {i : Nat} {m : PM} {j : Jn} {l : List ByteArray} (h : DI i m j l) (hi : i ≤ 20) : JOk j := h.c.jn.jok (Nat.le_trans h.len (by omega))
theorem DI.mlen {i : Nat} {m : PM} {j : Jn} {l : List ByteArray} (h : DI i m j l) : m.length ≤ i := Nat.le_trans h.c.len h.len
theorem doM_own {m : PM} {q : DeedV} {o : Int} (h : objD q = o) : dropM (doM m q) o = dropM m o := by
  unfold doM
  subst h
  split
  · exact dropM_idem _ _
  · exact dropM_set_own _
theorem doM_other {m : PM} {q : DeedV} {o : Int} (h : objD q ≠ o) : dropM (doM m q) o = doM (dropM m o) q := by
  unfold doM
  split
  · exact dropM_comm _ _ _
  · exact dropM_set_other _ h
end Go.Sx
/- Chapter 27: a deed, and whether two custodians have the same: the walks. -/
namespace Go.Sx
open Go Go.Proofs Go.RowKit
/-- The numbers of a deed are such. -/
structure DeedOk (q : DeedV) : Prop where
  k1 : -9223372036854775808 ≤ q.kind
  k2 : q.kind ≤ 9223372036854775807
  o1 : -9223372036854775808 ≤ q.object
  o2 : q.object ≤ 9223372036854775807
  f1 : -9223372036854775808 ≤ q.fragment
  f2 : q.fragment ≤ 9223372036854775807
  s : q.s.size ≤ 9223372036854775807
theorem RdDeeds.ok {w : World} {a : Option Addr} {c : Nat} {l : List DeedV} (h : RdDeeds w a c l) {i : Nat} (hi : i < l.length) : DeedOk (deedAt l i) :=
  ⟨(h.kind i hi).1, (h.kind i hi).2, (h.object i hi).1, (h.object i hi).2, (h.fragment i hi).1, (h.fragment i hi).2, h.s i hi⟩
attribute [local irreducible] WC WL WX POp Then Again Fn NX W1 WA WO QL RP RA Yld LoopAt HC HL HX HN H1 HA HO HQ HB HP A.blk A.grow A.rd A.obj A.mp AgainH CutH
attribute [local irreducible] A.pm A.mx A.mit sumS newK expB
set_option maxHeartbeats 1000000 in
theorem does27_fn {w0 w : World} {H : List Atom} {bx bm bj bd b1 b2 c pc : Nat} {a pa : Option Addr} {m : PM} {j : Jn} (q : DeedV) {r : Int × PM × Jn} (hr : doF m j q = r) (hq : DeedOk q) (hG : RoundG w0) (hM : Mm w0 (cuH bx bm bj bd b1 b2 a c pa pc m j H) w) (hj : JOk j) (hk : (m.map Prod.fst).Nodup) (hl : m.length ≤ 1000000) :
    Fn Tryz.prog 19 #[.pointer (some ⟨bx, 0, none⟩), .agg #[zv q.kind, zv q.object, zv q.fragment, .string q.s, q.vk]] w fun v w' => ∃ z : Nat × (Option Addr × Nat) × (Option Addr × Nat), True ∧ v = zv r.1 ∧ Mm w0 (cuH bx z.1 bj bd b1 b2 z.2.1.1 z.2.1.2 z.2.2.1 z.2.2.2 r.2.1 r.2.2 H) w' := by
  have h4 := pk_lt q.object (n := 4) (by decide)
  have h6 := pk_lt q.kind (n := 6) (by decide)
  obtain ⟨k1, k2, o1, o2, f1, f2, hs⟩ := hq
  subst hr
  refine enterK (l := [_, _]) hM rfl Tryz.ntmps19 rfl ?_
  refine hwYT ?_
  refine HL.one (H1.boxAgg (cs := [zv q.kind, zv q.object, zv q.fragment, .string q.s, q.vk]) rfl rfl (fun b3 => ?_))
  refine hwYT ?_
  refine HL.one (H1.call0 (vs := [_, zv 4]) rfl rfl (fun w' _ => pick27_fn q.object 4 o1 o2 (by decide) w') ?_)
  refine hwYT ?_
  refine HL.one (H1.call0 (vs := [_, zv 6]) rfl rfl (fun w' _ => pick27_fn q.kind 6 k1 k2 (by decide) w') ?_)
  by_cases h5 : pk q.kind 6 = 5
  · have hF : doF m j q = ((dropF m j (objD q)).2.1, (dropF m j (objD q)).2.2.1, (dropF m j (objD q)).2.2.2) := by unfold doF; rw [if_pos h5]
    rw [hF]
    dsimp only
    refine hwYT ?_
    refine HL.one (H1.callk (α := Nat × (Option Addr × Nat) × (Option Addr × Nat)) (V := fun _ => .tuple #[zv (dropF m j (objD q)).1, zv (dropF m j (objD q)).2.1]) (I := fun _ => True) (H' := fun z => cuH bx z.1 bj bd b1 b2 z.2.1.1 z.2.1.2 z.2.2.1 z.2.2.2 (dropF m j (objD q)).2.2.1 (dropF m j (objD q)).2.2.2 H) (vs := [_, zv (objD q)]) rfl rfl
      (fun w' hM => cdrop_fn (objD q) hG hM.tail hj hk hl) ?_)
    rintro ⟨bm2, ⟨a2, c2⟩, ⟨pa2, pc2⟩⟩ -
    dsimp only
    refine hwYT ?_
    exact HX.ret1 rfl rfl fun w' hM => ⟨(bm2, (a2, c2), (pa2, pc2)), trivial, rfl, hM⟩
  · have hF : doF m j q = storeF m j (plD q) (cutS 200 q.s) := by unfold doF; rw [if_neg h5]
    rw [hF]
    refine hwYT ?_
    refine HC.anyC ([(⟨b3, 2, none⟩, zv q.fragment), (⟨b3, 3, none⟩, .string q.s)]) rfl ?_
    refine HB.pa 0 rfl ?_
    refine HB.pa 1 rfl ?_
    refine HB.pa 2 rfl ?_
    refine HB.ld 3 rfl rfl memD ?_
    refine HB.pa 5 rfl ?_
    refine HB.ld 6 rfl rfl memD ?_
    refine HB.all (by (exact Keep.blk (b := b3) memD rfl (Keep.blk (b := b3) memD rfl Keep.nil))) [4] (by kernel_rfl) rfl ⟨⟨_, rfl, ?_⟩, trivial⟩
    refine HP.one ?_
    refine H1.call0 (vs := [_, zv 5]) rfl rfl (fun w' _ => pick27_fn q.fragment 5 f1 f2 (by decide) w') ?_
    apply HB.fold
    refine HB.all (by (exact Keep.blk (b := b3) memD rfl (Keep.blk (b := b3) memD rfl Keep.nil))) [7] (by kernel_rfl) rfl ⟨⟨_, rfl, ?_⟩, trivial⟩
    refine HP.one ?_
    refine H1.call0 (vs := [_, zv ((200 : Nat) : Int)]) rfl rfl (fun w' _ => cut27_fn q.s 200 hs w') ?_
    apply HB.fold
    refine HB.all (by (exact Keep.blk (b := b3) memD rfl (Keep.blk (b := b3) memD rfl Keep.nil))) [8] (by kernel_rfl) rfl ⟨⟨_, rfl, ?_⟩, trivial⟩
    refine HP.one ?_
    refine H1.callk (α := (Option Addr × Nat) × (Option Addr × Nat)) (V := fun _ => zv (storeF m j (plD q) (cutS 200 q.s)).1) (I := fun _ => True) (H' := fun z => cuH bx bm bj bd b1 b2 z.1.1 z.1.2 z.2.1 z.2.2 (storeF m j (plD q) (cutS 200 q.s)).2.1 (storeF m j (plD q) (cutS 200 q.s)).2.2 (A.blk b3 [zv q.kind, zv q.object, zv q.fragment, .string q.s, q.vk] 40 :: H)) (vs := [_, zv (objD q), zv (pk q.fragment 5), .string (cutS 200 q.s)]) rfl rfl
        (fun w' hM => store_fn (plD q) (cutS 200 q.s) hG (hM.sub (Hs.cons (Pick.there Pick.here) (Hs.cons (Pick.there Pick.here) (Hs.cons (Pick.there Pick.here) (Hs.cons (Pick.there Pick.here) (Hs.cons (Pick.there Pick.here) (Hs.cons (Pick.there Pick.here) (Hs.cons (Pick.there Pick.here) (Hs.cons (Pick.there Pick.here) (Hs.refl _)))))))))) hj) ?_
    rintro ⟨⟨a2, c2⟩, ⟨pa2, pc2⟩⟩ -
    dsimp only
    apply HB.fold
    refine HB.pa 9 rfl ?_
    refine HB.done (by (exact Keep.blk (b := b3) memD rfl (Keep.blk (b := b3) memD rfl Keep.nil))) (by kernel_rfl) ?_
    refine hwYT ?_
    exact HX.ret1 rfl rfl fun w' hM => ⟨(bm, (a2, c2), (pa2, pc2)), trivial, rfl, hM.sub (Hs.cons Pick.here (Hs.cons Pick.here (Hs.cons Pick.here (Hs.cons Pick.here (Hs.cons Pick.here (Hs.cons Pick.here (Hs.cons Pick.here (Hs.cons Pick.here (Hs.refl _).skip))))))))⟩
set_option maxHeartbeats 2000000 in
/-- same: where two custodians have the same, it says so. -/
theorem same27_fn {w0 w : World} {H : List Atom} {bx bm bj by_ bn bk : Nat} {m m2 : PM} (hM : Mm w0 (A.blk bx (cuC bm bj) 84 :: A.pm bm (liftP m) :: A.blk by_ (cuC bn bk) 84 :: A.pm bn (liftP m2) :: H) w) (hk : (m.map Prod.fst).Nodup) (hk2 : (m2.map Prod.fst).Nodup) (hl : m.length ≤ 400000) (hl2 : m2.length ≤ 400000) :
    Fn Tryz.prog 22 #[.pointer (some ⟨bx, 0, none⟩), .pointer (some ⟨by_, 0, none⟩)] w fun v w' => ∃ z : Bool, (m = m2 → z = true) ∧ v = .bool z ∧ Mm w0 (A.blk bx (cuC bm bj) 84 :: A.pm bm (liftP m) :: A.blk by_ (cuC bn bk) 84 :: A.pm bn (liftP m2) :: H) w' := by
  refine enterK (l := [_, _]) hM rfl Tryz.ntmps22 rfl ?_
  refine hwYT ?_
  refine HL.one (H1.callk (α := List PK × Option Addr × Nat) (V := fun z => .slice z.2.1 z.1.length z.2.2) (I := fun z => SortedP z.1 m)
    (H' := fun z => A.grow 43 2 z.2.1 z.2.2 z.1.length (pcl z.1) :: A.blk bx (cuC bm bj) 84 :: A.pm bm (liftP m) :: A.blk by_ (cuC bn bk) 84 :: A.pm bn (liftP m2) :: H) (vs := [_]) rfl rfl
    (fun w' hM => holds27_fn hM hk hl) ?_)
  rintro ⟨l, a1, c1⟩ hS
  dsimp only at hS ⊢
  refine hwYT ?_
  refine HL.one (H1.callk (α := List PK × Option Addr × Nat) (V := fun z => .slice z.2.1 z.1.length z.2.2) (I := fun z => SortedP z.1 m2)
    (H' := fun z => A.grow 43 2 z.2.1 z.2.2 z.1.length (pcl z.1) :: A.blk by_ (cuC bn bk) 84 :: A.pm bn (liftP m2) :: A.grow 43 2 a1 c1 l.length (pcl l) :: A.blk bx (cuC bm bj) 84 :: A.pm bm (liftP m) :: H) (vs := [_]) rfl rfl
    (fun w' hM => holds27_fn (hM.sub (Hs.cons (Pick.there (Pick.there (Pick.there Pick.here))) (Hs.cons (Pick.there (Pick.there (Pick.there Pick.here))) (Hs.cons Pick.here (Hs.cons Pick.here (Hs.cons Pick.here (Hs.refl _))))))) hk2 hl2) ?_)
  rintro ⟨l2, a2, c2⟩ hS2
  dsimp only at hS2 ⊢
  have hll := hS.1.length_eq
  have hll2 := hS2.1.length_eq
  rw [List.length_map] at hll hll2
  refine hwYT ?_
  refine HL.one (H1.callx (vs := [.slice a1 l.length c1, .slice a2 l2.length c2]) rfl rfl (fun w' hM => samePairs_fn (.slice a1 l.length c1) (.slice a2 l2.length c2) l l2 (by omega) (by omega) w' (hM.grP (e := 43) (a := a1) (c := c1) (l := l) memA) (hM.grP (e := 43) (a := a2) (c := c2) (l := l2) memA)) ?_)
  by_cases he : l = l2
  rotate_left
  · rw [decide_eq_false he]
    refine hwYT ?_
    refine HX.ret1 rfl rfl fun w' hM => ⟨false, fun h => absurd ?_ he, rfl, hM.sub (Hs.cons (Pick.there (Pick.there (Pick.there (Pick.there Pick.here)))) (Hs.cons (Pick.there (Pick.there (Pick.there (Pick.there Pick.here)))) (Hs.cons (Pick.there Pick.here) (Hs.cons (Pick.there Pick.here) (Hs.refl _).skip.skip))))⟩
    subst h
    exact hS.eq hS2
  rw [decide_eq_true he]
  subst he
  refine hwYT ?_
  refine HC.loop (α := Nat) (fun i => [(0, .pointer (some ⟨bx, 0, none⟩)), (1, .pointer (some ⟨by_, 0, none⟩)), (5, .slice a1 l.length c1), (6, zv (i : Int))]) (fun _ => A.grow 43 2 a1 c1 l.length (pcl l) :: A.blk bx (cuC bm bj) 84 :: A.pm bm (liftP m) :: A.blk by_ (cuC bn bk) 84 :: A.pm bn (liftP m2) :: H) (fun i => i ≤ l.length) (fun i => l.length - i) 0 (Nat.zero_le _) esA (Hs.cons (Pick.there (Pick.there (Pick.there Pick.here))) (Hs.cons (Pick.there (Pick.there (Pick.there Pick.here))) (Hs.cons (Pick.there (Pick.there (Pick.there Pick.here))) (Hs.cons (Pick.there Pick.here) (Hs.cons (Pick.there Pick.here) (Hs.refl _).skip))))) ?_
  intro i hi
  by_cases hlt : i < l.length
  · obtain ⟨p, hp9⟩ : ∃ p, l[i]? = some p := ⟨_, List.getElem?_eq_getElem hlt⟩
    have hg1 : (pcl l)[i * 2]? = some (zv p.1) := pcl_get hp9 0 _ rfl
    have hg2 : (pcl l)[i * 2 + 1]? = some (zv p.2) := pcl_get hp9 1 _ rfl
    obtain ⟨u, hu, -⟩ := hS.get (List.mem_of_getElem? hp9)
    obtain ⟨u2, hu2, -⟩ := hS2.get (List.mem_of_getElem? hp9)
    have hfv := fetchV_some hu
    have hfv2 := fetchV_some hu2
    refine HC.openg (e := 43) (sz := 2) (a := a1) (c := c1) (n := l.length) (xs := pcl l) (.head _) (by omega) ?_
    rintro g rfl
    refine hwYT ?_
    refine HC.cut (α := Unit) (fun _ => [(0, .pointer (some ⟨bx, 0, none⟩)), (1, .pointer (some ⟨by_, 0, none⟩)), (5, .slice (some ⟨g, 0, none⟩) l.length c1), (6, zv (i : Int)), (7, .string u), (8, zv 0)]) (fun _ => A.grow 43 2 (some ⟨g, 0, none⟩) c1 l.length (pcl l) :: A.blk bx (cuC bm bj) 84 :: A.pm bm (liftP m) :: A.blk by_ (cuC bn bk) 84 :: A.pm bn (liftP m2) :: H) (fun _ => True) ?_ ?_
    · refine HC.anyC ([(⟨g, i * 2, none⟩, zv p.1), (⟨g, i * 2 + 1, none⟩, zv p.2)]) rfl ?_
      refine HB.pa 0 rfl ?_
      refine HB.pa 1 rfl ?_
      refine HB.pa 2 rfl ?_
      refine HB.pa 3 rfl ?_
      refine HB.pa 4 rfl ?_
      refine HB.ld 5 rfl rfl memD ?_
      refine HB.pa 6 rfl ?_
      refine HB.pa 7 rfl ?_
      refine HB.pa 8 rfl ?_
      refine HB.pa 9 rfl ?_
      refine HB.ld 10 rfl rfl memD ?_
      refine HB.all (by (exact Keep.grow (b := g) (e := 43) (sz := 2) memD hg1 (Keep.grow (b := g) (e := 43) (sz := 2) memD hg2 Keep.nil))) [11] (by kernel_rfl) rfl ⟨⟨_, rfl, ?_⟩, trivial⟩
      refine HP.one ?_
      refine H1.callk (α := Unit) (V := fun _ => .tuple #[.string u, zv 0]) (I := fun _ => True) (H' := fun _ => A.blk bx (cuC bm bj) 84 :: A.pm bm (liftP m) :: A.grow 43 2 (some ⟨g, 0, none⟩) c1 l.length (pcl l) :: A.blk by_ (cuC bn bk) 84 :: A.pm bn (liftP m2) :: H) (vs := [_, zv p.1, zv p.2]) rfl rfl
          (fun w' hM => by
            have h := fetch_fn p (hM.sub (Hs.cons (Pick.there Pick.here) (Hs.cons (Pick.there Pick.here) (Hs.cons Pick.here (Hs.refl _)))))
            rw [hfv] at h
            exact h) ?_
      rintro - -
      apply HB.fold
      refine HB.pa 12 rfl ?_
      refine HB.pa 13 rfl ?_
      refine HB.pa 14 rfl ?_
      refine HB.pa 15 rfl ?_
      refine HB.pa 16 rfl ?_
      refine HB.done (by (exact Keep.grow (b := g) (e := 43) (sz := 2) memD hg1 (Keep.grow (b := g) (e := 43) (sz := 2) memD hg2 Keep.nil))) (by kernel_rfl) ?_
      refine hwYT ?_
      exact HX.cut () trivial esA (Hs.cons (Pick.there (Pick.there Pick.here)) (Hs.cons Pick.here (Hs.cons Pick.here (Hs.refl _))))
    rintro - -
    refine HC.seq ?_
    refine HC.cut (α := Unit) (fun _ => [(0, .pointer (some ⟨bx, 0, none⟩)), (1, .pointer (some ⟨by_, 0, none⟩)), (5, .slice (some ⟨g, 0, none⟩) l.length c1), (6, zv (i : Int)), (7, .string u), (8, zv 0), (9, .string u2), (10, zv 0)]) (fun _ => A.grow 43 2 (some ⟨g, 0, none⟩) c1 l.length (pcl l) :: A.blk bx (cuC bm bj) 84 :: A.pm bm (liftP m) :: A.blk by_ (cuC bn bk) 84 :: A.pm bn (liftP m2) :: H) (fun _ => True) ?_ ?_
    · refine HC.anyC ([(⟨g, i * 2, none⟩, zv p.1), (⟨g, i * 2 + 1, none⟩, zv p.2)]) rfl ?_
      refine HB.pa 0 rfl ?_
      refine HB.pa 1 rfl ?_
      refine HB.pa 2 rfl ?_
      refine HB.pa 3 rfl ?_
      refine HB.pa 4 rfl ?_
      refine HB.ld 5 rfl rfl memD ?_
      refine HB.pa 6 rfl ?_
      refine HB.pa 7 rfl ?_
      refine HB.pa 8 rfl ?_
      refine HB.pa 9 rfl ?_
      refine HB.ld 10 rfl rfl memD ?_
      refine HB.all (by (exact Keep.grow (b := g) (e := 43) (sz := 2) memD hg1 (Keep.grow (b := g) (e := 43) (sz := 2) memD hg2 Keep.nil))) [11] (by kernel_rfl) rfl ⟨⟨_, rfl, ?_⟩, trivial⟩
      refine HP.one ?_
      refine H1.callk (α := Unit) (V := fun _ => .tuple #[.string u2, zv 0]) (I := fun _ => True) (H' := fun _ => A.blk by_ (cuC bn bk) 84 :: A.pm bn (liftP m2) :: A.grow 43 2 (some ⟨g, 0, none⟩) c1 l.length (pcl l) :: A.blk bx (cuC bm bj) 84 :: A.pm bm (liftP m) :: H) (vs := [_, zv p.1, zv p.2]) rfl rfl
          (fun w' hM => by
            have h := fetch_fn p (hM.sub (Hs.cons (Pick.there (Pick.there (Pick.there Pick.here))) (Hs.cons (Pick.there (Pick.there (Pick.there Pick.here))) (Hs.cons Pick.here (Hs.cons Pick.here (Hs.cons Pick.here (Hs.refl _)))))))
            rw [hfv2] at h
            exact h) ?_
      rintro - -
      apply HB.fold
      refine HB.pa 12 rfl ?_
      refine HB.pa 13 rfl ?_
      refine HB.pa 14 rfl ?_
      refine HB.pa 15 rfl ?_
      refine HB.pa 16 rfl ?_
      refine HB.done (by (exact Keep.grow (b := g) (e := 43) (sz := 2) memD hg1 (Keep.grow (b := g) (e := 43) (sz := 2) memD hg2 Keep.nil))) (by kernel_rfl) ?_
      refine hwYT ?_
      exact HX.cut () trivial esA (Hs.cons (Pick.there (Pick.there Pick.here)) (Hs.cons (Pick.there (Pick.there Pick.here)) (Hs.cons (Pick.there (Pick.there Pick.here)) (Hs.cons Pick.here (Hs.cons Pick.here (Hs.refl _))))))
    rintro - -
    by_cases hne : u = u2
    · have hne2 : ¬ ¬ u = u2 := fun h => h hne
      refine hwYT ?_
      exact HX.again (i + 1) hlt (by show l.length - (i + 1) < l.length - i; omega) esA (Hs.refl _)
    · refine hwYT ?_
      refine HX.ret1 rfl rfl fun w' hM => ⟨false, fun h => absurd ?_ hne, rfl, hM.tail⟩
      subst h
      rw [hu] at hu2
      exact Option.some.inj hu2
  · obtain rfl : i = l.length := by omega
    refine hwYT ?_
    exact HX.ret1 rfl rfl fun w' hM => ⟨true, fun _ => rfl, rfl, hM.tail⟩
end Go.Sx


/- Plain, chapter 27: what Store and Drop append is replayed as what they did. -/
import Derived.Test.YtionfblneloaiaaGreatDoorYI
namespace Go.Sx
open Go
theorem hwYK {G G2 : Prop} (x : G2) (hwq : Hold G2 → G := by
    intro hQq
    repeat' (first | refine HL.pa ?_ (POp.pneN rfl rfl) | refine HL.pa ?_ (POp.pnil1 rfl rfl) | refine HL.pa ?_ (POp.pnil0 rfl rfl) | refine HL.pa ?_ (POp.nilCheck rfl) | apply HL.fold | apply HA.fold | apply HL.nil | apply HX.n_then | apply HC.seq | apply HC.region | refine HL.pa ?_ | refine HL.ga rfl ?_ | refine HL.na rfl ?_ | refine HL.nu rfl rfl ?_ | apply HC.block | apply HC.skip | apply HC.exit | apply HC.ret | apply HX.e_block | refine HX.e_other rfl ?_ | apply HX.e_then | apply HX.e_again | apply HX.n_block | apply HX.r_then | apply HX.r_block | apply HX.r_again | refine HC.cond_yes rfl ?_ | refine HC.cond_no rfl ?_ | refine HL.one (H1.ldb rfl memA rfl rfl ?_) | refine HC.cond rfl (fun hc => ?_) (fun hc => ?_) | refine HC.cond_b rfl (fun hc => ?_) (fun hc => ?_))
    exact hQq.get) : G := hwq ⟨x⟩
theorem putsB_L : ∀ (l : List Nat) (s : ByteArray), (putsB s l).data.toList = s.data.toList ++ l.flatMap putN
  | [], s => by simp [putsB]
  | n :: l, s => by
    show (putsB (s ++ strN n) l).data.toList = _
    rw [putsB_L l, ByteArray.data_append]
    simp [strN, List.flatMap_cons]
theorem recS_L (p : PK) (s : ByteArray) : (recS p s).data.toList = 115 :: (putN p.1.toNat ++ (putN p.2.toNat ++ (putN s.data.toList.length ++ s.data.toList ++ []))) := by
  unfold recS
  have hl : s.data.toList.length = s.size := by rw [Array.length_toList]; rfl
  rw [ByteArray.data_append, ByteArray.data_append, Array.toList_append, putsB_L, Array.toList_append, hl]
  simp [strN, mkB, List.flatMap_cons]
theorem recD_L (o : Int) : (recD o).data.toList = 100 :: (putN o.toNat ++ []) := by
  unfold recD
  rw [putsB_L]
  simp [mkB, List.flatMap_cons]
theorem mkBA_self (s : ByteArray) : mkBA s.data.toList = s := ba_ext rfl
theorem replay_recS (m : PM) {p : PK} {s : ByteArray} (hp : okP p) (hs : s.size ≤ 4096) : replayF m (recS p s) = some (setM m p s) := by
  obtain ⟨h1, h2, h3, h4⟩ := hp
  have hL := recS_L p s
  have hl : s.data.toList.length = s.size := by rw [Array.length_toList]; rfl
  have hrl : (recS p s).data.toList.length = (recS p s).size := by rw [Array.length_toList]; rfl
  have d1 : (recS p s).data.toList.drop 1 = putN p.1.toNat ++ (putN p.2.toNat ++ (putN s.data.toList.length ++ s.data.toList ++ [])) := by rw [hL]; rfl
  have e1 := decI_putN (n := p.1.toNat) (by omega) d1
  have d2 := drop_app d1
  have e2 := decI_putN (n := p.2.toNat) (by omega) d2
  have d3 := drop_app d2
  have e3 := decS_putN (by omega) d3
  have hlen : (recS p s).size = 1 + (putN p.1.toNat).length + (putN p.2.toNat).length + (putN s.data.toList.length).length + s.data.toList.length := by
    rw [← hrl, hL]
    simp only [List.length_cons, List.length_append, List.length_nil]
    omega
  have hsb : sb (recS p s) 0 = 115 := by unfold sb; rw [hL]; rfl
  have u1 : unz (2 * p.1.toNat) = p.1 := by rw [unz_even]; omega
  have u2 : unz (2 * p.2.toNat) = p.2 := by rw [unz_even]; omega
  unfold replayF
  rw [if_neg (by omega), e1]
  dsimp only
  rw [if_pos hsb, e2]
  dsimp only
  rw [e3]
  dsimp only
  rw [u1, u2, if_pos ⟨⟨h1, h2, h3, h4⟩, by omega⟩, if_pos (by omega), mkBA_self]
theorem replay_recD (m : PM) {o : Int} (hp : okP (o, 0)) (hd : (dropM m o).length < m.length) : replayF m (recD o) = some (dropM m o) := by
  have hL := recD_L o
  have hrl : (recD o).data.toList.length = (recD o).size := by rw [Array.length_toList]; rfl
  have d1 : (recD o).data.toList.drop 1 = putN o.toNat ++ [] := by rw [hL]; rfl
  have h0 := hp
  obtain ⟨h1, h2, -, -⟩ := h0
  dsimp only at h1 h2
  have e1 := decI_putN (n := o.toNat) (by omega) d1
  have hlen : (recD o).size = 1 + (putN o.toNat).length := by
    rw [← hrl, hL]
    simp only [List.length_cons, List.length_append, List.length_nil]
    omega
  have hsb : sb (recD o) 0 = 100 := by unfold sb; rw [hL]; rfl
  have u1 : unz (2 * o.toNat) = o := by rw [unz_even]; omega
  unfold replayF
  rw [if_neg (by omega), e1]
  dsimp only
  rw [if_neg (by rw [hsb]; decide), if_pos hsb, u1, if_pos ⟨hp, hd⟩, if_pos (by omega)]
/-- A custodian whose records are durable: what they are, what they do. -/
structure CClean (m : PM) (j : Jn) (N : Nat) (l : List ByteArray) : Prop where
  jn : Clean j N l
  rep : replaysF [] l = some m
  nd : (m.map Prod.fst).Nodup
  len : m.length ≤ l.length
  sz : ∀ p ∈ m, p.2.size ≤ 4096
  ok : ∀ p ∈ m, okP p.1
  rcs : ∀ r ∈ l, r.size ≤ 4200
theorem cclean0 {N : Nat} (h1 : 1 ≤ N) (h2 : N ≤ 4194304) : CClean [] ⟨t00, newK N, false⟩ N [] :=
  ⟨clean0 h1 h2, rfl, List.nodup_nil, Nat.le_refl _, (fun _ h => by cases h), (fun _ h => by cases h), fun _ h => by cases h⟩
theorem CClean.need {m : PM} {j : Jn} {N : Nat} {l : List ByteArray} (h : CClean m j N l) : j.t.size = needL l := h.jn.size
theorem one_long {r : ByteArray} (h : r.size ≤ 65536) : ([r] : List ByteArray).any isLong = false := not_long fun x hx => by
  rcases List.mem_cons.1 hx with rfl | hx
  · exact h
  · cases hx
/-- A fragment is stored. -/
theorem CClean.store {m : PM} {j : Jn} {N : Nat} {l : List ByteArray} (h : CClean m j N l) {p : PK} {s : ByteArray} (hp : okP p) (hs : s.size ≤ 4096) (hf : needL (l ++ [recS p s]) ≤ N) :
    ∃ j', storeF m j p s = (0, setM m p s, j') ∧ CClean (setM m p s) j' N (l ++ [recS p s]) := by
  have hrs := recS_size hp hs
  have hfit : j.t.size + (outsL j.t.head [recS p s]).length ≤ N := by
    rw [h.need, outsL_need, ← needL_app]; exact hf
  obtain ⟨j', hap, hc⟩ := h.jn.app (one_long (by omega)) hfit
  refine ⟨j', ?_, hc, ?_, setM_nodup _ _ h.nd, ?_, ?_, ?_, ?_⟩
  · unfold storeF
    rw [if_neg (by rintro (h | h); exact h hp; omega), hap]
    rfl
  · rw [replaysF_snoc, h.rep]; exact replay_recS m hp hs
  · have h1 := setM_len m p s
    have h2 := h.len
    rw [List.length_append]
    show _ ≤ l.length + 1
    omega
  · intro x hx
    rcases setM_mem hx with hx | rfl
    · exact h.sz x hx
    · exact hs
  · intro x hx
    rcases setM_mem hx with hx | rfl
    · exact h.ok x hx
    · exact hp
  · intro r hr
    rcases List.mem_append.1 hr with hr | hr
    · exact h.rcs r hr
    · rcases List.mem_cons.1 hr with rfl | hr
      · exact hrs
      · cases hr
theorem storeF_bad {m : PM} {j : Jn} {p : PK} {s : ByteArray} (h : ¬ okP p ∨ 4096 < s.size) : storeF m j p s = (270, m, j) := by unfold storeF; rw [if_pos h]
/-- An object is removed. -/
theorem CClean.drop {m : PM} {j : Jn} {N : Nat} {l : List ByteArray} (h : CClean m j N l) {o : Int} (hp : okP (o, 0)) (hd : (dropM m o).length < m.length) (hf : needL (l ++ [recD o]) ≤ N) :
    ∃ j', dropF m j o = ((m.length : Int) - ((dropM m o).length : Int), 0, dropM m o, j') ∧ CClean (dropM m o) j' N (l ++ [recD o]) := by
  have h0 := hp
  obtain ⟨k1, k2, -, -⟩ := h0
  have hrs := recD_size (o := o) k2
  have hfit : j.t.size + (outsL j.t.head [recD o]).length ≤ N := by
    rw [h.need, outsL_need, ← needL_app]; exact hf
  obtain ⟨j', hap, hc⟩ := h.jn.app (one_long (by omega)) hfit
  refine ⟨j', ?_, hc, ?_, dropM_nodup _ h.nd, ?_, fun x hx => h.sz x (List.mem_filter.1 hx).1, fun x hx => h.ok x (List.mem_filter.1 hx).1, ?_⟩
  · unfold dropF
    rw [if_neg (fun h => h hp), if_neg (by omega), hap]
    rfl
  · rw [replaysF_snoc, h.rep]; exact replay_recD m hp hd
  · have h2 := h.len
    rw [List.length_append]
    show _ ≤ l.length + 1
    omega
  · intro r hr
    rcases List.mem_append.1 hr with hr | hr
    · exact h.rcs r hr
    · rcases List.mem_cons.1 hr with rfl | hr
      · omega
      · cases hr
/-- Nothing is removed. -/
theorem dropF_none {m : PM} {j : Jn} {o : Int} (hp : okP (o, 0)) (hd : (dropM m o).length = m.length) : dropF m j o = (0, 0, m, j) := by
  unfold dropF
  rw [if_neg (fun h => h hp), if_pos hd]
theorem CClean.opens {m : PM} {j : Jn} {N : Nat} {l : List ByteArray} (h : CClean m j N l) : openF j.k = (0, j.k, some (adds t00 l)) := h.jn.opens fun r hr => Nat.le_trans (h.rcs r hr) (by decide)
end Go.Sx
/- Chapter 27: opened, and the fixed examples: the walks. -/
namespace Go.Sx
open Go Go.Proofs Go.RowKit
theorem sorted_eq : ∀ {l l' : List PK}, l.Perm l' → (l.Pairwise fun x y => ¬ leP y x) → (l'.Pairwise fun x y => ¬ leP y x) → l = l'
  | [], l', h, _, _ => (List.nil_perm.1 h).symm
  | a :: t, [], h, _, _ => by cases List.perm_nil.1 h
  | a :: t, b :: t', h, h1, h2 => by
    rw [List.pairwise_cons] at h1 h2
    have e : a = b := by
      have ha := h.subset (List.mem_cons_self ..)
      have hb := h.symm.subset (List.mem_cons_self ..)
      rcases List.mem_cons.1 ha with ha | ha
      · exact ha
      rcases List.mem_cons.1 hb with hb | hb
      · exact hb.symm
      have k1 := h2.1 a ha
      have k2 := h1.1 b hb
      unfold leP at k1 k2
      exact Prod.ext (by omega) (by omega)
    subst e
    rw [sorted_eq ((List.perm_cons a).1 h) h1.2 h2.2]
theorem SortedP.eq {l l' : List PK} {m : PM} (h : SortedP l m) (h' : SortedP l' m) : l = l' := sorted_eq (h.1.trans h'.1.symm) h.2 h'.2
theorem CClean.jeq {m : PM} {j : Jn} {N : Nat} {l : List ByteArray} (h : CClean m j N l) : j = ⟨adds t00 l, j.k, false⟩ := by
  have h1 := h.jn.t
  have h2 := h.jn.br
  obtain ⟨t, k, br⟩ := j
  dsimp only at h1 h2
  rw [h1, h2]
theorem copen_F {w0 w : World} {H : List Atom} {bd b1 b2 pc : Nat} {pa : Option Addr} {k : Dk} {ea ec : Addr} (hG : RoundG w0) (hE : ErrG ea w0) (hC : CErrG ec w0) (hM : Mm w0 (dkH bd b1 b2 pa pc k H) w) (hk : k.Ok) (hp : k.pend.length ≤ 9000)
    (hop : (∃ t k', openF k = (0, k', some t) ∧ t.recs.length ≤ 100000 ∧ ∀ r ∈ t.recs, r.size ≤ 65536) ∨ (∃ e k', openF k = (e, k', none) ∧ e ≠ 0)) :
    Fn Tryz.prog 25 #[.pointer (some ⟨bd, 0, none⟩)] w fun v w' => copenP w0 bd b1 b2 H (openF k) v w' := copen_all hG hE hC hM hk hp hop
theorem HX.ret3y {P : Program} {N : Nat} {E : Env} {w0 : World} {H : List Atom} {fn : Func} {t1 t2 t3 : Nat} {v1 v2 v3 : Value} {R : Value → World → Prop} (hr : fn.results = #[.tmp t1, .tmp t2, .tmp t3]) (h1 : Env.g E t1 = some v1) (h2 : Env.g E t2 = some v2) (h3 : Env.g E t3 = some v3) (h : ∀ w, Mm w0 H w → R (.tuple #[v1, v2, v3]) w) :
    HX N [] .ret (bodyPost P fn (RetP R)) E w0 H := fun w hM => WX.ret3 (P := P) hr h1 h2 h3 (h w hM)
attribute [local irreducible] WC WL WX POp Then Again Fn NX W1 WA WO QL RP RA Yld LoopAt HC HL HX HN H1 HA HO HQ HB HP A.blk A.grow A.rd A.obj A.mp AgainH CutH
attribute [local irreducible] A.pm A.mx A.mit sumS newK
theorem copen_fn {w0 w : World} {H : List Atom} {bd b1 b2 pc N : Nat} {pa : Option Addr} {m : PM} {j : Jn} {l : List ByteArray} {ea ec : Addr} (hG : RoundG w0) (hE : ErrG ea w0) (hC : CErrG ec w0) (h : CClean m j N l) (hl : l.length ≤ 100000) (hM : Mm w0 (dkH bd b1 b2 pa pc j.k H) w) :
    Fn Tryz.prog 25 #[.pointer (some ⟨bd, 0, none⟩)] w fun v w' => ∃ z : Nat × Nat × Nat × (Option Addr × Nat) × (Option Addr × Nat), True ∧ v = .tuple #[.pointer (some ⟨z.1, 0, none⟩), zv 0] ∧ Mm w0 (cuH z.1 z.2.1 z.2.2.1 bd b1 b2 z.2.2.2.1.1 z.2.2.2.1.2 z.2.2.2.2.1 z.2.2.2.2.2 m j H) w' := by
  have hop := h.opens
  have hr : (adds t00 l).recs = l := adds0_recs l
  have hF : Fn Tryz.prog 25 #[.pointer (some ⟨bd, 0, none⟩)] w fun v w' => copenP w0 bd b1 b2 H (openF j.k) v w' :=
    copen_F hG hE hC hM h.jn.ok (by rw [h.jn.pend]; exact Nat.zero_le _) (.inl ⟨_, _, hop, by rw [hr]; exact hl, by rw [hr]; exact fun r hr => Nat.le_trans (h.rcs r hr) (by decide)⟩)
  refine hF.mono fun v w2 h1 => ?_
  rw [hop] at h1
  unfold copenP at h1
  dsimp only at h1
  rw [hr, h.rep] at h1
  obtain ⟨z, h2, h3⟩ := h1
  refine ⟨z, trivial, h2, ?_⟩
  rw [h.jeq]; exact h3
theorem opened_fn {w : World} {ea ec : Addr} (hG : RoundG w) (hE : ErrG ea w) (hC : CErrG ec w) (N : Nat) (h1 : 1 ≤ N) (h2 : N ≤ 4194304) :
    Fn Tryz.prog 12 #[zv (N : Int)] w fun v w' => ∃ z : (Nat × Nat × Nat) × Nat × Nat × Nat × (Option Addr × Nat) × (Option Addr × Nat), True ∧ v = .tuple #[.pointer (some ⟨z.2.1, 0, none⟩), .pointer (some ⟨z.1.1, 0, none⟩), .bool true] ∧
      Mm w (cuH z.2.1 z.2.2.1 z.2.2.2.1 z.1.1 z.1.2.1 z.1.2.2 z.2.2.2.2.1.1 z.2.2.2.2.1.2 z.2.2.2.2.2.1 z.2.2.2.2.2.2 [] ⟨t00, newK N, false⟩ []) w' := by
  refine enterH (l := [_]) rfl Tryz.ntmps12 rfl ?_
  refine hwYK ?_
  refine HL.one (H1.callz (vs := [zv (N : Int)]) rfl rfl (fun w' hM => new_fn N h1 h2 w') ?_)
  rintro ⟨bd, b1, b2⟩ -
  dsimp only
  refine hwYK ?_
  refine HL.one (H1.callk (α := Nat × Nat × Nat × (Option Addr × Nat) × (Option Addr × Nat)) (V := fun z => .tuple #[.pointer (some ⟨z.1, 0, none⟩), zv 0]) (I := fun _ => True) (H' := fun z => cuH z.1 z.2.1 z.2.2.1 bd b1 b2 z.2.2.2.1.1 z.2.2.2.1.2 z.2.2.2.2.1 z.2.2.2.2.2 [] ⟨t00, newK N, false⟩ []) (vs := [_]) rfl rfl
    (fun w' hM => copen_fn hG hE hC (cclean0 h1 h2) (Nat.zero_le _) hM) ?_)
  rintro ⟨bx, bm, bj, ⟨a, c⟩, ⟨pa, pc⟩⟩ -
  dsimp only
  refine hwYK ?_
  exact HX.ret3y (P := Tryz.prog) rfl rfl rfl rfl fun w' hM => ⟨((bd, b1, b2), bx, bm, bj, (a, c), (pa, pc)), trivial, rfl, hM⟩
end Go.Sx


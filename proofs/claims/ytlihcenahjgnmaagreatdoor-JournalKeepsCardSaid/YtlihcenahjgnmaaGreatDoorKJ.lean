/- Chapter 26: the law JournalKeeps: the walk. -/
import Derived.Test.YtlihcenahjgnmaaGreatDoorKF
import Derived.Test.YtlihcenahjgnmaaGreatDoorKC
import Derived.Test.YtlihcenahjgnmaaGreatDoorJB
namespace Go.Sx
open Go Go.Proofs Go.RowKit
theorem POp.peqN {P : Program} {N : Nat} {ds : List Deferred} {E : Env} {t t' ty e : TypeId} {x y : Operand} {a : Addr} [h : UTy P t (.pointer e)] (hx : Env.ev E x = some (.pointer (some a))) (hy : Env.ev E y = some (.pointer none)) : POp P N ds E (.binOp .eql t x y t') ty (.bool false) :=
  POp.bin hx hy (fun w => by rw [eqGuard_at_pointer]; rfl) fun w => by
    have e1 := run_equalIn_pnil (P := P) (t := t) w 9999 (some a)
    show (Op.equalIn (9999 + 1) t (.pointer (some a)) (.pointer none) >>= fun r => pure (Value.bool r)).run P w = _
    rw [Sem.run_bind, e1]; rfl
theorem Ends.cut {k : Dk} {N : Nat} {l1 l2 : List ByteArray} (h : Ends N l1 l2 k) (n : Nat) (hn : n ≤ 1000000) : Ends N l1 l2 (k.cut n).2 := by
  unfold Dk.cut
  split
  · exact h
  · exact ⟨⟨h.ok.len, h.ok.lo, h.ok.hi, hn, h.ok.pend⟩, h.fits, h.pend, h.dur, h.good⟩
/-- A journal through power failures: it is as it should be, or broken, and its disk has one of two contents behind a failure. -/
structure KeepI (N i : Nat) (j : Jn) (l : List ByteArray) : Prop where
  t : j.t = adds t00 l
  fit : (outsL zero32 l).length ≤ N
  len : l.length ≤ 6 * i
  sz : ∀ r ∈ l, r.size ≤ 100
  disk : (j.br = false ∧ Half j.k N l) ∨ (j.br = true ∧ ∃ G, (l ++ G).length ≤ 6 * i ∧ (∀ r ∈ l ++ G, r.size ≤ 100) ∧ Ends N l (l ++ G) j.k)
theorem KeepI.ends {N i : Nat} {j : Jn} {l : List ByteArray} (h : KeepI N i j l) : ∃ G, (l ++ G).length ≤ 6 * i ∧ (∀ r ∈ l ++ G, r.size ≤ 100) ∧ Ends N l (l ++ G) j.k := by
  rcases h.disk with ⟨-, hh⟩ | ⟨-, hh⟩
  · exact ⟨[], by rw [List.append_nil]; exact h.len, by rw [List.append_nil]; exact h.sz, by rw [List.append_nil]; exact hh.ends⟩
  · exact hh
theorem KeepI.more {N i : Nat} {j : Jn} {l : List ByteArray} (h : KeepI N i j l) : KeepI N (i + 1) j l := by
  have h1 := h.len
  refine ⟨h.t, h.fit, by omega, h.sz, ?_⟩
  rcases h.disk with hh | ⟨hb, G, h2, hh⟩
  · exact .inl hh
  · exact .inr ⟨hb, G, by omega, hh⟩
theorem KeepI.cut {N i : Nat} {j : Jn} {l : List ByteArray} (h : KeepI N i j l) (n : Nat) (hn : n ≤ 1000000) : KeepI N (i + 1) ⟨j.t, (j.k.cut n).2, j.br⟩ l := by
  have h' := h.more
  refine ⟨h'.t, h'.fit, h'.len, h'.sz, ?_⟩
  rcases h'.disk with ⟨hb, hh⟩ | ⟨hb, G, h2, h3, hh⟩
  · exact .inl ⟨hb, hh.cut n hn⟩
  · exact .inr ⟨hb, G, h2, h3, hh.cut n hn⟩
theorem KeepI.jok {N i : Nat} {j : Jn} {l : List ByteArray} (h : KeepI N i j l) (hi : i ≤ 1000) : JOk j := by
  obtain ⟨G, -, -, he⟩ := h.ends
  have hp := he.pend
  have hl := h.len
  exact ⟨he.ok, by omega, by rw [he.dur, h.t, adds0_size]; exact h.fit, by rw [h.t, adds0_recs]; omega, by rw [h.t]; exact adds_head _ _ (Nat.le_refl _)⟩
/-- A group is appended. -/
theorem KeepI.app {N i : Nat} {j : Jn} {l G : List ByteArray} (h : KeepI N i j l) (hg : G.any isLong = false) (hgl : G.length ≤ 6) (hgs : ∀ r ∈ G, r.size ≤ 100) : ∃ (e : Int) (j2 : Jn), j.append G = (e, j2) ∧
    ((e = 0 ∧ KeepI N (i + 1) j2 (l ++ G)) ∨ (e ≠ 0 ∧ KeepI N (i + 1) j2 l)) := by
  have h1 := h.len
  have hlg : (l ++ G).length ≤ 6 * (i + 1) := by rw [List.length_append]; omega
  have hsg : ∀ r ∈ l ++ G, r.size ≤ 100 := by
    intro r hr
    rcases List.mem_append.1 hr with hr | hr
    · exact h.sz r hr
    · exact hgs r hr
  rcases h.disk with ⟨hb, hh⟩ | ⟨hb, -⟩
  · obtain ⟨e, j2, h2, h3⟩ := half_step h.t hb hh hg
    refine ⟨e, j2, h2, ?_⟩
    rcases h3 with ⟨h4, h5, h6, h7⟩ | ⟨h4, rfl⟩ | ⟨h4, h5, h6, h7⟩
    · exact .inl ⟨h4, h5, h7.fit, hlg, hsg, .inl ⟨h6, h7⟩⟩
    · exact .inr ⟨by omega, h.more⟩
    · exact .inr ⟨by omega, by rw [h5]; exact h.t, h.fit, by omega, h.sz, .inr ⟨h6, G, hlg, hsg, h7⟩⟩
  · exact ⟨260, j, append_br (.inl hb), .inr ⟨by decide, h.more⟩⟩
/-- What is there behind a power failure. -/
theorem KeepI.crash {N i : Nat} {j : Jn} {l : List ByteArray} (h : KeepI N i j l) (hlo : 1 ≤ N) (hhi : N ≤ 4194304) (keep : List Int) (torn : Int) : ∃ (m : List ByteArray) (k' : Dk), l <+: m ∧ openF (j.k.crash keep torn) = (0, k', some (adds t00 m)) ∧
    KeepI N (i + 1) ⟨adds t00 m, k', false⟩ m ∧ (j.k.crash keep torn).Ok ∧ (j.k.crash keep torn).pend = [] := by
  obtain ⟨G, h1, h2, he⟩ := h.ends
  have h3 := h.len
  obtain ⟨m, k', hm, hop, hcl, hok, hp⟩ := he.opens (fun r hr => Nat.le_trans (h.sz r hr) (by decide)) (fun r hr => Nat.le_trans (h2 r hr) (by decide)) hlo hhi keep torn
  have hhf := hcl.half
  refine ⟨m, k', ?_, hop, ?_, hok, hp⟩
  · rcases hm with rfl | rfl
    · exact List.prefix_refl _
    · exact List.prefix_append _ _
  · refine ⟨rfl, hhf.fit, ?_, ?_, .inl ⟨rfl, hhf⟩⟩
    · rcases hm with rfl | rfl <;> omega
    · rcases hm with rfl | rfl
      · exact h.sz
      · exact h2
theorem Rd.spreK {w : World} {a : Option Addr} {c k : Nat} {l : List ByteArray} (h : Rd w (.slice a l.length c) (strs l)) (hk : k ≤ l.length) : Rd w (.slice a k c) (strs (l.take k)) := by
  obtain ⟨a', c', h1, h2, h3⟩ := h
  have hlen : (strs l).length = l.length := by simp [strs]
  have hlt : (strs (l.take k)).length = k := by simp [strs]; omega
  rw [hlen] at h1 h2
  cases h1
  refine ⟨_, _, by rw [hlt], by rw [hlt]; omega, ?_⟩
  rcases h3 with h3 | ⟨b, off, h4, h5, h6⟩
  · left
    have : l = [] := by simpa [strs] using h3
    subst this; simp [strs]
  · refine .inr ⟨b, off, h4, h5, fun i u hu => h6 i u ?_⟩
    have hi : i < k := by
      have := (List.getElem?_eq_some_iff.1 hu).1
      rwa [hlt] at this
    unfold strs at hu ⊢
    rw [List.map_take, List.getElem?_take_of_lt hi] at hu
    exact hu
theorem HL.growCap {P : Program} {r : Option Nat} {N : Nat} {ds : List Deferred} {ol l : List Oper} {Q : Post} {E : Env} {w0 : World} {H : List Atom} {e : TypeId} {sz c n : Nat} {a : Option Addr} {xs : List Value} (hm : A.grow e sz a c n xs ∈ H) (h : n ≤ c → HL P r N ds ol l Q E w0 H) : HL P r N ds ol l Q E w0 H := fun w hM => by
  rcases (hM.own hm).2 with ⟨hv, -⟩ | ⟨g, cap, cur, hv, -, -, hnc, -⟩
  · cases hv; exact h (Nat.le_refl _) w hM
  · cases hv; exact h hnc w hM
attribute [local irreducible] WC WL WX POp Then Again Fn NX W1 WA WO QL RP RA Yld LoopAt HC HL HX HN H1 HA HO HQ HB HP A.blk A.grow A.rd A.obj A.mp AgainH CutH
attribute [local irreducible] newK needL few26 size26
set_option maxHeartbeats 4000000 in
theorem journalKeeps_fn {w : World} {ea : Addr} (hG : RoundG w) (hE : ErrG ea w) (n : Int) (ops : List OpV) (a0 : Option Addr) (c0 : Nat) (hn1 : -9223372036854775808 ≤ n) (hn2 : n ≤ 9223372036854775807)
    (hR : RdOps w a0 c0 ops) (hl : ops.length ≤ 9223372036854775807) :
    Fn Tryz.prog 6 #[zv n, .slice a0 ops.length c0] w fun v w' => v = .bool true ∧ Ext w w' := by
  obtain ⟨N, hN⟩ : ∃ N, N = size26 n := ⟨_, rfl⟩
  have hNb := size26_b n
  rw [← hN] at hNb
  have h0 := clean0 (n := N) hNb.1 (by omega)
  refine enterH (l := [_, _]) rfl Tryz.ntmps6 rfl ?_
  repeat' (first | refine HL.pa ?_ (POp.peqN rfl rfl) | refine HL.pa ?_ (POp.pnil1 rfl rfl) | refine HL.pa ?_ (POp.pnil0 rfl rfl) | refine HL.pa ?_ (POp.nilCheck rfl) | apply HL.fold | apply HA.fold | apply HL.nil | apply HX.n_then | apply HC.seq | apply HC.region | refine HL.pa ?_ | refine HL.ga rfl ?_ | refine HL.na rfl ?_ | refine HL.nu rfl rfl ?_ | apply HC.block | apply HC.skip | apply HC.exit | apply HC.ret | apply HX.e_block | refine HX.e_other rfl ?_ | apply HX.e_then | apply HX.e_again | apply HX.n_block | apply HX.r_then | apply HX.r_block | apply HX.r_again | refine HC.cond_yes rfl ?_ | refine HC.cond_no rfl ?_ | refine HL.one (H1.ldb rfl memA rfl rfl ?_) | refine HC.cond rfl (fun hc => ?_) (fun hc => ?_) | refine HC.cond_b rfl (fun hc => ?_) (fun hc => ?_))
  refine HL.one (H1.callx (vs := []) rfl rfl (fun w' hM => sane26_fn (hG.ext hM.ext) (hE.ext hM.ext)) ?_)
  repeat' (first | refine HL.pa ?_ (POp.peqN rfl rfl) | refine HL.pa ?_ (POp.pnil1 rfl rfl) | refine HL.pa ?_ (POp.pnil0 rfl rfl) | refine HL.pa ?_ (POp.nilCheck rfl) | apply HL.fold | apply HA.fold | apply HL.nil | apply HX.n_then | apply HC.seq | apply HC.region | refine HL.pa ?_ | refine HL.ga rfl ?_ | refine HL.na rfl ?_ | refine HL.nu rfl rfl ?_ | apply HC.block | apply HC.skip | apply HC.exit | apply HC.ret | apply HX.e_block | refine HX.e_other rfl ?_ | apply HX.e_then | apply HX.e_again | apply HX.n_block | apply HX.r_then | apply HX.r_block | apply HX.r_again | refine HC.cond_yes rfl ?_ | refine HC.cond_no rfl ?_ | refine HL.one (H1.ldb rfl memA rfl rfl ?_) | refine HC.cond rfl (fun hc => ?_) (fun hc => ?_) | refine HC.cond_b rfl (fun hc => ?_) (fun hc => ?_))
  refine HL.one (H1.call0 (vs := [_]) rfl rfl (fun w' hM => size26_fn n hn1 hn2 w') ?_)
  rw [← hN]
  repeat' (first | refine HL.pa ?_ (POp.peqN rfl rfl) | refine HL.pa ?_ (POp.pnil1 rfl rfl) | refine HL.pa ?_ (POp.pnil0 rfl rfl) | refine HL.pa ?_ (POp.nilCheck rfl) | apply HL.fold | apply HA.fold | apply HL.nil | apply HX.n_then | apply HC.seq | apply HC.region | refine HL.pa ?_ | refine HL.ga rfl ?_ | refine HL.na rfl ?_ | refine HL.nu rfl rfl ?_ | apply HC.block | apply HC.skip | apply HC.exit | apply HC.ret | apply HX.e_block | refine HX.e_other rfl ?_ | apply HX.e_then | apply HX.e_again | apply HX.n_block | apply HX.r_then | apply HX.r_block | apply HX.r_again | refine HC.cond_yes rfl ?_ | refine HC.cond_no rfl ?_ | refine HL.one (H1.ldb rfl memA rfl rfl ?_) | refine HC.cond rfl (fun hc => ?_) (fun hc => ?_) | refine HC.cond_b rfl (fun hc => ?_) (fun hc => ?_))
  refine HL.one (H1.callz (vs := [zv (N : Int)]) rfl rfl (fun w' hM => new_fn N hNb.1 (by omega) w') ?_)
  rintro ⟨bd, b1, b2⟩ -
  dsimp only
  repeat' (first | refine HL.pa ?_ (POp.peqN rfl rfl) | refine HL.pa ?_ (POp.pnil1 rfl rfl) | refine HL.pa ?_ (POp.pnil0 rfl rfl) | refine HL.pa ?_ (POp.nilCheck rfl) | apply HL.fold | apply HA.fold | apply HL.nil | apply HX.n_then | apply HC.seq | apply HC.region | refine HL.pa ?_ | refine HL.ga rfl ?_ | refine HL.na rfl ?_ | refine HL.nu rfl rfl ?_ | apply HC.block | apply HC.skip | apply HC.exit | apply HC.ret | apply HX.e_block | refine HX.e_other rfl ?_ | apply HX.e_then | apply HX.e_again | apply HX.n_block | apply HX.r_then | apply HX.r_block | apply HX.r_again | refine HC.cond_yes rfl ?_ | refine HC.cond_no rfl ?_ | refine HL.one (H1.ldb rfl memA rfl rfl ?_) | refine HC.cond rfl (fun hc => ?_) (fun hc => ?_) | refine HC.cond_b rfl (fun hc => ?_) (fun hc => ?_))
  refine HL.one (H1.callk (α := Nat × (Option Addr × Nat) × (Option Addr × Nat)) (V := fun z => .tuple #[.pointer (some ⟨z.1, 0, none⟩), zv 0]) (I := fun _ => True) (H' := fun z => jnlH z.1 bd b1 b2 z.2.1.1 z.2.1.2 z.2.2.1 z.2.2.2 ⟨t00, newK N, false⟩ []) (vs := [_]) rfl rfl
    (fun w' hM => jopen_ok (h0.opens (fun _ h => by cases h)) hG hE hM h0.ok (by rw [h0.pend]; exact Nat.zero_le _)) ?_)
  rintro ⟨bj, ⟨a, c⟩, ⟨pa, pc⟩⟩ -
  dsimp only
  repeat' (first | refine HL.pa ?_ (POp.peqN rfl rfl) | refine HL.pa ?_ (POp.pnil1 rfl rfl) | refine HL.pa ?_ (POp.pnil0 rfl rfl) | refine HL.pa ?_ (POp.nilCheck rfl) | apply HL.fold | apply HA.fold | apply HL.nil | apply HX.n_then | apply HC.seq | apply HC.region | refine HL.pa ?_ | refine HL.ga rfl ?_ | refine HL.na rfl ?_ | refine HL.nu rfl rfl ?_ | apply HC.skip | apply HC.exit | apply HC.ret | apply HX.e_block | refine HX.e_other rfl ?_ | apply HX.e_then | apply HX.e_again | apply HX.n_block | apply HX.r_then | apply HX.r_block | apply HX.r_again | refine HC.cond_yes rfl ?_ | refine HC.cond_no rfl ?_ | refine HL.one (H1.ldb rfl memA rfl rfl ?_) | refine HC.cond rfl (fun hc => ?_) (fun hc => ?_) | refine HC.cond_b rfl (fun hc => ?_) (fun hc => ?_))
  repeat refine HC.seq ?_
  refine HC.cut (α := Unit) (fun _ => [(5, .bool true)]) (fun _ => []) (fun _ => True) ?_ ?_
  rotate_left
  · rintro - -
    repeat' (first | refine HL.pa ?_ (POp.peqN rfl rfl) | refine HL.pa ?_ (POp.pnil1 rfl rfl) | refine HL.pa ?_ (POp.pnil0 rfl rfl) | refine HL.pa ?_ (POp.nilCheck rfl) | apply HL.fold | apply HA.fold | apply HL.nil | apply HX.n_then | apply HC.seq | apply HC.region | refine HL.pa ?_ | refine HL.ga rfl ?_ | refine HL.na rfl ?_ | refine HL.nu rfl rfl ?_ | apply HC.block | apply HC.skip | apply HC.exit | apply HC.ret | apply HX.e_block | refine HX.e_other rfl ?_ | apply HX.e_then | apply HX.e_again | apply HX.n_block | apply HX.r_then | apply HX.r_block | apply HX.r_again | refine HC.cond_yes rfl ?_ | refine HC.cond_no rfl ?_ | refine HL.one (H1.ldb rfl memA rfl rfl ?_) | refine HC.cond rfl (fun hc => ?_) (fun hc => ?_) | refine HC.cond_b rfl (fun hc => ?_) (fun hc => ?_))
    exact HX.ret1 rfl rfl fun w' hM => ⟨rfl, hM.ext⟩
  refine HC.block ?_
  refine HC.grow0 9 1 ?_
  refine HC.loop (α := Nat × Nat × Jn × List ByteArray × (Option Addr × Nat) × (Option Addr × Nat) × (Option Addr × Nat))
    (fun z => [(1, .slice a0 ops.length c0), (5, .bool true), (6, .pointer (some ⟨bd, 0, none⟩)), (8, .pointer (some ⟨z.2.1, 0, none⟩)), (10, .slice z.2.2.2.2.1.1 z.2.2.2.1.length z.2.2.2.2.1.2), (11, zv (z.1 : Int))])
    (fun z => jnlH z.2.1 bd b1 b2 z.2.2.2.2.2.1.1 z.2.2.2.2.2.1.2 z.2.2.2.2.2.2.1 z.2.2.2.2.2.2.2 z.2.2.1 [A.grow 9 1 z.2.2.2.2.1.1 z.2.2.2.2.1.2 z.2.2.2.1.length (strs z.2.2.2.1)])
    (fun z => z.1 ≤ ops.length ∧ z.1 ≤ 20 ∧ KeepI N z.1 z.2.2.1 z.2.2.2.1)
    (fun z => 20 - z.1) (0, bj, ⟨t00, newK N, false⟩, [], (none, 0), (a, c), (pa, pc))
    ⟨Nat.zero_le _, Nat.zero_le _, rfl, Nat.zero_le _, Nat.zero_le _, (fun _ h => by cases h), .inl ⟨rfl, h0.half⟩⟩ esA (Hs.cons (Pick.there Pick.here) (Hs.cons (Pick.there Pick.here) (Hs.cons (Pick.there Pick.here) (Hs.cons (Pick.there Pick.here) (Hs.cons (Pick.there Pick.here) (Hs.cons (Pick.there Pick.here) (Hs.refl _))))))) ?_
  clear a c pa pc bj
  rintro ⟨i, bj, j, l, ⟨aS, cS⟩, ⟨a, c⟩, ⟨pa, pc⟩⟩ ⟨hi, h20, hI⟩
  dsimp only at hi h20 hI ⊢
  by_cases hlt : i < ops.length ∧ i < 20
  rotate_left
  · by_cases hin : i < ops.length
    · have hn20 : ¬ i < 20 := fun h => hlt ⟨hin, h⟩
      repeat' (first | refine HL.pa ?_ (POp.peqN rfl rfl) | refine HL.pa ?_ (POp.pnil1 rfl rfl) | refine HL.pa ?_ (POp.pnil0 rfl rfl) | refine HL.pa ?_ (POp.nilCheck rfl) | apply HL.fold | apply HA.fold | apply HL.nil | apply HX.n_then | apply HC.seq | apply HC.region | refine HL.pa ?_ | refine HL.ga rfl ?_ | refine HL.na rfl ?_ | refine HL.nu rfl rfl ?_ | apply HC.block | apply HC.skip | apply HC.exit | apply HC.ret | apply HX.e_block | refine HX.e_other rfl ?_ | apply HX.e_then | apply HX.e_again | apply HX.n_block | apply HX.r_then | apply HX.r_block | apply HX.r_again | refine HC.cond_yes rfl ?_ | refine HC.cond_no rfl ?_ | refine HL.one (H1.ldb rfl memA rfl rfl ?_) | refine HC.cond rfl (fun hc => ?_) (fun hc => ?_) | refine HC.cond_b rfl (fun hc => ?_) (fun hc => ?_))
      exact HX.cut () trivial esA (Hs.nil _)
    · repeat' (first | refine HL.pa ?_ (POp.peqN rfl rfl) | refine HL.pa ?_ (POp.pnil1 rfl rfl) | refine HL.pa ?_ (POp.pnil0 rfl rfl) | refine HL.pa ?_ (POp.nilCheck rfl) | apply HL.fold | apply HA.fold | apply HL.nil | apply HX.n_then | apply HC.seq | apply HC.region | refine HL.pa ?_ | refine HL.ga rfl ?_ | refine HL.na rfl ?_ | refine HL.nu rfl rfl ?_ | apply HC.block | apply HC.skip | apply HC.exit | apply HC.ret | apply HX.e_block | refine HX.e_other rfl ?_ | apply HX.e_then | apply HX.e_again | apply HX.n_block | apply HX.r_then | apply HX.r_block | apply HX.r_again | refine HC.cond_yes rfl ?_ | refine HC.cond_no rfl ?_ | refine HL.one (H1.ldb rfl memA rfl rfl ?_) | refine HC.cond rfl (fun hc => ?_) (fun hc => ?_) | refine HC.cond_b rfl (fun hc => ?_) (fun hc => ?_))
      exact HX.cut () trivial esA (Hs.nil _)
  obtain ⟨hlt, hl20⟩ := hlt
  obtain ⟨b, off, hab, hcells⟩ : ∃ b off, a0 = some ⟨b, off, none⟩ ∧ ∀ (j : Nat) (u : Value), (opC (opAt ops i))[j]? = some u → w.cell? ⟨b, off + i * 4 + j, none⟩ = some u := by
    rcases hR.cells with h3 | ⟨b, off, h4, -, h5⟩
    · rw [h3] at hlt; cases hlt
    · exact ⟨b, off, h4, h5 i hlt⟩
  subst hab
  have hkind := hR.kind i hlt
  have hnn := hR.n i hlt
  have hrs := hR.strs i hlt
  have hrk := hR.keep i hlt
  have hq0 := hcells 0 _ rfl
  have hq1 := hcells 1 _ rfl
  have hq2 := hcells 2 _ rfl
  have hq3 := hcells 3 _ rfl
  generalize opAt ops i = o at hkind hnn hrs hrk hq0 hq1 hq2 hq3
  clear hcells
  obtain ⟨kind, gi, nn, K, vl, vk⟩ := o
  dsimp only at hkind hnn hrs hrk hq0 hq1 hq2 hq3
  have hjok := hI.jok (by omega)
  have hll := hI.len
  obtain ⟨ak, ck, rfl, hck⟩ : ∃ ak ck, vk = .slice ak K.length ck ∧ K.length ≤ ck := by
    obtain ⟨a, c, h1, h2, -⟩ := hrk.1
    rw [ints_len] at h1 h2
    exact ⟨a, c, h1, h2⟩
  repeat' (first | refine HL.pa ?_ (POp.peqN rfl rfl) | refine HL.pa ?_ (POp.pnil1 rfl rfl) | refine HL.pa ?_ (POp.pnil0 rfl rfl) | refine HL.pa ?_ (POp.nilCheck rfl) | apply HL.fold | apply HA.fold | apply HL.nil | apply HX.n_then | apply HC.seq | apply HC.region | refine HL.pa ?_ | refine HL.ga rfl ?_ | refine HL.na rfl ?_ | refine HL.nu rfl rfl ?_ | apply HC.block | apply HC.skip | apply HC.exit | apply HC.ret | apply HX.e_block | refine HX.e_other rfl ?_ | apply HX.e_then | apply HX.e_again | apply HX.n_block | apply HX.r_then | apply HX.r_block | apply HX.r_again | refine HC.cond_yes rfl ?_ | refine HC.cond_no rfl ?_ | refine HL.one (H1.ldb rfl memA rfl rfl ?_) | refine HC.cond rfl (fun hc => ?_) (fun hc => ?_) | refine HC.cond_b rfl (fun hc => ?_) (fun hc => ?_))
  refine HL.one (H1.ld0 rfl hq0 rfl ?_)
  repeat' (first | refine HL.pa ?_ (POp.peqN rfl rfl) | refine HL.pa ?_ (POp.pnil1 rfl rfl) | refine HL.pa ?_ (POp.pnil0 rfl rfl) | refine HL.pa ?_ (POp.nilCheck rfl) | apply HL.fold | apply HA.fold | apply HL.nil | apply HX.n_then | apply HC.seq | apply HC.region | refine HL.pa ?_ | refine HL.ga rfl ?_ | refine HL.na rfl ?_ | refine HL.nu rfl rfl ?_ | apply HC.block | apply HC.skip | apply HC.exit | apply HC.ret | apply HX.e_block | refine HX.e_other rfl ?_ | apply HX.e_then | apply HX.e_again | apply HX.n_block | apply HX.r_then | apply HX.r_block | apply HX.r_again | refine HC.cond_yes rfl ?_ | refine HC.cond_no rfl ?_ | refine HL.one (H1.ldb rfl memA rfl rfl ?_) | refine HC.cond rfl (fun hc => ?_) (fun hc => ?_) | refine HC.cond_b rfl (fun hc => ?_) (fun hc => ?_))
  refine HL.one (H1.call0 (vs := [_, zv 8]) rfl rfl (fun w' hM => pick26_fn kind 8 hkind.1 hkind.2 (by decide) w') ?_)
  obtain ⟨κ, hκ⟩ : ∃ κ, κ = pk kind 8 := ⟨_, rfl⟩
  rw [← hκ]
  repeat' (first | refine HL.pa ?_ (POp.peqN rfl rfl) | refine HL.pa ?_ (POp.pnil1 rfl rfl) | refine HL.pa ?_ (POp.pnil0 rfl rfl) | refine HL.pa ?_ (POp.nilCheck rfl) | apply HL.fold | apply HA.fold | apply HL.nil | apply HX.n_then | apply HC.seq | apply HC.region | refine HL.pa ?_ | refine HL.ga rfl ?_ | refine HL.na rfl ?_ | refine HL.nu rfl rfl ?_ | apply HC.skip | apply HC.exit | apply HC.ret | apply HX.e_block | refine HX.e_other rfl ?_ | apply HX.e_then | apply HX.e_again | apply HX.n_block | apply HX.r_then | apply HX.r_block | apply HX.r_again | refine HC.cond_yes rfl ?_ | refine HC.cond_no rfl ?_ | refine HL.one (H1.ldb rfl memA rfl rfl ?_) | refine HC.cond rfl (fun hc => ?_) (fun hc => ?_) | refine HC.cond_b rfl (fun hc => ?_) (fun hc => ?_))
  repeat refine HC.seq ?_
  refine HC.cut (α := Nat × Jn × List ByteArray × (Option Addr × Nat) × (Option Addr × Nat) × (Option Addr × Nat))
    (fun z => [(1, .slice (some ⟨b, off, none⟩) ops.length c0), (5, .bool true), (6, .pointer (some ⟨bd, 0, none⟩)), (8, .pointer (some ⟨z.1, 0, none⟩)), (10, .slice z.2.2.2.1.1 z.2.2.1.length z.2.2.2.1.2), (11, zv (i : Int))])
    (fun z => jnlH z.1 bd b1 b2 z.2.2.2.2.1.1 z.2.2.2.2.1.2 z.2.2.2.2.2.1 z.2.2.2.2.2.2 z.2.1 [A.grow 9 1 z.2.2.2.1.1 z.2.2.2.1.2 z.2.2.1.length (strs z.2.2.1)]) (fun z => KeepI N (i + 1) z.2.1 z.2.2.1) ?_ ?_
  rotate_left
  · clear hll hjok hI bj j l aS cS a c pa pc
    rintro ⟨bj, j, l, ⟨aS, cS⟩, ⟨a, c⟩, ⟨pa, pc⟩⟩ hI
    dsimp only at hI ⊢
    have hll := hI.len
    have hrec : j.t.recs = l := by rw [hI.t, adds0_recs]
    repeat' (first | refine HL.pa ?_ (POp.peqN rfl rfl) | refine HL.pa ?_ (POp.pnil1 rfl rfl) | refine HL.pa ?_ (POp.pnil0 rfl rfl) | refine HL.pa ?_ (POp.nilCheck rfl) | apply HL.fold | apply HA.fold | apply HL.nil | apply HX.n_then | apply HC.seq | apply HC.region | refine HL.pa ?_ | refine HL.ga rfl ?_ | refine HL.na rfl ?_ | refine HL.nu rfl rfl ?_ | apply HC.block | apply HC.skip | apply HC.exit | apply HC.ret | apply HX.e_block | refine HX.e_other rfl ?_ | apply HX.e_then | apply HX.e_again | apply HX.n_block | apply HX.r_then | apply HX.r_block | apply HX.r_again | refine HC.cond_yes rfl ?_ | refine HC.cond_no rfl ?_ | refine HL.one (H1.ldb rfl memA rfl rfl ?_) | refine HC.cond rfl (fun hc => ?_) (fun hc => ?_) | refine HC.cond_b rfl (fun hc => ?_) (fun hc => ?_))
    refine HL.one (H1.callz (α := Option Addr × Nat) (V := fun z => .slice z.1 l.length z.2) (Hn := fun z => [A.grow 9 1 z.1 z.2 l.length (strs l)]) (I := fun _ => True) (vs := [_]) rfl rfl (fun w' hM => by
      have := records2_fn (bj := bj) (bd := bd) (a := a) (c := c) (t := j.t) (br := j.br) (hM.blk memA) (Mm.gr (e := 9) (a := a) (c := c) hM memA) (by rw [hrec]; omega)
      rw [hrec] at this
      exact this) ?_)
    rintro ⟨ax, cx⟩ -
    dsimp only
    repeat' (first | refine HL.pa ?_ (POp.peqN rfl rfl) | refine HL.pa ?_ (POp.pnil1 rfl rfl) | refine HL.pa ?_ (POp.pnil0 rfl rfl) | refine HL.pa ?_ (POp.nilCheck rfl) | apply HL.fold | apply HA.fold | apply HL.nil | apply HX.n_then | apply HC.seq | apply HC.region | refine HL.pa ?_ | refine HL.ga rfl ?_ | refine HL.na rfl ?_ | refine HL.nu rfl rfl ?_ | apply HC.block | apply HC.skip | apply HC.exit | apply HC.ret | apply HX.e_block | refine HX.e_other rfl ?_ | apply HX.e_then | apply HX.e_again | apply HX.n_block | apply HX.r_then | apply HX.r_block | apply HX.r_again | refine HC.cond_yes rfl ?_ | refine HC.cond_no rfl ?_ | refine HL.one (H1.ldb rfl memA rfl rfl ?_) | refine HC.cond rfl (fun hc => ?_) (fun hc => ?_) | refine HC.cond_b rfl (fun hc => ?_) (fun hc => ?_))
    refine HL.growCap (e := 9) (a := ax) (c := cx) (n := l.length) (xs := strs l) (.head _) fun hcx => ?_
    refine HL.pa ?_ (POp.pre_any rfl rfl (by omega) (by omega))
    rw [Int.toNat_natCast]
    repeat' (first | refine HL.pa ?_ (POp.peqN rfl rfl) | refine HL.pa ?_ (POp.pnil1 rfl rfl) | refine HL.pa ?_ (POp.pnil0 rfl rfl) | refine HL.pa ?_ (POp.nilCheck rfl) | apply HL.fold | apply HA.fold | apply HL.nil | apply HX.n_then | apply HC.seq | apply HC.region | refine HL.pa ?_ | refine HL.ga rfl ?_ | refine HL.na rfl ?_ | refine HL.nu rfl rfl ?_ | apply HC.block | apply HC.skip | apply HC.exit | apply HC.ret | apply HX.e_block | refine HX.e_other rfl ?_ | apply HX.e_then | apply HX.e_again | apply HX.n_block | apply HX.r_then | apply HX.r_block | apply HX.r_again | refine HC.cond_yes rfl ?_ | refine HC.cond_no rfl ?_ | refine HL.one (H1.ldb rfl memA rfl rfl ?_) | refine HC.cond rfl (fun hc => ?_) (fun hc => ?_) | refine HC.cond_b rfl (fun hc => ?_) (fun hc => ?_))
    refine HL.one (H1.callx (u := .bool true) (vs := [_, _]) rfl rfl (fun w' hM => by
      have := same26_fn (.slice ax l.length cx) (.slice aS l.length cS) l l (by omega) (by omega) w' (Mm.gr (e := 9) (a := ax) (c := cx) hM (.head _)) (Mm.gr (e := 9) (a := aS) (c := cS) hM memA)
      rw [decide_eq_true rfl] at this
      exact this) ?_)
    repeat' (first | refine HL.pa ?_ (POp.peqN rfl rfl) | refine HL.pa ?_ (POp.pnil1 rfl rfl) | refine HL.pa ?_ (POp.pnil0 rfl rfl) | refine HL.pa ?_ (POp.nilCheck rfl) | apply HL.fold | apply HA.fold | apply HL.nil | apply HX.n_then | apply HC.seq | apply HC.region | refine HL.pa ?_ | refine HL.ga rfl ?_ | refine HL.na rfl ?_ | refine HL.nu rfl rfl ?_ | apply HC.block | apply HC.skip | apply HC.exit | apply HC.ret | apply HX.e_block | refine HX.e_other rfl ?_ | apply HX.e_then | apply HX.e_again | apply HX.n_block | apply HX.r_then | apply HX.r_block | apply HX.r_again | refine HC.cond_yes rfl ?_ | refine HC.cond_no rfl ?_ | refine HL.one (H1.ldb rfl memA rfl rfl ?_) | refine HC.cond rfl (fun hc => ?_) (fun hc => ?_) | refine HC.cond_b rfl (fun hc => ?_) (fun hc => ?_))
    exact HX.again (i + 1, bj, j, l, (aS, cS), (a, c), (pa, pc)) ⟨hlt, hl20, hI⟩ (by show 20 - (i + 1) < 20 - i; omega) esA (by repeat (first | exact Hs.nil _ | (refine Hs.cons pickA ?_)))
  refine HC.block ?_
  have hkl := pk_lt kind (n := 8) (by decide)
  rw [← hκ] at hkl
  have hrec : j.t.recs = l := by rw [hI.t, adds0_recs]
  by_cases h5 : κ = 5
  · obtain ⟨m, hm, hm5⟩ : ∃ m : Nat, 1 + pk nn 5 = (m : Int) ∧ m ≤ 5 := ⟨(1 + pk nn 5).toNat, by have := pk_lt nn (n := 5) (by decide); omega⟩
    repeat' (first | refine HL.pa ?_ (POp.peqN rfl rfl) | refine HL.pa ?_ (POp.pnil1 rfl rfl) | refine HL.pa ?_ (POp.pnil0 rfl rfl) | refine HL.pa ?_ (POp.nilCheck rfl) | apply HL.fold | apply HA.fold | apply HL.nil | apply HX.n_then | apply HC.seq | apply HC.region | refine HL.pa ?_ | refine HL.ga rfl ?_ | refine HL.na rfl ?_ | refine HL.nu rfl rfl ?_ | apply HC.block | apply HC.skip | apply HC.exit | apply HC.ret | apply HX.e_block | refine HX.e_other rfl ?_ | apply HX.e_then | apply HX.e_again | apply HX.n_block | apply HX.r_then | apply HX.r_block | apply HX.r_again | refine HC.cond_yes rfl ?_ | refine HC.cond_no rfl ?_ | refine HL.one (H1.ldb rfl memA rfl rfl ?_) | refine HC.cond rfl (fun hc => ?_) (fun hc => ?_) | refine HC.cond_b rfl (fun hc => ?_) (fun hc => ?_))
    refine HL.one (H1.ld0 rfl hq2 rfl ?_)
    repeat' (first | refine HL.pa ?_ (POp.peqN rfl rfl) | refine HL.pa ?_ (POp.pnil1 rfl rfl) | refine HL.pa ?_ (POp.pnil0 rfl rfl) | refine HL.pa ?_ (POp.nilCheck rfl) | apply HL.fold | apply HA.fold | apply HL.nil | apply HX.n_then | apply HC.seq | apply HC.region | refine HL.pa ?_ | refine HL.ga rfl ?_ | refine HL.na rfl ?_ | refine HL.nu rfl rfl ?_ | apply HC.block | apply HC.skip | apply HC.exit | apply HC.ret | apply HX.e_block | refine HX.e_other rfl ?_ | apply HX.e_then | apply HX.e_again | apply HX.n_block | apply HX.r_then | apply HX.r_block | apply HX.r_again | refine HC.cond_yes rfl ?_ | refine HC.cond_no rfl ?_ | refine HL.one (H1.ldb rfl memA rfl rfl ?_) | refine HC.cond rfl (fun hc => ?_) (fun hc => ?_) | refine HC.cond_b rfl (fun hc => ?_) (fun hc => ?_))
    refine HL.one (H1.call0 (vs := [_, zv 5]) rfl rfl (fun w' hM => pick26_fn nn 5 hnn.1 hnn.2 (by decide) w') ?_)
    repeat' (first | refine HL.pa ?_ (POp.peqN rfl rfl) | refine HL.pa ?_ (POp.pnil1 rfl rfl) | refine HL.pa ?_ (POp.pnil0 rfl rfl) | refine HL.pa ?_ (POp.nilCheck rfl) | apply HL.fold | apply HA.fold | apply HL.nil | apply HX.n_then | apply HC.seq | apply HC.region | refine HL.pa ?_ | refine HL.ga rfl ?_ | refine HL.na rfl ?_ | refine HL.nu rfl rfl ?_ | apply HC.block | apply HC.skip | apply HC.exit | apply HC.ret | apply HX.e_block | refine HX.e_other rfl ?_ | apply HX.e_then | apply HX.e_again | apply HX.n_block | apply HX.r_then | apply HX.r_block | apply HX.r_again | refine HC.cond_yes rfl ?_ | refine HC.cond_no rfl ?_ | refine HL.one (H1.ldb rfl memA rfl rfl ?_) | refine HC.cond rfl (fun hc => ?_) (fun hc => ?_) | refine HC.cond_b rfl (fun hc => ?_) (fun hc => ?_))
    rw [hm]
    refine HL.one (H1.callk (α := Unit) (V := fun _ => zv (j.k.cut m).1) (I := fun _ => True) (H' := fun _ => jnlH bj bd b1 b2 a c pa pc ⟨j.t, (j.k.cut m).2, j.br⟩ [A.grow 9 1 aS cS l.length (strs l)]) (vs := [_, zv (m : Int)]) rfl rfl
      (fun w' hM => (cut_fn (k := j.k) m (hM.sub (Hs.cons (Pick.there (Pick.there Pick.here)) (Hs.cons (Pick.there (Pick.there Pick.here)) (Hs.cons (Pick.there (Pick.there Pick.here)) (Hs.cons (Pick.there (Pick.there Pick.here)) (Hs.refl _))))))).mono fun v w2 h => ⟨(), trivial, h.1, h.2.sub (Hs.cons (Pick.there (Pick.there (Pick.there (Pick.there Pick.here)))) (Hs.cons (Pick.there (Pick.there (Pick.there (Pick.there Pick.here)))) (Hs.refl _)))⟩) ?_)
    rintro - -
    repeat' (first | refine HL.pa ?_ (POp.peqN rfl rfl) | refine HL.pa ?_ (POp.pnil1 rfl rfl) | refine HL.pa ?_ (POp.pnil0 rfl rfl) | refine HL.pa ?_ (POp.nilCheck rfl) | apply HL.fold | apply HA.fold | apply HL.nil | apply HX.n_then | apply HC.seq | apply HC.region | refine HL.pa ?_ | refine HL.ga rfl ?_ | refine HL.na rfl ?_ | refine HL.nu rfl rfl ?_ | apply HC.block | apply HC.skip | apply HC.exit | apply HC.ret | apply HX.e_block | refine HX.e_other rfl ?_ | apply HX.e_then | apply HX.e_again | apply HX.n_block | apply HX.r_then | apply HX.r_block | apply HX.r_again | refine HC.cond_yes rfl ?_ | refine HC.cond_no rfl ?_ | refine HL.one (H1.ldb rfl memA rfl rfl ?_) | refine HC.cond rfl (fun hc => ?_) (fun hc => ?_) | refine HC.cond_b rfl (fun hc => ?_) (fun hc => ?_))
    exact HX.cut (bj, ⟨j.t, (j.k.cut m).2, j.br⟩, l, (aS, cS), (a, c), (pa, pc)) (hI.cut m (by omega)) esA (Hs.refl _)
  repeat' (first | refine HL.pa ?_ (POp.peqN rfl rfl) | refine HL.pa ?_ (POp.pnil1 rfl rfl) | refine HL.pa ?_ (POp.pnil0 rfl rfl) | refine HL.pa ?_ (POp.nilCheck rfl) | apply HL.fold | apply HA.fold | apply HL.nil | apply HX.n_then | apply HC.seq | apply HC.region | refine HL.pa ?_ | refine HL.ga rfl ?_ | refine HL.na rfl ?_ | refine HL.nu rfl rfl ?_ | apply HC.block | apply HC.skip | apply HC.exit | apply HC.ret | apply HX.e_block | refine HX.e_other rfl ?_ | apply HX.e_then | apply HX.e_again | apply HX.n_block | apply HX.r_then | apply HX.r_block | apply HX.r_again | refine HC.cond_yes rfl ?_ | refine HC.cond_no rfl ?_ | refine HL.one (H1.ldb rfl memA rfl rfl ?_))
  obtain ⟨bq, hbq⟩ : ∃ bq, bq = decide (κ = 6 ∨ κ = 7) := ⟨_, rfl⟩
  repeat refine HC.seq ?_
  refine HC.cut (α := Unit) (fun _ => [(1, .slice (some ⟨b, off, none⟩) ops.length c0), (5, .bool true), (6, .pointer (some ⟨bd, 0, none⟩)), (8, .pointer (some ⟨bj, 0, none⟩)), (10, .slice aS l.length cS), (11, zv (i : Int)), (78, .bool bq)]) (fun _ => jnlH bj bd b1 b2 a c pa pc j [A.grow 9 1 aS cS l.length (strs l)]) (fun _ => True) ?_ ?_
  · by_cases h6 : κ = 6
    · obtain rfl : bq = decide (κ = 6) := by rw [hbq]; exact decide_eq_decide.2 (by omega)
      repeat' (first | refine HL.pa ?_ (POp.peqN rfl rfl) | refine HL.pa ?_ (POp.pnil1 rfl rfl) | refine HL.pa ?_ (POp.pnil0 rfl rfl) | refine HL.pa ?_ (POp.nilCheck rfl) | apply HL.fold | apply HA.fold | apply HL.nil | apply HX.n_then | apply HC.seq | apply HC.region | refine HL.pa ?_ | refine HL.ga rfl ?_ | refine HL.na rfl ?_ | refine HL.nu rfl rfl ?_ | apply HC.block | apply HC.skip | apply HC.exit | apply HC.ret | apply HX.e_block | refine HX.e_other rfl ?_ | apply HX.e_then | apply HX.e_again | apply HX.n_block | apply HX.r_then | apply HX.r_block | apply HX.r_again | refine HC.cond_yes rfl ?_ | refine HC.cond_no rfl ?_ | refine HL.one (H1.ldb rfl memA rfl rfl ?_) | refine HC.cond rfl (fun hc => ?_) (fun hc => ?_) | refine HC.cond_b rfl (fun hc => ?_) (fun hc => ?_))
      exact HX.cut () trivial esA (Hs.refl _)
    · obtain rfl : bq = decide (κ = 7) := by rw [hbq]; exact decide_eq_decide.2 (by omega)
      repeat' (first | refine HL.pa ?_ (POp.peqN rfl rfl) | refine HL.pa ?_ (POp.pnil1 rfl rfl) | refine HL.pa ?_ (POp.pnil0 rfl rfl) | refine HL.pa ?_ (POp.nilCheck rfl) | apply HL.fold | apply HA.fold | apply HL.nil | apply HX.n_then | apply HC.seq | apply HC.region | refine HL.pa ?_ | refine HL.ga rfl ?_ | refine HL.na rfl ?_ | refine HL.nu rfl rfl ?_ | apply HC.block | apply HC.skip | apply HC.exit | apply HC.ret | apply HX.e_block | refine HX.e_other rfl ?_ | apply HX.e_then | apply HX.e_again | apply HX.n_block | apply HX.r_then | apply HX.r_block | apply HX.r_again | refine HC.cond_yes rfl ?_ | refine HC.cond_no rfl ?_ | refine HL.one (H1.ldb rfl memA rfl rfl ?_) | refine HC.cond rfl (fun hc => ?_) (fun hc => ?_) | refine HC.cond_b rfl (fun hc => ?_) (fun hc => ?_))
      exact HX.cut () trivial esA (Hs.refl _)
  rintro - -
  clear hbq hκ hkl h5
  cases bq with
  | true =>
    have hm20 : min (K.length : Int) 20 = ((min K.length 20 : Nat) : Int) := by omega
    obtain ⟨K2, hK2⟩ : ∃ K2, K2 = K.take (min K.length 20) := ⟨_, rfl⟩
    have hK2l : K2.length = min K.length 20 := by rw [hK2, List.length_take]; omega
    obtain ⟨m, k3, hpre, hop, hI3, hok3, hp3⟩ := hI.crash hNb.1 (by omega) K2 nn
    obtain ⟨G, -, -, hen⟩ := hI.ends
    repeat' (first | refine HL.pa ?_ (POp.peqN rfl rfl) | refine HL.pa ?_ (POp.pnil1 rfl rfl) | refine HL.pa ?_ (POp.pnil0 rfl rfl) | refine HL.pa ?_ (POp.nilCheck rfl) | apply HL.fold | apply HA.fold | apply HL.nil | apply HX.n_then | apply HC.seq | apply HC.region | refine HL.pa ?_ | refine HL.ga rfl ?_ | refine HL.na rfl ?_ | refine HL.nu rfl rfl ?_ | apply HC.block | apply HC.skip | apply HC.exit | apply HC.ret | apply HX.e_block | refine HX.e_other rfl ?_ | apply HX.e_then | apply HX.e_again | apply HX.n_block | apply HX.r_then | apply HX.r_block | apply HX.r_again | refine HC.cond_yes rfl ?_ | refine HC.cond_no rfl ?_ | refine HL.one (H1.ldb rfl memA rfl rfl ?_) | refine HC.cond rfl (fun hc => ?_) (fun hc => ?_) | refine HC.cond_b rfl (fun hc => ?_) (fun hc => ?_))
    refine HC.cut (α := Unit) (fun _ => [(1, .slice (some ⟨b, off, none⟩) ops.length c0), (5, .bool true), (6, .pointer (some ⟨bd, 0, none⟩)), (10, .slice aS l.length cS), (11, zv (i : Int))]) (fun _ => dkH bd b1 b2 pa pc (j.k.crash K2 nn) [A.grow 9 1 aS cS l.length (strs l)]) (fun _ => True) ?_ ?_
    · refine HC.anyC ([(⟨b, off + i * 4 + 3, none⟩, .slice ak K.length ck), (⟨b, off + i * 4 + 2, none⟩, zv nn)]) rfl ?_
      refine HB.pa 0 rfl ?_
      refine HB.pa 1 rfl ?_
      refine HB.pa 2 rfl ?_
      refine HB.pa 3 rfl ?_
      refine HB.pa 4 rfl ?_
      refine HB.ld 5 rfl rfl memD ?_
      refine HB.pa 6 rfl ?_
      refine HB.pa 7 rfl ?_
      refine HB.pa 8 rfl ?_
      refine HB.pa 9 rfl ?_
      refine HB.ld 10 rfl rfl memD ?_
      refine HB.pa 11 rfl ?_
      refine HB.pa 12 rfl ?_
      refine HB.pa 13 rfl ?_ (POp.pre_any rfl rfl (by omega) (by omega))
      rw [hm20, Int.toNat_natCast, ← hK2l]
      refine HB.pa 14 rfl ?_
      refine HB.pa 15 rfl ?_
      refine HB.pa 16 rfl ?_
      refine HB.pa 17 rfl ?_
      refine HB.ld 18 rfl rfl memD ?_
      refine HB.all (by (exact Keep.base hq3 (Keep.base hq2 Keep.nil))) [19] (by kernel_rfl) rfl ⟨⟨_, rfl, ?_⟩, trivial⟩
      refine HP.one ?_
      refine H1.callk (α := Unit) (V := fun _ => zv 0) (I := fun _ => True) (H' := fun _ => dkH bd b1 b2 pa pc (j.k.crash K2 nn) [A.grow 9 1 aS cS l.length (strs l)]) (vs := [_, _, _]) rfl rfl
          (fun w' hM => (crash_fn K2 nn hnn.1 hnn.2 (hM.sub (Hs.cons (Pick.there (Pick.there Pick.here)) (Hs.cons (Pick.there (Pick.there Pick.here)) (Hs.cons (Pick.there (Pick.there Pick.here)) (Hs.cons (Pick.there (Pick.there Pick.here)) (Hs.refl _).skip.skip))))) hen.ok hen.fits (by omega) (fun w2 hM2 => by
            have := (hrk.1.ext hM2.ext).ipre (k := K2.length) (by omega)
            rw [hK2l, ← hK2] at this
            rw [hK2l]
            exact this)).mono fun v w2 h => ⟨(), trivial, h⟩) ?_
      rintro - -
      apply HB.fold
      refine HB.done (by (exact Keep.base hq3 (Keep.base hq2 Keep.nil))) (by kernel_rfl) ?_
      repeat' (first | refine HL.pa ?_ (POp.peqN rfl rfl) | refine HL.pa ?_ (POp.pnil1 rfl rfl) | refine HL.pa ?_ (POp.pnil0 rfl rfl) | refine HL.pa ?_ (POp.nilCheck rfl) | apply HL.fold | apply HA.fold | apply HL.nil | apply HX.n_then | apply HC.seq | apply HC.region | refine HL.pa ?_ | refine HL.ga rfl ?_ | refine HL.na rfl ?_ | refine HL.nu rfl rfl ?_ | apply HC.block | apply HC.skip | apply HC.exit | apply HC.ret | apply HX.e_block | refine HX.e_other rfl ?_ | apply HX.e_then | apply HX.e_again | apply HX.n_block | apply HX.r_then | apply HX.r_block | apply HX.r_again | refine HC.cond_yes rfl ?_ | refine HC.cond_no rfl ?_ | refine HL.one (H1.ldb rfl memA rfl rfl ?_) | refine HC.cond rfl (fun hc => ?_) (fun hc => ?_) | refine HC.cond_b rfl (fun hc => ?_) (fun hc => ?_))
      exact HX.cut () trivial esA (Hs.refl _)
    rintro - -
    generalize j.k.crash K2 nn = k2 at hop hok3 hp3
    repeat' (first | refine HL.pa ?_ (POp.peqN rfl rfl) | refine HL.pa ?_ (POp.pnil1 rfl rfl) | refine HL.pa ?_ (POp.pnil0 rfl rfl) | refine HL.pa ?_ (POp.nilCheck rfl) | apply HL.fold | apply HA.fold | apply HL.nil | apply HX.n_then | apply HC.seq | apply HC.region | refine HL.pa ?_ | refine HL.ga rfl ?_ | refine HL.na rfl ?_ | refine HL.nu rfl rfl ?_ | apply HC.block | apply HC.skip | apply HC.exit | apply HC.ret | apply HX.e_block | refine HX.e_other rfl ?_ | apply HX.e_then | apply HX.e_again | apply HX.n_block | apply HX.r_then | apply HX.r_block | apply HX.r_again | refine HC.cond_yes rfl ?_ | refine HC.cond_no rfl ?_ | refine HL.one (H1.ldb rfl memA rfl rfl ?_) | refine HC.cond rfl (fun hc => ?_) (fun hc => ?_) | refine HC.cond_b rfl (fun hc => ?_) (fun hc => ?_))
    refine HL.one (H1.callk (α := Nat × (Option Addr × Nat) × (Option Addr × Nat)) (V := fun z => .tuple #[.pointer (some ⟨z.1, 0, none⟩), zv 0]) (I := fun _ => True) (H' := fun z => jnlH z.1 bd b1 b2 z.2.1.1 z.2.1.2 z.2.2.1 z.2.2.2 ⟨adds t00 m, k3, false⟩ [A.grow 9 1 aS cS l.length (strs l)]) (vs := [_]) rfl rfl
      (fun w' hM => jopen_ok hop hG hE hM hok3 (by rw [hp3]; exact Nat.zero_le _)) ?_)
    rintro ⟨bk, ⟨a3, c3⟩, ⟨pa3, pc3⟩⟩ -
    dsimp only
    have hrec3 := adds0_recs m
    have hml := hI3.len
    have hlm := hpre.length_le
    have htk : m.take l.length = l := (List.prefix_iff_eq_take.1 hpre).symm
    repeat' (first | refine HL.pa ?_ (POp.peqN rfl rfl) | refine HL.pa ?_ (POp.pnil1 rfl rfl) | refine HL.pa ?_ (POp.pnil0 rfl rfl) | refine HL.pa ?_ (POp.nilCheck rfl) | apply HL.fold | apply HA.fold | apply HL.nil | apply HX.n_then | apply HC.seq | apply HC.region | refine HL.pa ?_ | refine HL.ga rfl ?_ | refine HL.na rfl ?_ | refine HL.nu rfl rfl ?_ | apply HC.block | apply HC.skip | apply HC.exit | apply HC.ret | apply HX.e_block | refine HX.e_other rfl ?_ | apply HX.e_then | apply HX.e_again | apply HX.n_block | apply HX.r_then | apply HX.r_block | apply HX.r_again | refine HC.cond_yes rfl ?_ | refine HC.cond_no rfl ?_ | refine HL.one (H1.ldb rfl memA rfl rfl ?_) | refine HC.cond rfl (fun hc => ?_) (fun hc => ?_) | refine HC.cond_b rfl (fun hc => ?_) (fun hc => ?_))
    refine HL.one (H1.callz (α := Option Addr × Nat) (V := fun z => .slice z.1 m.length z.2) (Hn := fun z => [A.grow 9 1 z.1 z.2 m.length (strs m)]) (I := fun _ => True) (vs := [_]) rfl rfl (fun w' hM => by
      have := records2_fn (bj := bk) (bd := bd) (a := a3) (c := c3) (t := adds t00 m) (br := false) (hM.blk memA) (Mm.gr (e := 9) (a := a3) (c := c3) hM memA) (by rw [hrec3]; omega)
      rw [hrec3] at this
      exact this) ?_)
    rintro ⟨ax, cx⟩ -
    dsimp only
    repeat' (first | refine HL.pa ?_ (POp.peqN rfl rfl) | refine HL.pa ?_ (POp.pnil1 rfl rfl) | refine HL.pa ?_ (POp.pnil0 rfl rfl) | refine HL.pa ?_ (POp.nilCheck rfl) | apply HL.fold | apply HA.fold | apply HL.nil | apply HX.n_then | apply HC.seq | apply HC.region | refine HL.pa ?_ | refine HL.ga rfl ?_ | refine HL.na rfl ?_ | refine HL.nu rfl rfl ?_ | apply HC.block | apply HC.skip | apply HC.exit | apply HC.ret | apply HX.e_block | refine HX.e_other rfl ?_ | apply HX.e_then | apply HX.e_again | apply HX.n_block | apply HX.r_then | apply HX.r_block | apply HX.r_again | refine HC.cond_yes rfl ?_ | refine HC.cond_no rfl ?_ | refine HL.one (H1.ldb rfl memA rfl rfl ?_) | refine HC.cond rfl (fun hc => ?_) (fun hc => ?_) | refine HC.cond_b rfl (fun hc => ?_) (fun hc => ?_))
    refine HL.one (H1.callz (α := Option Addr × Nat) (V := fun z => .slice z.1 m.length z.2) (Hn := fun z => [A.grow 9 1 z.1 z.2 m.length (strs m)]) (I := fun _ => True) (vs := [_]) rfl rfl (fun w' hM => by
      have := records2_fn (bj := bk) (bd := bd) (a := a3) (c := c3) (t := adds t00 m) (br := false) (hM.blk memA) (Mm.gr (e := 9) (a := a3) (c := c3) hM memA) (by rw [hrec3]; omega)
      rw [hrec3] at this
      exact this) ?_)
    rintro ⟨ay, cy⟩ -
    dsimp only
    repeat' (first | refine HL.pa ?_ (POp.peqN rfl rfl) | refine HL.pa ?_ (POp.pnil1 rfl rfl) | refine HL.pa ?_ (POp.pnil0 rfl rfl) | refine HL.pa ?_ (POp.nilCheck rfl) | apply HL.fold | apply HA.fold | apply HL.nil | apply HX.n_then | apply HC.seq | apply HC.region | refine HL.pa ?_ | refine HL.ga rfl ?_ | refine HL.na rfl ?_ | refine HL.nu rfl rfl ?_ | apply HC.block | apply HC.skip | apply HC.exit | apply HC.ret | apply HX.e_block | refine HX.e_other rfl ?_ | apply HX.e_then | apply HX.e_again | apply HX.n_block | apply HX.r_then | apply HX.r_block | apply HX.r_again | refine HC.cond_yes rfl ?_ | refine HC.cond_no rfl ?_ | refine HL.one (H1.ldb rfl memA rfl rfl ?_) | refine HC.cond rfl (fun hc => ?_) (fun hc => ?_) | refine HC.cond_b rfl (fun hc => ?_) (fun hc => ?_))
    refine HL.growCap (e := 9) (a := ay) (c := cy) (n := m.length) (xs := strs m) (.head _) fun hcy => ?_
    refine HL.pa ?_ (POp.pre_any rfl rfl (by omega) (by omega))
    rw [Int.toNat_natCast]
    repeat' (first | refine HL.pa ?_ (POp.peqN rfl rfl) | refine HL.pa ?_ (POp.pnil1 rfl rfl) | refine HL.pa ?_ (POp.pnil0 rfl rfl) | refine HL.pa ?_ (POp.nilCheck rfl) | apply HL.fold | apply HA.fold | apply HL.nil | apply HX.n_then | apply HC.seq | apply HC.region | refine HL.pa ?_ | refine HL.ga rfl ?_ | refine HL.na rfl ?_ | refine HL.nu rfl rfl ?_ | apply HC.block | apply HC.skip | apply HC.exit | apply HC.ret | apply HX.e_block | refine HX.e_other rfl ?_ | apply HX.e_then | apply HX.e_again | apply HX.n_block | apply HX.r_then | apply HX.r_block | apply HX.r_again | refine HC.cond_yes rfl ?_ | refine HC.cond_no rfl ?_ | refine HL.one (H1.ldb rfl memA rfl rfl ?_) | refine HC.cond rfl (fun hc => ?_) (fun hc => ?_) | refine HC.cond_b rfl (fun hc => ?_) (fun hc => ?_))
    refine HL.one (H1.callx (u := .bool true) (vs := [_, _]) rfl rfl (fun w' hM => by
      have := same26_fn (.slice ay l.length cy) (.slice aS l.length cS) (m.take l.length) l (by rw [htk]; omega) (by omega) w' ((Mm.gr (e := 9) (a := ay) (c := cy) hM (.head _)).spreK hlm) (Mm.gr (e := 9) (a := aS) (c := cS) hM memA)
      rw [decide_eq_true htk] at this
      exact this) ?_)
    repeat' (first | refine HL.pa ?_ (POp.peqN rfl rfl) | refine HL.pa ?_ (POp.pnil1 rfl rfl) | refine HL.pa ?_ (POp.pnil0 rfl rfl) | refine HL.pa ?_ (POp.nilCheck rfl) | apply HL.fold | apply HA.fold | apply HL.nil | apply HX.n_then | apply HC.seq | apply HC.region | refine HL.pa ?_ | refine HL.ga rfl ?_ | refine HL.na rfl ?_ | refine HL.nu rfl rfl ?_ | apply HC.block | apply HC.skip | apply HC.exit | apply HC.ret | apply HX.e_block | refine HX.e_other rfl ?_ | apply HX.e_then | apply HX.e_again | apply HX.n_block | apply HX.r_then | apply HX.r_block | apply HX.r_again | refine HC.cond_yes rfl ?_ | refine HC.cond_no rfl ?_ | refine HL.one (H1.ldb rfl memA rfl rfl ?_) | refine HC.cond rfl (fun hc => ?_) (fun hc => ?_) | refine HC.cond_b rfl (fun hc => ?_) (fun hc => ?_))
    refine HL.one (H1.callz (α := Option Addr × Nat) (V := fun z => .slice z.1 m.length z.2) (Hn := fun z => [A.grow 9 1 z.1 z.2 m.length (strs m)]) (I := fun _ => True) (vs := [_]) rfl rfl (fun w' hM => by
      have := records2_fn (bj := bk) (bd := bd) (a := a3) (c := c3) (t := adds t00 m) (br := false) (hM.blk memA) (Mm.gr (e := 9) (a := a3) (c := c3) hM memA) (by rw [hrec3]; omega)
      rw [hrec3] at this
      exact this) ?_)
    rintro ⟨az, cz⟩ -
    dsimp only
    repeat' (first | refine HL.pa ?_ (POp.peqN rfl rfl) | refine HL.pa ?_ (POp.pnil1 rfl rfl) | refine HL.pa ?_ (POp.pnil0 rfl rfl) | refine HL.pa ?_ (POp.nilCheck rfl) | apply HL.fold | apply HA.fold | apply HL.nil | apply HX.n_then | apply HC.seq | apply HC.region | refine HL.pa ?_ | refine HL.ga rfl ?_ | refine HL.na rfl ?_ | refine HL.nu rfl rfl ?_ | apply HC.block | apply HC.skip | apply HC.exit | apply HC.ret | apply HX.e_block | refine HX.e_other rfl ?_ | apply HX.e_then | apply HX.e_again | apply HX.n_block | apply HX.r_then | apply HX.r_block | apply HX.r_again | refine HC.cond_yes rfl ?_ | refine HC.cond_no rfl ?_ | refine HL.one (H1.ldb rfl memA rfl rfl ?_) | refine HC.cond rfl (fun hc => ?_) (fun hc => ?_) | refine HC.cond_b rfl (fun hc => ?_) (fun hc => ?_))
    exact HX.cut (bk, ⟨adds t00 m, k3, false⟩, m, (az, cz), (a3, c3), (pa3, pc3)) hI3 esA (by repeat (first | exact Hs.nil _ | (refine Hs.cons pickA ?_)))
  | false =>
    obtain ⟨G, hGd⟩ : ∃ G, G = few26 gi := ⟨_, rfl⟩
    have hneed := few_need2 gi
    have hlong := few_long2 gi
    have hlen := few26_len gi
    have hsz := few26_size gi
    rw [← hGd] at hneed hlong hlen hsz
    obtain ⟨e, j2, hap, hcase⟩ := hI.app hlong hlen hsz
    repeat' (first | refine HL.pa ?_ (POp.peqN rfl rfl) | refine HL.pa ?_ (POp.pnil1 rfl rfl) | refine HL.pa ?_ (POp.pnil0 rfl rfl) | refine HL.pa ?_ (POp.nilCheck rfl) | apply HL.fold | apply HA.fold | apply HL.nil | apply HX.n_then | apply HC.seq | apply HC.region | refine HL.pa ?_ | refine HL.ga rfl ?_ | refine HL.na rfl ?_ | refine HL.nu rfl rfl ?_ | apply HC.block | apply HC.skip | apply HC.exit | apply HC.ret | apply HX.e_block | refine HX.e_other rfl ?_ | apply HX.e_then | apply HX.e_again | apply HX.n_block | apply HX.r_then | apply HX.r_block | apply HX.r_again | refine HC.cond_yes rfl ?_ | refine HC.cond_no rfl ?_ | refine HL.one (H1.ldb rfl memA rfl rfl ?_) | refine HC.cond rfl (fun hc => ?_) (fun hc => ?_) | refine HC.cond_b rfl (fun hc => ?_) (fun hc => ?_))
    refine HL.one (H1.callz (α := Option Addr × Nat) (V := fun z => .slice z.1 l.length z.2) (Hn := fun z => [A.grow 9 1 z.1 z.2 l.length (strs l)]) (I := fun _ => True) (vs := [_]) rfl rfl (fun w' hM => by
      have := records2_fn (bj := bj) (bd := bd) (a := a) (c := c) (t := j.t) (br := j.br) (hM.blk memA) (Mm.gr (e := 9) (a := a) (c := c) hM memA) (by rw [hrec]; omega)
      rw [hrec] at this
      exact this) ?_)
    rintro ⟨aw, cw⟩ -
    dsimp only
    repeat' (first | refine HL.pa ?_ (POp.peqN rfl rfl) | refine HL.pa ?_ (POp.pnil1 rfl rfl) | refine HL.pa ?_ (POp.pnil0 rfl rfl) | refine HL.pa ?_ (POp.nilCheck rfl) | apply HL.fold | apply HA.fold | apply HL.nil | apply HX.n_then | apply HC.seq | apply HC.region | refine HL.pa ?_ | refine HL.ga rfl ?_ | refine HL.na rfl ?_ | refine HL.nu rfl rfl ?_ | apply HC.block | apply HC.skip | apply HC.exit | apply HC.ret | apply HX.e_block | refine HX.e_other rfl ?_ | apply HX.e_then | apply HX.e_again | apply HX.n_block | apply HX.r_then | apply HX.r_block | apply HX.r_again | refine HC.cond_yes rfl ?_ | refine HC.cond_no rfl ?_ | refine HL.one (H1.ldb rfl memA rfl rfl ?_) | refine HC.cond rfl (fun hc => ?_) (fun hc => ?_) | refine HC.cond_b rfl (fun hc => ?_) (fun hc => ?_))
    refine HL.one (H1.ld0 rfl hq1 rfl ?_)
    repeat' (first | refine HL.pa ?_ (POp.peqN rfl rfl) | refine HL.pa ?_ (POp.pnil1 rfl rfl) | refine HL.pa ?_ (POp.pnil0 rfl rfl) | refine HL.pa ?_ (POp.nilCheck rfl) | apply HL.fold | apply HA.fold | apply HL.nil | apply HX.n_then | apply HC.seq | apply HC.region | refine HL.pa ?_ | refine HL.ga rfl ?_ | refine HL.na rfl ?_ | refine HL.nu rfl rfl ?_ | apply HC.block | apply HC.skip | apply HC.exit | apply HC.ret | apply HX.e_block | refine HX.e_other rfl ?_ | apply HX.e_then | apply HX.e_again | apply HX.n_block | apply HX.r_then | apply HX.r_block | apply HX.r_again | refine HC.cond_yes rfl ?_ | refine HC.cond_no rfl ?_ | refine HL.one (H1.ldb rfl memA rfl rfl ?_) | refine HC.cond rfl (fun hc => ?_) (fun hc => ?_) | refine HC.cond_b rfl (fun hc => ?_) (fun hc => ?_))
    refine HL.one (H1.callz (vs := [_]) rfl rfl (fun w' hM => few26_fn vl gi hrs.2.1 hrs.2.2 w' (hrs.1.ext hM.ext)) ?_)
    rw [← hGd]
    rintro ⟨a9, c9⟩ -
    dsimp only
    repeat' (first | refine HL.pa ?_ (POp.peqN rfl rfl) | refine HL.pa ?_ (POp.pnil1 rfl rfl) | refine HL.pa ?_ (POp.pnil0 rfl rfl) | refine HL.pa ?_ (POp.nilCheck rfl) | apply HL.fold | apply HA.fold | apply HL.nil | apply HX.n_then | apply HC.seq | apply HC.region | refine HL.pa ?_ | refine HL.ga rfl ?_ | refine HL.na rfl ?_ | refine HL.nu rfl rfl ?_ | apply HC.block | apply HC.skip | apply HC.exit | apply HC.ret | apply HX.e_block | refine HX.e_other rfl ?_ | apply HX.e_then | apply HX.e_again | apply HX.n_block | apply HX.r_then | apply HX.r_block | apply HX.r_again | refine HC.cond_yes rfl ?_ | refine HC.cond_no rfl ?_ | refine HL.one (H1.ldb rfl memA rfl rfl ?_) | refine HC.cond rfl (fun hc => ?_) (fun hc => ?_) | refine HC.cond_b rfl (fun hc => ?_) (fun hc => ?_))
    refine HL.mem (jnlH bj bd b1 b2 a c pa pc j [A.grow 9 1 a9 c9 G.length (strs G), A.grow 9 1 aw cw l.length (strs l), A.grow 9 1 aS cS l.length (strs l)]) (by repeat (first | exact Hs.nil _ | (refine Hs.cons pickA ?_))) ?_
    refine HL.one (H1.callk (α := (Option Addr × Nat) × (Option Addr × Nat)) (V := fun _ => zv e) (I := fun _ => True) (H' := fun q => jnlH bj bd b1 b2 q.1.1 q.1.2 q.2.1 q.2.2 j2 [A.grow 9 1 a9 c9 G.length (strs G), A.grow 9 1 aw cw l.length (strs l), A.grow 9 1 aS cS l.length (strs l)]) (vs := [_, _]) rfl rfl
      (fun w' hM => appendG_fn hap hG hM (.head _) hjok (by omega) (fun _ => by rw [outsL_need]; omega)) ?_)
    rintro ⟨⟨a', c'⟩, ⟨pa', pc'⟩⟩ -
    dsimp only
    rcases hcase with ⟨rfl, hI2⟩ | ⟨hne, hI2⟩
    · repeat' (first | refine HL.pa ?_ (POp.peqN rfl rfl) | refine HL.pa ?_ (POp.pnil1 rfl rfl) | refine HL.pa ?_ (POp.pnil0 rfl rfl) | refine HL.pa ?_ (POp.nilCheck rfl) | apply HL.fold | apply HA.fold | apply HL.nil | apply HX.n_then | apply HC.seq | apply HC.region | refine HL.pa ?_ | refine HL.ga rfl ?_ | refine HL.na rfl ?_ | refine HL.nu rfl rfl ?_ | apply HC.block | apply HC.skip | apply HC.exit | apply HC.ret | apply HX.e_block | refine HX.e_other rfl ?_ | apply HX.e_then | apply HX.e_again | apply HX.n_block | apply HX.r_then | apply HX.r_block | apply HX.r_again | refine HC.cond_yes rfl ?_ | refine HC.cond_no rfl ?_ | refine HL.one (H1.ldb rfl memA rfl rfl ?_) | refine HC.cond rfl (fun hc => ?_) (fun hc => ?_) | refine HC.cond_b rfl (fun hc => ?_) (fun hc => ?_))
      refine HC.anyC ([(⟨b, off + i * 4 + 1, none⟩, vl)]) rfl ?_
      refine HB.pa 1 rfl ?_
      refine HB.pa 3 rfl ?_
      refine HB.pa 4 rfl ?_
      refine HB.pa 5 rfl ?_
      refine HB.pa 6 rfl ?_
      refine HB.ld 7 rfl rfl memD ?_
      refine HB.all (by (exact Keep.base hq1 Keep.nil)) [0] (by kernel_rfl) rfl ⟨⟨_, rfl, ?_⟩, trivial⟩
      refine HP.one ?_
      refine H1.lit0 rfl (fun b9 => ?_)
      apply HB.fold
      refine HB.all (by (exact Keep.base hq1 Keep.nil)) [2] (by kernel_rfl) rfl ⟨⟨_, rfl, ?_⟩, trivial⟩
      refine HP.one ?_
      refine H1.appR3 (n := 0) (m := l.length) (vs := strs l) rfl (strs_len2 l) rfl rfl (fun _ _ => by first | ((repeat (first | with_reducible exact Rpl.here | with_reducible apply Rpl.there)); done) | (repeat (first | exact Rpl.here | apply Rpl.there))) (fun w' hM => Mm.gr (e := 9) (a := aw) (c := cw) hM memA) (strs_one2 l) (by omega) (by decide) rfl (.inl rfl) (fun a4 c4 ha4 => ?_)
      rw [Nat.zero_add, List.nil_append]
      apply HB.fold
      refine HB.all (by (exact Keep.base hq1 Keep.nil)) [8] (by kernel_rfl) rfl ⟨⟨_, rfl, ?_⟩, trivial⟩
      refine HP.one ?_
      refine H1.callz (vs := [_]) rfl rfl (fun w' hM => few26_fn vl gi hrs.2.1 hrs.2.2 w' (hrs.1.ext hM.ext)) ?_
      rw [← hGd]
      rintro ⟨a5, c5⟩ -
      dsimp only
      apply HB.fold
      refine HB.all (by (exact Keep.base hq1 Keep.nil)) [9] (by kernel_rfl) rfl ⟨⟨_, rfl, ?_⟩, trivial⟩
      refine HP.one ?_
      refine H1.appR3 (n := l.length) (m := G.length) (xs := strs l) (vs := strs G) rfl (strs_len2 G) rfl rfl (fun _ _ => by first | ((repeat (first | with_reducible exact Rpl.here | with_reducible apply Rpl.there)); done) | (repeat (first | exact Rpl.here | apply Rpl.there))) (fun w' hM => Mm.gr (e := 9) (a := a5) (c := c5) hM memA) (strs_one2 G) (by omega) (by decide) rfl (by rw [Nat.zero_add] at ha4; exact ha4) (fun a6 c6 _ => ?_)
      rw [strs_app2, ← List.length_append]
      apply HB.fold
      refine HB.pa 10 rfl ?_
      refine HB.done (by (exact Keep.base hq1 Keep.nil)) (by kernel_rfl) ?_
      repeat' (first | refine HL.pa ?_ (POp.peqN rfl rfl) | refine HL.pa ?_ (POp.pnil1 rfl rfl) | refine HL.pa ?_ (POp.pnil0 rfl rfl) | refine HL.pa ?_ (POp.nilCheck rfl) | apply HL.fold | apply HA.fold | apply HL.nil | apply HX.n_then | apply HC.seq | apply HC.region | refine HL.pa ?_ | refine HL.ga rfl ?_ | refine HL.na rfl ?_ | refine HL.nu rfl rfl ?_ | apply HC.block | apply HC.skip | apply HC.exit | apply HC.ret | apply HX.e_block | refine HX.e_other rfl ?_ | apply HX.e_then | apply HX.e_again | apply HX.n_block | apply HX.r_then | apply HX.r_block | apply HX.r_again | refine HC.cond_yes rfl ?_ | refine HC.cond_no rfl ?_ | refine HL.one (H1.ldb rfl memA rfl rfl ?_) | refine HC.cond rfl (fun hc => ?_) (fun hc => ?_) | refine HC.cond_b rfl (fun hc => ?_) (fun hc => ?_))
      exact HX.cut (bj, j2, l ++ G, (a6, c6), (a', c'), (pa', pc')) hI2 esA (by repeat (first | exact Hs.nil _ | (refine Hs.cons pickA ?_)))
    · repeat' (first | refine HL.pa ?_ (POp.peqN rfl rfl) | refine HL.pa ?_ (POp.pnil1 rfl rfl) | refine HL.pa ?_ (POp.pnil0 rfl rfl) | refine HL.pa ?_ (POp.nilCheck rfl) | apply HL.fold | apply HA.fold | apply HL.nil | apply HX.n_then | apply HC.seq | apply HC.region | refine HL.pa ?_ | refine HL.ga rfl ?_ | refine HL.na rfl ?_ | refine HL.nu rfl rfl ?_ | apply HC.block | apply HC.skip | apply HC.exit | apply HC.ret | apply HX.e_block | refine HX.e_other rfl ?_ | apply HX.e_then | apply HX.e_again | apply HX.n_block | apply HX.r_then | apply HX.r_block | apply HX.r_again | refine HC.cond_yes rfl ?_ | refine HC.cond_no rfl ?_ | refine HL.one (H1.ldb rfl memA rfl rfl ?_) | refine HC.cond rfl (fun hc => ?_) (fun hc => ?_) | refine HC.cond_b rfl (fun hc => ?_) (fun hc => ?_))
      exact HX.cut (bj, j2, l, (aS, cS), (a', c'), (pa', pc')) hI2 esA (by repeat (first | exact Hs.nil _ | (refine Hs.cons pickA ?_)))
end Go.Sx


/- Chapter 26: the law JournalRoom: the walk. -/
import Derived.Test.YtlihcenahjgnmaaDoorJS
import Derived.Test.YtlihcenahjgnmaaDoorHl
namespace Go.Sx
open Go Go.Proofs Go.RowKit
theorem needL_take {l : List ByteArray} {i : Nat} (h : i < l.length) : needL (l.take (i + 1)) = needL (l.take i) + (33 + (strN (fr l i).size).size + (fr l i).size) := by
  rw [take_fr h, needL_app]; rfl
theorem needL_le : ∀ (l : List ByteArray), (∀ r ∈ l, r.size ≤ 100) → needL l ≤ 150 * l.length
  | [], _ => Nat.zero_le _
  | r :: l, h => by
    have h1 := needL_le l fun x hx => h x (List.mem_cons_of_mem _ hx)
    have h2 := h r (List.mem_cons_self ..)
    have h3 := strN_size (n := r.size) (by omega)
    show (33 + (strN r.size).size + r.size) + needL l ≤ 150 * (l.length + 1)
    omega
theorem few_need (l : List ByteArray) : needL (few26 l) ≤ 900 := by
  have h1 := needL_le (few26 l) (few26_size l)
  have h2 := few26_len l
  omega
theorem POp.bneqF {P : Program} {N : Nat} {ds : List Deferred} {E : Env} {t t' ty : TypeId} {x y : Operand} {b c : Bool} [h : UTy P t .bool] (hx : Env.ev E x = some (.bool b)) (hy : Env.ev E y = some (.bool c)) (e : b = c) :
    POp P N ds E (.binOp .neq t x y t') ty (.bool false) := (POp.bneq hx hy).of (by subst e; cases b <;> rfl)
/-- append of a slice of the call's own that is read, onto a literal. -/
theorem H1.appR2 {P : Program} {r : Option Nat} {N : Nat} {ds : List Deferred} {Q : Post} {E : Env} {w0 : World} {H : List Atom} {next : Act → World → Prop} {g : Option (Nat × Bool)} {d : Nat} {t ty : TypeId} {pos : String} {af : Array Edge} {x y : Operand}
    {e : TypeId} {z : Value} {bb n m c c2 : Nat} {a ao : Option Addr} {xs vs : List Value} {H' : Option Addr → Nat → List Atom} [h : UTy P t (.slice e)] [hi : ITy P e z 1 bb] (hzs : z.cells.size = 1) (hvn : vs.length = m)
    (hx : Env.ev E x = some (.slice a n c)) (hy : Env.ev E y = some (.slice ao m c2)) (hr : ∀ a' c', Rpl (A.grow e 1 a c n xs) (A.grow e 1 a' c' (n + m) (xs ++ vs)) H (H' a' c'))
    (hR : ∀ w, Mm w0 H w → Rd w (.slice ao m c2) vs) (h1 : ∀ u ∈ vs, u.oneCell' = true) (hnm : n + m ≤ 1000000) (hb : bb ≤ 1000) (hd : Nat.blt d N = true)
    (ha0 : n = 0 ∨ ∃ b, a = some ⟨b, 0, none⟩) (hn : ∀ a' c', (n + m = 0 ∨ ∃ b, a' = some ⟨b, 0, none⟩) → HN N ds next ((d, .slice a' (n + m) c') :: E) w0 (H' a' c')) :
    H1 P r N ds next ⟨some d, .call ⟨.builtin .append, #[x, y], #[t, t]⟩, ty, pos, af, g⟩ Q E w0 H := by
  subst hvn
  exact H1.appR hzs hx hy hr hR h1 hnm hb hd ha0 hn
theorem blkGrow2 {w0 w : World} {b n sz : Nat} {cs : List Value} {e : TypeId} {H : List Atom} (h : Mm w0 (A.blk b cs e :: H) w) (hl : cs.length = n * sz) (hn : n ≤ 1000000) : Mm w0 (A.grow e sz (some ⟨b, 0, none⟩) n n cs :: H) w := by
  refine ⟨h.ext, fun x hx => ?_, h.nd, h.rng⟩
  rcases List.mem_cons.1 hx with rfl | hx
  · refine ⟨hl, .inr ⟨b, n, cs.toArray, rfl, Nat.zero_le _, h.blk (List.Mem.head _), Nat.le_refl _, by simp only [maxLen]; omega, by simpa using hl, ?_⟩⟩
    rw [← hl, List.take_of_length_le (by simp)]
  · exact h.all x (List.mem_cons_of_mem _ hx)
theorem HL.blkGrow2 {P : Program} {r : Option Nat} {N : Nat} {ds : List Deferred} {ol l : List Oper} {Q : Post} {E : Env} {w0 : World} {H : List Atom} {b n sz : Nat} {cs : List Value} {e : TypeId} (hl : cs.length = n * sz) (hn : n ≤ 1000000)
    (h : HL P r N ds ol l Q E w0 (A.grow e sz (some ⟨b, 0, none⟩) n n cs :: H)) : HL P r N ds ol l Q E w0 (A.blk b cs e :: H) := fun w hM => h w (_root_.Go.Sx.blkGrow2 hM hl hn)
theorem strs_len (l : List ByteArray) : (strs l).length = l.length := by simp [strs]
theorem strs_one (l : List ByteArray) : ∀ u ∈ strs l, u.oneCell' = true := by
  intro u hu
  obtain ⟨s, -, rfl⟩ := List.mem_map.1 hu
  rfl
theorem Clean.nil {j : Jn} {n : Nat} {l : List ByteArray} (h : Clean j n l) : j.append [] = (0, j) := by
  have h1 := h.len
  have h2 := h.fit
  exact append_nil (by rw [h.br]; rintro (h | h) <;> cases h) (by rw [h.dur, h1]; show ¬ _ < ((0 : Nat) : Int); omega) rfl
def sx : List ByteArray := [ByteArray.mk #[120]]
theorem need_x : needL sx = 35 := by
  unfold needL sx
  simp only [List.map_cons, List.map_nil, List.sum_cons, List.sum_nil, strN_len]
  rw [show (ByteArray.mk #[120]).size = 1 from rfl, putN_1 (by decide)]
  rfl
theorem long_x : sx.any isLong = false := not_long fun r hr => by
  rcases List.mem_cons.1 hr with rfl | hr
  · decide
  · cases hr
theorem cut_ok {k : Dk} (hk : k.Ok) (ho : k.off = false) (n : Nat) (hn : n ≤ 1000000) : (k.cut n).2.Ok ∧ (k.cut n).2.dur = k.dur ∧ (k.cut n).2.pend = k.pend ∧ (k.cut n).2.vis = k.vis ∧ (k.cut n).1 = 0 := by
  rw [Dk.cut_on ho]
  exact ⟨⟨hk.len, hk.lo, hk.hi, hn, hk.pend⟩, rfl, rfl, rfl, rfl⟩
/-- What the law does behind: the power is gone. -/
theorem room_second {j : Jn} {n : Nat} {l : List ByteArray} (h : Clean j n l) : ∃ (e2 : Int) (br : Bool) (e3 : Int), (⟨j.t, (j.k.cut 0).2, j.br⟩ : Jn).append sx = (e2, ⟨j.t, (j.k.cut 0).2, br⟩) ∧ (⟨j.t, (j.k.cut 0).2, br⟩ : Jn).append [] = (e3, ⟨j.t, (j.k.cut 0).2, br⟩) ∧
    (((n : Int) - (j.t.size : Int) < 35 ∧ e2 = 261 ∧ e3 = 0) ∨ (¬ (n : Int) - (j.t.size : Int) < 35 ∧ e2 = 251 ∧ e3 = 260)) := by
  have hlen := h.len
  have hfit := h.fit
  have hc : (j.k.cut 0).2 = { j.k with off := true, left := 0 } := by rw [Dk.cut_on h.off]; rfl
  have hdl : (j.k.cut 0).2.dur.length = n := by rw [hc]; show j.k.dur.length = n; rw [h.dur, hlen]
  have hof : (j.k.cut 0).2.off = true := by rw [hc]
  generalize (j.k.cut 0).2 = k at hdl hof
  have hbr := h.br
  by_cases hr : (n : Int) - (j.t.size : Int) < 35
  · refine ⟨261, false, 0, ?_, ?_, .inl ⟨hr, rfl, rfl⟩⟩
    · rw [append_full (by rw [long_x, hbr]; rintro (h | h) <;> cases h) (by show ((k.dur.length : Nat) : Int) - _ < _; rw [outsL_need, need_x, hdl]; exact hr), hbr]
    · exact append_nil (by rintro (h | h) <;> cases h) (by show ¬ ((k.dur.length : Nat) : Int) - (j.t.size : Int) < ((0 : Nat) : Int); omega) rfl
  · refine ⟨251, true, 260, ?_, append_br (.inl rfl), .inr ⟨hr, rfl, rfl⟩⟩
    have hops : runOps (grp j.t (outsL j.t.head sx)) k = (251, k) := by
      unfold grp
      rw [runOps_no (by show ¬ (k.write _ _).1 = 0; rw [Dk.write_off hof]; show ¬ (251 : Int) = 0; decide)]
      exact Dk.write_off hof
    rw [append_no (by rw [long_x, hbr]; rintro (h | h) <;> cases h) (by show ¬ ((k.dur.length : Nat) : Int) - _ < _; rw [outsL_need, need_x, hdl]; exact hr) (outsL_ne (by unfold sx; simp)) (by show ¬ (runOps (grp j.t (outsL j.t.head sx)) k).1 = 0; rw [hops]; show ¬ (251 : Int) = 0; decide)]
    show ((runOps (grp j.t (outsL j.t.head sx)) k).1, (⟨j.t, (runOps (grp j.t (outsL j.t.head sx)) k).2, true⟩ : Jn)) = _
    rw [hops]
/-- The first group of the law. -/
theorem room_first {N : Nat} {G : List ByteArray} (h0 : Clean ⟨t00, newK N, false⟩ N []) (hl : G.any isLong = false) : ∃ (e1 : Int) (j1 : Jn) (l1 : List ByteArray), (⟨t00, newK N, false⟩ : Jn).append G = (e1, j1) ∧ Clean j1 N l1 ∧ ((needL G ≤ N ∧ e1 = 0 ∧ l1 = G) ∨ (¬ needL G ≤ N ∧ e1 = 261 ∧ l1 = [])) := by
  by_cases h : needL G ≤ N
  · obtain ⟨j1, h1, h2⟩ := h0.app hl (by show 0 + (outsL zero32 G).length ≤ N; rw [outsL_need]; omega)
    exact ⟨0, j1, G, h1, h2, .inl ⟨h, rfl, rfl⟩⟩
  · exact ⟨261, _, [], h0.full hl (by show ¬ 0 + (outsL zero32 G).length ≤ N; rw [outsL_need]; omega), h0, .inr ⟨h, rfl, rfl⟩⟩
theorem fr_mem {l : List ByteArray} {i : Nat} (h : i < l.length) : fr l i ∈ l := by unfold fr; simp [h]
theorem few_long (l : List ByteArray) : (few26 l).any isLong = false := not_long fun r hr => Nat.le_trans (few26_size l r hr) (by decide)
attribute [local irreducible] WC WL WX POp Then Again Fn NX W1 WA WO QL RP RA Yld LoopAt HC HL HX HN H1 HA HO HQ HB HP A.blk A.grow A.rd A.obj A.mp AgainH CutH
attribute [local irreducible] newK needL few26 size26
set_option maxHeartbeats 4000000 in
theorem journalRoom_fn {w : World} {ea : Addr} (hG : RoundG w) (hE : ErrG ea w) (n more : Int) (v : Value) (l : List ByteArray) (hn1 : -9223372036854775808 ≤ n) (hn2 : n ≤ 9223372036854775807) (hm1 : -9223372036854775808 ≤ more) (hm2 : more ≤ 9223372036854775807)
    (hR : Rd w v (strs l)) (hs : ∀ s ∈ l, s.size ≤ 9223372036854775807) (hl : l.length ≤ 9223372036854775807) :
    Fn Tryd.prog 3 #[zv n, v, zv more] w fun v w' => v = .bool true ∧ Ext w w' := by
  obtain ⟨N, hN⟩ : ∃ N, N = size26 n := ⟨_, rfl⟩
  obtain ⟨G, hGd⟩ : ∃ G, G = few26 l := ⟨_, rfl⟩
  have hNb := size26_b n
  have hneed := few_need l
  have hlong := few_long l
  have hlen := few26_len l
  have hsz := few26_size l
  rw [← hN] at hNb
  rw [← hGd] at hneed hlong hlen hsz
  have h0 := clean0 (n := N) hNb.1 (by omega)
  refine enterH (l := [_, _, _]) rfl Tryd.ntmps3 rfl ?_
  repeat' (first | refine HL.pa ?_ (POp.bneqF rfl rfl (by first | rfl | decide)) | refine HL.pa ?_ (POp.pnil1 rfl rfl) | refine HL.pa ?_ (POp.pnil0 rfl rfl) | refine HL.pa ?_ (POp.nilCheck rfl) | apply HL.fold | apply HA.fold | apply HL.nil | apply HX.n_then | apply HC.seq | apply HC.region | refine HL.pa ?_ | refine HL.ga rfl ?_ | refine HL.na rfl ?_ | refine HL.nu rfl rfl ?_ | apply HC.block | apply HC.skip | apply HC.exit | apply HC.ret | apply HX.e_block | refine HX.e_other rfl ?_ | apply HX.e_then | apply HX.e_again | apply HX.n_block | apply HX.r_then | apply HX.r_block | apply HX.r_again | refine HC.cond_yes rfl ?_ | refine HC.cond_no rfl ?_ | refine HL.one (H1.ldb rfl memA rfl rfl ?_) | refine HC.cond rfl (fun hc => ?_) (fun hc => ?_) | refine HC.cond_b rfl (fun hc => ?_) (fun hc => ?_))
  refine HL.one (H1.callx (vs := []) rfl rfl (fun w' hM => sane26_fn (hG.ext hM.ext) (hE.ext hM.ext)) ?_)
  repeat' (first | refine HL.pa ?_ (POp.bneqF rfl rfl (by first | rfl | decide)) | refine HL.pa ?_ (POp.pnil1 rfl rfl) | refine HL.pa ?_ (POp.pnil0 rfl rfl) | refine HL.pa ?_ (POp.nilCheck rfl) | apply HL.fold | apply HA.fold | apply HL.nil | apply HX.n_then | apply HC.seq | apply HC.region | refine HL.pa ?_ | refine HL.ga rfl ?_ | refine HL.na rfl ?_ | refine HL.nu rfl rfl ?_ | apply HC.block | apply HC.skip | apply HC.exit | apply HC.ret | apply HX.e_block | refine HX.e_other rfl ?_ | apply HX.e_then | apply HX.e_again | apply HX.n_block | apply HX.r_then | apply HX.r_block | apply HX.r_again | refine HC.cond_yes rfl ?_ | refine HC.cond_no rfl ?_ | refine HL.one (H1.ldb rfl memA rfl rfl ?_) | refine HC.cond rfl (fun hc => ?_) (fun hc => ?_) | refine HC.cond_b rfl (fun hc => ?_) (fun hc => ?_))
  refine HL.one (H1.call0 (vs := [_]) rfl rfl (fun w' hM => size26_fn n hn1 hn2 w') ?_)
  rw [← hN]
  repeat' (first | refine HL.pa ?_ (POp.bneqF rfl rfl (by first | rfl | decide)) | refine HL.pa ?_ (POp.pnil1 rfl rfl) | refine HL.pa ?_ (POp.pnil0 rfl rfl) | refine HL.pa ?_ (POp.nilCheck rfl) | apply HL.fold | apply HA.fold | apply HL.nil | apply HX.n_then | apply HC.seq | apply HC.region | refine HL.pa ?_ | refine HL.ga rfl ?_ | refine HL.na rfl ?_ | refine HL.nu rfl rfl ?_ | apply HC.block | apply HC.skip | apply HC.exit | apply HC.ret | apply HX.e_block | refine HX.e_other rfl ?_ | apply HX.e_then | apply HX.e_again | apply HX.n_block | apply HX.r_then | apply HX.r_block | apply HX.r_again | refine HC.cond_yes rfl ?_ | refine HC.cond_no rfl ?_ | refine HL.one (H1.ldb rfl memA rfl rfl ?_) | refine HC.cond rfl (fun hc => ?_) (fun hc => ?_) | refine HC.cond_b rfl (fun hc => ?_) (fun hc => ?_))
  refine HL.one (H1.callz (vs := [zv (N : Int)]) rfl rfl (fun w' hM => new_fn N hNb.1 (by omega) w') ?_)
  rintro ⟨bd, b1, b2⟩ -
  dsimp only
  repeat' (first | refine HL.pa ?_ (POp.bneqF rfl rfl (by first | rfl | decide)) | refine HL.pa ?_ (POp.pnil1 rfl rfl) | refine HL.pa ?_ (POp.pnil0 rfl rfl) | refine HL.pa ?_ (POp.nilCheck rfl) | apply HL.fold | apply HA.fold | apply HL.nil | apply HX.n_then | apply HC.seq | apply HC.region | refine HL.pa ?_ | refine HL.ga rfl ?_ | refine HL.na rfl ?_ | refine HL.nu rfl rfl ?_ | apply HC.block | apply HC.skip | apply HC.exit | apply HC.ret | apply HX.e_block | refine HX.e_other rfl ?_ | apply HX.e_then | apply HX.e_again | apply HX.n_block | apply HX.r_then | apply HX.r_block | apply HX.r_again | refine HC.cond_yes rfl ?_ | refine HC.cond_no rfl ?_ | refine HL.one (H1.ldb rfl memA rfl rfl ?_) | refine HC.cond rfl (fun hc => ?_) (fun hc => ?_) | refine HC.cond_b rfl (fun hc => ?_) (fun hc => ?_))
  refine HL.one (H1.callk (α := Nat × (Option Addr × Nat) × (Option Addr × Nat)) (V := fun z => .tuple #[.pointer (some ⟨z.1, 0, none⟩), zv 0]) (I := fun _ => True) (H' := fun z => jnlH z.1 bd b1 b2 z.2.1.1 z.2.1.2 z.2.2.1 z.2.2.2 ⟨t00, newK N, false⟩ []) (vs := [_]) rfl rfl
    (fun w' hM => jopen_ok (h0.opens (fun _ h => by cases h)) hG hE hM h0.ok (by rw [h0.pend]; exact Nat.zero_le _)) ?_)
  rintro ⟨bj, ⟨a, c⟩, ⟨pa, pc⟩⟩ -
  dsimp only
  repeat' (first | refine HL.pa ?_ (POp.bneqF rfl rfl (by first | rfl | decide)) | refine HL.pa ?_ (POp.pnil1 rfl rfl) | refine HL.pa ?_ (POp.pnil0 rfl rfl) | refine HL.pa ?_ (POp.nilCheck rfl) | apply HL.fold | apply HA.fold | apply HL.nil | apply HX.n_then | apply HC.seq | apply HC.region | refine HL.pa ?_ | refine HL.ga rfl ?_ | refine HL.na rfl ?_ | refine HL.nu rfl rfl ?_ | apply HC.block | apply HC.skip | apply HC.exit | apply HC.ret | apply HX.e_block | refine HX.e_other rfl ?_ | apply HX.e_then | apply HX.e_again | apply HX.n_block | apply HX.r_then | apply HX.r_block | apply HX.r_again | refine HC.cond_yes rfl ?_ | refine HC.cond_no rfl ?_ | refine HL.one (H1.ldb rfl memA rfl rfl ?_) | refine HC.cond rfl (fun hc => ?_) (fun hc => ?_) | refine HC.cond_b rfl (fun hc => ?_) (fun hc => ?_))
  refine HL.one (H1.callz (vs := [_]) rfl rfl (fun w' hM => few26_fn v l hs hl w' (hR.ext hM.ext)) ?_)
  rw [← hGd]
  rintro ⟨a9, c9⟩ -
  dsimp only
  repeat' (first | refine HL.pa ?_ (POp.bneqF rfl rfl (by first | rfl | decide)) | refine HL.pa ?_ (POp.pnil1 rfl rfl) | refine HL.pa ?_ (POp.pnil0 rfl rfl) | refine HL.pa ?_ (POp.nilCheck rfl) | apply HL.fold | apply HA.fold | apply HL.nil | apply HX.n_then | apply HC.seq | apply HC.region | refine HL.pa ?_ | refine HL.ga rfl ?_ | refine HL.na rfl ?_ | refine HL.nu rfl rfl ?_ | apply HC.block | apply HC.skip | apply HC.exit | apply HC.ret | apply HX.e_block | refine HX.e_other rfl ?_ | apply HX.e_then | apply HX.e_again | apply HX.n_block | apply HX.r_then | apply HX.r_block | apply HX.r_again | refine HC.cond_yes rfl ?_ | refine HC.cond_no rfl ?_ | refine HL.one (H1.ldb rfl memA rfl rfl ?_) | refine HC.cond rfl (fun hc => ?_) (fun hc => ?_) | refine HC.cond_b rfl (fun hc => ?_) (fun hc => ?_))
  refine HC.loop (α := Nat) (fun i => [(0, zv n), (2, zv more), (7, .bool true), (8, .pointer (some ⟨bd, 0, none⟩)), (10, .pointer (some ⟨bj, 0, none⟩)), (1, .slice a9 G.length c9), (12, zv (needL (G.take i) : Int)), (13, zv (i : Int))])
    (fun _ => jnlH bj bd b1 b2 a c pa pc ⟨t00, newK N, false⟩ [A.grow 9 1 a9 c9 G.length (strs G)]) (fun i => i ≤ G.length) (fun i => G.length - i) 0 (Nat.zero_le _) ⟨rfl, rfl, rfl, rfl, rfl, rfl, ?_, rfl, trivial⟩ (Hs.cons (Pick.there Pick.here) (Hs.cons (Pick.there Pick.here) (Hs.cons (Pick.there Pick.here) (Hs.cons (Pick.there Pick.here) (Hs.cons (Pick.there Pick.here) (Hs.cons (Pick.there Pick.here) (Hs.refl _))))))) ?_
  · unfold needL; rfl
  intro i hi
  by_cases hlt : i < G.length
  · have hnt := needL_take hlt
    have hget := strs_get hlt
    have hfs := hsz _ (fr_mem hlt)
    have hle : needL (G.take i) ≤ 900 := by
      have := needL_app (G.take i) (G.drop i)
      rw [List.take_append_drop] at this
      omega
    generalize fr G i = s at hnt hget hfs
    have hz9 := strN_size (n := s.size) (by omega)
    refine HC.openg (e := 9) (sz := 1) (a := a9) (c := c9) (n := G.length) (xs := strs G) memA (by omega) ?_
    rintro g9 rfl
    repeat' (first | refine HL.pa ?_ (POp.bneqF rfl rfl (by first | rfl | decide)) | refine HL.pa ?_ (POp.pnil1 rfl rfl) | refine HL.pa ?_ (POp.pnil0 rfl rfl) | refine HL.pa ?_ (POp.nilCheck rfl) | apply HL.fold | apply HA.fold | apply HL.nil | apply HX.n_then | apply HC.seq | apply HC.region | refine HL.pa ?_ | refine HL.ga rfl ?_ | refine HL.na rfl ?_ | refine HL.nu rfl rfl ?_ | apply HC.block | apply HC.skip | apply HC.exit | apply HC.ret | apply HX.e_block | refine HX.e_other rfl ?_ | apply HX.e_then | apply HX.e_again | apply HX.n_block | apply HX.r_then | apply HX.r_block | apply HX.r_again | refine HC.cond_yes rfl ?_ | refine HC.cond_no rfl ?_ | refine HL.one (H1.ldb rfl memA rfl rfl ?_) | refine HC.cond rfl (fun hc => ?_) (fun hc => ?_) | refine HC.cond_b rfl (fun hc => ?_) (fun hc => ?_))
    refine HL.one (H1.ldg (b := g9) (c := c9) (n := G.length) (vs := strs G) (v := .string s) rfl memA hget rfl ?_)
    repeat' (first | refine HL.pa ?_ (POp.bneqF rfl rfl (by first | rfl | decide)) | refine HL.pa ?_ (POp.pnil1 rfl rfl) | refine HL.pa ?_ (POp.pnil0 rfl rfl) | refine HL.pa ?_ (POp.nilCheck rfl) | apply HL.fold | apply HA.fold | apply HL.nil | apply HX.n_then | apply HC.seq | apply HC.region | refine HL.pa ?_ | refine HL.ga rfl ?_ | refine HL.na rfl ?_ | refine HL.nu rfl rfl ?_ | apply HC.block | apply HC.skip | apply HC.exit | apply HC.ret | apply HX.e_block | refine HX.e_other rfl ?_ | apply HX.e_then | apply HX.e_again | apply HX.n_block | apply HX.r_then | apply HX.r_block | apply HX.r_again | refine HC.cond_yes rfl ?_ | refine HC.cond_no rfl ?_ | refine HL.one (H1.ldb rfl memA rfl rfl ?_) | refine HC.cond rfl (fun hc => ?_) (fun hc => ?_) | refine HC.cond_b rfl (fun hc => ?_) (fun hc => ?_))
    refine HL.one (H1.callx (vs := [.string s]) rfl rfl (fun w' _ => refPutString_fn s (by omega) w') ?_)
    have hcs := ba_append_size (strN s.size) s
    repeat' (first | refine HL.pa ?_ (POp.bneqF rfl rfl (by first | rfl | decide)) | refine HL.pa ?_ (POp.pnil1 rfl rfl) | refine HL.pa ?_ (POp.pnil0 rfl rfl) | refine HL.pa ?_ (POp.nilCheck rfl) | apply HL.fold | apply HA.fold | apply HL.nil | apply HX.n_then | apply HC.seq | apply HC.region | refine HL.pa ?_ | refine HL.ga rfl ?_ | refine HL.na rfl ?_ | refine HL.nu rfl rfl ?_ | apply HC.block | apply HC.skip | apply HC.exit | apply HC.ret | apply HX.e_block | refine HX.e_other rfl ?_ | apply HX.e_then | apply HX.e_again | apply HX.n_block | apply HX.r_then | apply HX.r_block | apply HX.r_again | refine HC.cond_yes rfl ?_ | refine HC.cond_no rfl ?_ | refine HL.one (H1.ldb rfl memA rfl rfl ?_) | refine HC.cond rfl (fun hc => ?_) (fun hc => ?_) | refine HC.cond_b rfl (fun hc => ?_) (fun hc => ?_))
    refine HX.again (i + 1) hlt (by show G.length - (i + 1) < G.length - i; omega) ⟨rfl, rfl, rfl, rfl, rfl, rfl, ?_, rfl, trivial⟩ (Hs.refl _)
    show some (zv _) = some (zv _)
    congr 2
    omega
  · obtain rfl : i = G.length := by omega
    rw [List.take_length]
    obtain ⟨e1, j1, l1, ha1, hc1, hcase⟩ := room_first h0 hlong
    have hs1 := hc1.size
    have hl1 : l1.length ≤ 6 := by
      rcases hcase with ⟨-, -, h⟩ | ⟨-, -, h⟩
      · rw [h]; exact hlen
      · rw [h]; exact Nat.zero_le _
    have hd1 : j1.k.dur.length = N := by rw [hc1.dur, hc1.len]
    have hf1 := hc1.fit
    repeat' (first | refine HL.pa ?_ (POp.bneqF rfl rfl (by first | rfl | decide)) | refine HL.pa ?_ (POp.pnil1 rfl rfl) | refine HL.pa ?_ (POp.pnil0 rfl rfl) | refine HL.pa ?_ (POp.nilCheck rfl) | apply HL.fold | apply HA.fold | apply HL.nil | apply HX.n_then | apply HC.seq | apply HC.region | refine HL.pa ?_ | refine HL.ga rfl ?_ | refine HL.na rfl ?_ | refine HL.nu rfl rfl ?_ | apply HC.block | apply HC.skip | apply HC.exit | apply HC.ret | apply HX.e_block | refine HX.e_other rfl ?_ | apply HX.e_then | apply HX.e_again | apply HX.n_block | apply HX.r_then | apply HX.r_block | apply HX.r_again | refine HC.cond_yes rfl ?_ | refine HC.cond_no rfl ?_ | refine HL.one (H1.ldb rfl memA rfl rfl ?_) | refine HC.cond rfl (fun hc => ?_) (fun hc => ?_) | refine HC.cond_b rfl (fun hc => ?_) (fun hc => ?_))
    refine HL.one (H1.callk (α := (Option Addr × Nat) × (Option Addr × Nat)) (V := fun _ => zv e1) (I := fun _ => True) (H' := fun q => jnlH bj bd b1 b2 q.1.1 q.1.2 q.2.1 q.2.2 j1 [A.grow 9 1 a9 c9 G.length (strs G)]) (vs := [_, _]) rfl rfl
      (fun w' hM => appendG_fn ha1 hG hM (.head _) (h0.jok (Nat.zero_le _)) (by omega) (fun _ => by rw [outsL_need]; omega)) ?_)
    rintro ⟨⟨a, c⟩, ⟨pa, pc⟩⟩ -
    dsimp only
    repeat' (first | refine HL.pa ?_ (POp.bneqF rfl rfl (by first | rfl | decide)) | refine HL.pa ?_ (POp.pnil1 rfl rfl) | refine HL.pa ?_ (POp.pnil0 rfl rfl) | refine HL.pa ?_ (POp.nilCheck rfl) | apply HL.fold | apply HA.fold | apply HL.nil | apply HX.n_then | apply HC.seq | apply HC.region | refine HL.pa ?_ | refine HL.ga rfl ?_ | refine HL.na rfl ?_ | refine HL.nu rfl rfl ?_ | apply HC.block | apply HC.skip | apply HC.exit | apply HC.ret | apply HX.e_block | refine HX.e_other rfl ?_ | apply HX.e_then | apply HX.e_again | apply HX.n_block | apply HX.r_then | apply HX.r_block | apply HX.r_again | refine HC.cond_yes rfl ?_ | refine HC.cond_no rfl ?_ | refine HL.one (H1.ldb rfl memA rfl rfl ?_) | refine HC.cond rfl (fun hc => ?_) (fun hc => ?_) | refine HC.cond_b rfl (fun hc => ?_) (fun hc => ?_))
    obtain ⟨bf, hbf⟩ : ∃ bf, bf = decide ((needL G : Int) ≤ (N : Int)) := ⟨_, rfl⟩
    refine HL.cut (α := Unit) (fun _ => [(0, zv n), (1, .slice a9 G.length c9), (2, zv more), (7, .bool true), (8, .pointer (some ⟨bd, 0, none⟩)), (10, .pointer (some ⟨bj, 0, none⟩)), (12, zv (needL G : Int)), (16, zv e1), (17, .bool bf)]) (fun _ => jnlH bj bd b1 b2 a c pa pc j1 [A.grow 9 1 a9 c9 G.length (strs G)]) (fun _ => True) ?_ ?_
    · refine HL.one (H1.call0 (vs := [_]) rfl rfl (fun w' hM => size26_fn n hn1 hn2 w') ?_)
      rw [← hN]
      repeat' (first | refine HL.pa ?_ (POp.bneqF rfl rfl (by first | rfl | decide)) | refine HL.pa ?_ (POp.pnil1 rfl rfl) | refine HL.pa ?_ (POp.pnil0 rfl rfl) | refine HL.pa ?_ (POp.nilCheck rfl) | apply HL.fold | apply HA.fold | apply HL.nil | apply HX.n_then | apply HC.seq | apply HC.region | refine HL.pa ?_ | refine HL.ga rfl ?_ | refine HL.na rfl ?_ | refine HL.nu rfl rfl ?_ | apply HC.block | apply HC.skip | apply HC.exit | apply HC.ret | apply HX.e_block | refine HX.e_other rfl ?_ | apply HX.e_then | apply HX.e_again | apply HX.n_block | apply HX.r_then | apply HX.r_block | apply HX.r_again | refine HC.cond_yes rfl ?_ | refine HC.cond_no rfl ?_ | refine HL.one (H1.ldb rfl memA rfl rfl ?_) | refine HC.cond rfl (fun hc => ?_) (fun hc => ?_) | refine HC.cond_b rfl (fun hc => ?_) (fun hc => ?_))
      rw [← hbf]
      repeat' (first | refine HL.pa ?_ (POp.bneqF rfl rfl (by first | rfl | decide)) | refine HL.pa ?_ (POp.pnil1 rfl rfl) | refine HL.pa ?_ (POp.pnil0 rfl rfl) | refine HL.pa ?_ (POp.nilCheck rfl) | apply HL.fold | apply HA.fold | apply HL.nil | apply HX.n_then | apply HC.seq | apply HC.region | refine HL.pa ?_ | refine HL.ga rfl ?_ | refine HL.na rfl ?_ | refine HL.nu rfl rfl ?_ | apply HC.block | apply HC.skip | apply HC.exit | apply HC.ret | apply HX.e_block | refine HX.e_other rfl ?_ | apply HX.e_then | apply HX.e_again | apply HX.n_block | apply HX.r_then | apply HX.r_block | apply HX.r_again | refine HC.cond_yes rfl ?_ | refine HC.cond_no rfl ?_ | refine HL.one (H1.ldb rfl memA rfl rfl ?_) | refine HC.cond rfl (fun hc => ?_) (fun hc => ?_) | refine HC.cond_b rfl (fun hc => ?_) (fun hc => ?_))
      exact HX.cut () trivial esA (Hs.refl _)
    rintro - -
    repeat refine HC.seq ?_
    refine HC.cut (α := Unit) (fun _ => [(0, zv n), (1, .slice a9 G.length c9), (2, zv more), (7, .bool true), (8, .pointer (some ⟨bd, 0, none⟩)), (10, .pointer (some ⟨bj, 0, none⟩)), (102, .bool false)]) (fun _ => jnlH bj bd b1 b2 a c pa pc j1 [A.grow 9 1 a9 c9 G.length (strs G)]) (fun _ => True) ?_ ?_
    · rcases hcase with ⟨hfit, rfl, rfl⟩ | ⟨hfit, rfl, rfl⟩
      · obtain rfl : bf = true := by rw [hbf]; exact decide_eq_true (by omega)
        repeat' (first | refine HL.pa ?_ (POp.bneqF rfl rfl (by first | rfl | decide)) | refine HL.pa ?_ (POp.pnil1 rfl rfl) | refine HL.pa ?_ (POp.pnil0 rfl rfl) | refine HL.pa ?_ (POp.nilCheck rfl) | apply HL.fold | apply HA.fold | apply HL.nil | apply HX.n_then | apply HC.seq | apply HC.region | refine HL.pa ?_ | refine HL.ga rfl ?_ | refine HL.na rfl ?_ | refine HL.nu rfl rfl ?_ | apply HC.block | apply HC.skip | apply HC.exit | apply HC.ret | apply HX.e_block | refine HX.e_other rfl ?_ | apply HX.e_then | apply HX.e_again | apply HX.n_block | apply HX.r_then | apply HX.r_block | apply HX.r_again | refine HC.cond_yes rfl ?_ | refine HC.cond_no rfl ?_ | refine HL.one (H1.ldb rfl memA rfl rfl ?_) | refine HC.cond rfl (fun hc => ?_) (fun hc => ?_) | refine HC.cond_b rfl (fun hc => ?_) (fun hc => ?_))
        refine HL.one (H1.callx (vs := [_]) rfl rfl (fun w' hM => room2_fn (bj := bj) (bd := bd) (b1 := b1) (b2 := b2) (a := a) (c := c) (pa := pa) (pc := pc) (t := j1.t) (k := j1.k) (br := j1.br) (hM.blk memA) (hM.blk memA) hc1.ok (by omega)) ?_)
        repeat' (first | refine HL.pa ?_ (POp.bneqF rfl rfl (by first | rfl | decide)) | refine HL.pa ?_ (POp.pnil1 rfl rfl) | refine HL.pa ?_ (POp.pnil0 rfl rfl) | refine HL.pa ?_ (POp.nilCheck rfl) | apply HL.fold | apply HA.fold | apply HL.nil | apply HX.n_then | apply HC.seq | apply HC.region | refine HL.pa ?_ | refine HL.ga rfl ?_ | refine HL.na rfl ?_ | refine HL.nu rfl rfl ?_ | apply HC.block | apply HC.skip | apply HC.exit | apply HC.ret | apply HX.e_block | refine HX.e_other rfl ?_ | apply HX.e_then | apply HX.e_again | apply HX.n_block | apply HX.r_then | apply HX.r_block | apply HX.r_again | refine HC.cond_yes rfl ?_ | refine HC.cond_no rfl ?_ | refine HL.one (H1.ldb rfl memA rfl rfl ?_) | refine HC.cond rfl (fun hc => ?_) (fun hc => ?_) | refine HC.cond_b rfl (fun hc => ?_) (fun hc => ?_))
        refine HL.one (H1.call0 (vs := [_]) rfl rfl (fun w' hM => size26_fn n hn1 hn2 w') ?_)
        rw [← hN]
        repeat' (first | refine HL.pa ?_ (POp.bneqF rfl rfl (by first | rfl | decide)) | refine HL.pa ?_ (POp.pnil1 rfl rfl) | refine HL.pa ?_ (POp.pnil0 rfl rfl) | refine HL.pa ?_ (POp.nilCheck rfl) | apply HL.fold | apply HA.fold | apply HL.nil | apply HX.n_then | apply HC.seq | apply HC.region | refine HL.pa ?_ | refine HL.ga rfl ?_ | refine HL.na rfl ?_ | refine HL.nu rfl rfl ?_ | apply HC.block | apply HC.skip | apply HC.exit | apply HC.ret | apply HX.e_block | refine HX.e_other rfl ?_ | apply HX.e_then | apply HX.e_again | apply HX.n_block | apply HX.r_then | apply HX.r_block | apply HX.r_again | refine HC.cond_yes rfl ?_ | refine HC.cond_no rfl ?_ | refine HL.one (H1.ldb rfl memA rfl rfl ?_) | refine HC.cond rfl (fun hc => ?_) (fun hc => ?_) | refine HC.cond_b rfl (fun hc => ?_) (fun hc => ?_))
        exact HX.cut () trivial esA (Hs.refl _)
      · obtain rfl : bf = false := by rw [hbf]; exact decide_eq_false (by omega)
        repeat' (first | refine HL.pa ?_ (POp.bneqF rfl rfl (by first | rfl | decide)) | refine HL.pa ?_ (POp.pnil1 rfl rfl) | refine HL.pa ?_ (POp.pnil0 rfl rfl) | refine HL.pa ?_ (POp.nilCheck rfl) | apply HL.fold | apply HA.fold | apply HL.nil | apply HX.n_then | apply HC.seq | apply HC.region | refine HL.pa ?_ | refine HL.ga rfl ?_ | refine HL.na rfl ?_ | refine HL.nu rfl rfl ?_ | apply HC.block | apply HC.skip | apply HC.exit | apply HC.ret | apply HX.e_block | refine HX.e_other rfl ?_ | apply HX.e_then | apply HX.e_again | apply HX.n_block | apply HX.r_then | apply HX.r_block | apply HX.r_again | refine HC.cond_yes rfl ?_ | refine HC.cond_no rfl ?_ | refine HL.one (H1.ldb rfl memA rfl rfl ?_) | refine HC.cond rfl (fun hc => ?_) (fun hc => ?_) | refine HC.cond_b rfl (fun hc => ?_) (fun hc => ?_))
        refine HL.one (H1.callx (vs := [_]) rfl rfl (fun w' hM => room2_fn (bj := bj) (bd := bd) (b1 := b1) (b2 := b2) (a := a) (c := c) (pa := pa) (pc := pc) (t := j1.t) (k := j1.k) (br := j1.br) (hM.blk memA) (hM.blk memA) hc1.ok (by omega)) ?_)
        repeat' (first | refine HL.pa ?_ (POp.bneqF rfl rfl (by first | rfl | decide)) | refine HL.pa ?_ (POp.pnil1 rfl rfl) | refine HL.pa ?_ (POp.pnil0 rfl rfl) | refine HL.pa ?_ (POp.nilCheck rfl) | apply HL.fold | apply HA.fold | apply HL.nil | apply HX.n_then | apply HC.seq | apply HC.region | refine HL.pa ?_ | refine HL.ga rfl ?_ | refine HL.na rfl ?_ | refine HL.nu rfl rfl ?_ | apply HC.block | apply HC.skip | apply HC.exit | apply HC.ret | apply HX.e_block | refine HX.e_other rfl ?_ | apply HX.e_then | apply HX.e_again | apply HX.n_block | apply HX.r_then | apply HX.r_block | apply HX.r_again | refine HC.cond_yes rfl ?_ | refine HC.cond_no rfl ?_ | refine HL.one (H1.ldb rfl memA rfl rfl ?_) | refine HC.cond rfl (fun hc => ?_) (fun hc => ?_) | refine HC.cond_b rfl (fun hc => ?_) (fun hc => ?_))
        refine HL.one (H1.call0 (vs := [_]) rfl rfl (fun w' hM => size26_fn n hn1 hn2 w') ?_)
        rw [← hN]
        repeat' (first | refine HL.pa ?_ (POp.bneqF rfl rfl (by first | rfl | decide)) | refine HL.pa ?_ (POp.pnil1 rfl rfl) | refine HL.pa ?_ (POp.pnil0 rfl rfl) | refine HL.pa ?_ (POp.nilCheck rfl) | apply HL.fold | apply HA.fold | apply HL.nil | apply HX.n_then | apply HC.seq | apply HC.region | refine HL.pa ?_ | refine HL.ga rfl ?_ | refine HL.na rfl ?_ | refine HL.nu rfl rfl ?_ | apply HC.block | apply HC.skip | apply HC.exit | apply HC.ret | apply HX.e_block | refine HX.e_other rfl ?_ | apply HX.e_then | apply HX.e_again | apply HX.n_block | apply HX.r_then | apply HX.r_block | apply HX.r_again | refine HC.cond_yes rfl ?_ | refine HC.cond_no rfl ?_ | refine HL.one (H1.ldb rfl memA rfl rfl ?_) | refine HC.cond rfl (fun hc => ?_) (fun hc => ?_) | refine HC.cond_b rfl (fun hc => ?_) (fun hc => ?_))
        have hn0 : needL [] = 0 := by unfold needL; rfl
        have h102 : decide (¬ (j1.k.dur.length : Int) - (j1.t.size : Int) = (N : Int)) = false := decide_eq_false (fun h => h (by omega))
        rw [h102]
        exact HX.cut () trivial esA (Hs.refl _)
    rintro - -
    have hrec := hc1.recs
    repeat' (first | refine HL.pa ?_ (POp.bneqF rfl rfl (by first | rfl | decide)) | refine HL.pa ?_ (POp.pnil1 rfl rfl) | refine HL.pa ?_ (POp.pnil0 rfl rfl) | refine HL.pa ?_ (POp.nilCheck rfl) | apply HL.fold | apply HA.fold | apply HL.nil | apply HX.n_then | apply HC.seq | apply HC.region | refine HL.pa ?_ | refine HL.ga rfl ?_ | refine HL.na rfl ?_ | refine HL.nu rfl rfl ?_ | apply HC.block | apply HC.skip | apply HC.exit | apply HC.ret | apply HX.e_block | refine HX.e_other rfl ?_ | apply HX.e_then | apply HX.e_again | apply HX.n_block | apply HX.r_then | apply HX.r_block | apply HX.r_again | refine HC.cond_yes rfl ?_ | refine HC.cond_no rfl ?_ | refine HL.one (H1.ldb rfl memA rfl rfl ?_) | refine HC.cond rfl (fun hc => ?_) (fun hc => ?_) | refine HC.cond_b rfl (fun hc => ?_) (fun hc => ?_))
    refine HL.one (H1.callz (vs := [_]) rfl rfl (fun w' hM => records2_fn (bj := bj) (bd := bd) (a := a) (c := c) (t := j1.t) (br := j1.br) (hM.blk memA) (Mm.gr (e := 9) (a := a) (c := c) hM memA) (by rw [hrec]; omega)) ?_)
    rintro ⟨aw, cw⟩ -
    dsimp only
    repeat' (first | refine HL.pa ?_ (POp.bneqF rfl rfl (by first | rfl | decide)) | refine HL.pa ?_ (POp.pnil1 rfl rfl) | refine HL.pa ?_ (POp.pnil0 rfl rfl) | refine HL.pa ?_ (POp.nilCheck rfl) | apply HL.fold | apply HA.fold | apply HL.nil | apply HX.n_then | apply HC.seq | apply HC.region | refine HL.pa ?_ | refine HL.ga rfl ?_ | refine HL.na rfl ?_ | refine HL.nu rfl rfl ?_ | apply HC.block | apply HC.skip | apply HC.exit | apply HC.ret | apply HX.e_block | refine HX.e_other rfl ?_ | apply HX.e_then | apply HX.e_again | apply HX.n_block | apply HX.r_then | apply HX.r_block | apply HX.r_again | refine HC.cond_yes rfl ?_ | refine HC.cond_no rfl ?_ | refine HL.one (H1.ldb rfl memA rfl rfl ?_) | refine HC.cond rfl (fun hc => ?_) (fun hc => ?_) | refine HC.cond_b rfl (fun hc => ?_) (fun hc => ?_))
    refine HL.mem (jnlH bj bd b1 b2 a c pa pc j1 [A.grow 9 1 aw cw j1.t.recs.length (strs j1.t.recs), A.grow 9 1 a9 c9 G.length (strs G)]) (Hs.cons (Pick.there Pick.here) (Hs.cons (Pick.there Pick.here) (Hs.cons (Pick.there Pick.here) (Hs.cons (Pick.there Pick.here) (Hs.cons (Pick.there Pick.here) (Hs.cons (Pick.there Pick.here) (Hs.refl _))))))) ?_
    refine HL.one (H1.lit0 rfl (fun b9 => ?_))
    repeat' (first | refine HL.pa ?_ (POp.bneqF rfl rfl (by first | rfl | decide)) | refine HL.pa ?_ (POp.pnil1 rfl rfl) | refine HL.pa ?_ (POp.pnil0 rfl rfl) | refine HL.pa ?_ (POp.nilCheck rfl) | apply HL.fold | apply HA.fold | apply HL.nil | apply HX.n_then | apply HC.seq | apply HC.region | refine HL.pa ?_ | refine HL.ga rfl ?_ | refine HL.na rfl ?_ | refine HL.nu rfl rfl ?_ | apply HC.block | apply HC.skip | apply HC.exit | apply HC.ret | apply HX.e_block | refine HX.e_other rfl ?_ | apply HX.e_then | apply HX.e_again | apply HX.n_block | apply HX.r_then | apply HX.r_block | apply HX.r_again | refine HC.cond_yes rfl ?_ | refine HC.cond_no rfl ?_ | refine HL.one (H1.ldb rfl memA rfl rfl ?_) | refine HC.cond rfl (fun hc => ?_) (fun hc => ?_) | refine HC.cond_b rfl (fun hc => ?_) (fun hc => ?_))
    refine HL.one (H1.appR2 (n := 0) (m := G.length) (vs := strs G) rfl (strs_len G) rfl rfl (fun _ _ => by first | ((repeat (first | with_reducible exact Rpl.here | with_reducible apply Rpl.there)); done) | (repeat (first | exact Rpl.here | apply Rpl.there))) (fun w' hM => Mm.gr (e := 9) (a := a9) (c := c9) hM memA) (strs_one G) (by omega) (by decide) rfl (.inl rfl) (fun a3 c3 _ => ?_))
    rw [Nat.zero_add, List.nil_append]
    obtain ⟨mm, hmm⟩ : ∃ mm : Nat, (65537 : Int) + pk more 100 = mm := ⟨(65537 + pk more 100).toNat, by have := pk_lt more (n := 100) (by decide); omega⟩
    have hmb : 65537 ≤ mm ∧ mm ≤ 70000 := by have := pk_lt more (n := 100) (by decide); omega
    repeat' (first | refine HL.pa ?_ (POp.bneqF rfl rfl (by first | rfl | decide)) | refine HL.pa ?_ (POp.pnil1 rfl rfl) | refine HL.pa ?_ (POp.pnil0 rfl rfl) | refine HL.pa ?_ (POp.nilCheck rfl) | apply HL.fold | apply HA.fold | apply HL.nil | apply HX.n_then | apply HC.seq | apply HC.region | refine HL.pa ?_ | refine HL.ga rfl ?_ | refine HL.na rfl ?_ | refine HL.nu rfl rfl ?_ | apply HC.block | apply HC.skip | apply HC.exit | apply HC.ret | apply HX.e_block | refine HX.e_other rfl ?_ | apply HX.e_then | apply HX.e_again | apply HX.n_block | apply HX.r_then | apply HX.r_block | apply HX.r_again | refine HC.cond_yes rfl ?_ | refine HC.cond_no rfl ?_ | refine HL.one (H1.ldb rfl memA rfl rfl ?_) | refine HC.cond rfl (fun hc => ?_) (fun hc => ?_) | refine HC.cond_b rfl (fun hc => ?_) (fun hc => ?_))
    refine HL.one (H1.call0 (vs := [_, zv 100]) rfl rfl (fun w' hM => pick26_fn more 100 hm1 hm2 (by decide) w') ?_)
    repeat' (first | refine HL.pa ?_ (POp.bneqF rfl rfl (by first | rfl | decide)) | refine HL.pa ?_ (POp.pnil1 rfl rfl) | refine HL.pa ?_ (POp.pnil0 rfl rfl) | refine HL.pa ?_ (POp.nilCheck rfl) | apply HL.fold | apply HA.fold | apply HL.nil | apply HX.n_then | apply HC.seq | apply HC.region | refine HL.pa ?_ | refine HL.ga rfl ?_ | refine HL.na rfl ?_ | refine HL.nu rfl rfl ?_ | apply HC.block | apply HC.skip | apply HC.exit | apply HC.ret | apply HX.e_block | refine HX.e_other rfl ?_ | apply HX.e_then | apply HX.e_again | apply HX.n_block | apply HX.r_then | apply HX.r_block | apply HX.r_again | refine HC.cond_yes rfl ?_ | refine HC.cond_no rfl ?_ | refine HL.one (H1.ldb rfl memA rfl rfl ?_) | refine HC.cond rfl (fun hc => ?_) (fun hc => ?_) | refine HC.cond_b rfl (fun hc => ?_) (fun hc => ?_))
    rw [hmm]
    refine HL.one (H1.make (l := mm) (c := mm) rfl rfl rfl rfl rfl (Nat.le_refl _) (by omega) (by omega) rfl (fun bm => ?_))
    rw [ub_zero]
    repeat' (first | refine HL.pa ?_ (POp.bneqF rfl rfl (by first | rfl | decide)) | refine HL.pa ?_ (POp.pnil1 rfl rfl) | refine HL.pa ?_ (POp.pnil0 rfl rfl) | refine HL.pa ?_ (POp.nilCheck rfl) | apply HL.fold | apply HA.fold | apply HL.nil | apply HX.n_then | apply HC.seq | apply HC.region | refine HL.pa ?_ | refine HL.ga rfl ?_ | refine HL.na rfl ?_ | refine HL.nu rfl rfl ?_ | apply HC.block | apply HC.skip | apply HC.exit | apply HC.ret | apply HX.e_block | refine HX.e_other rfl ?_ | apply HX.e_then | apply HX.e_again | apply HX.n_block | apply HX.r_then | apply HX.r_block | apply HX.r_again | refine HC.cond_yes rfl ?_ | refine HC.cond_no rfl ?_ | refine HL.one (H1.ldb rfl memA rfl rfl ?_) | refine HC.cond rfl (fun hc => ?_) (fun hc => ?_) | refine HC.cond_b rfl (fun hc => ?_) (fun hc => ?_))
    refine HL.one (H1.bstrC (ys := List.replicate mm 0) rfl (by rw [List.length_replicate]) (fun w' hM => blk_rd (e := 5) (hM.blk memA) (by rw [ub_len, List.length_replicate])) rfl ?_)
    repeat' (first | refine HL.pa ?_ (POp.bneqF rfl rfl (by first | rfl | decide)) | refine HL.pa ?_ (POp.pnil1 rfl rfl) | refine HL.pa ?_ (POp.pnil0 rfl rfl) | refine HL.pa ?_ (POp.nilCheck rfl) | apply HL.fold | apply HA.fold | apply HL.nil | apply HX.n_then | apply HC.seq | apply HC.region | refine HL.pa ?_ | refine HL.ga rfl ?_ | refine HL.na rfl ?_ | refine HL.nu rfl rfl ?_ | apply HC.block | apply HC.skip | apply HC.exit | apply HC.ret | apply HX.e_block | refine HX.e_other rfl ?_ | apply HX.e_then | apply HX.e_again | apply HX.n_block | apply HX.r_then | apply HX.r_block | apply HX.r_again | refine HC.cond_yes rfl ?_ | refine HC.cond_no rfl ?_ | refine HL.one (H1.ldb rfl memA rfl rfl ?_) | refine HC.cond rfl (fun hc => ?_) (fun hc => ?_) | refine HC.cond_b rfl (fun hc => ?_) (fun hc => ?_))
    refine HL.one (H1.lit (cs := [.string (sz mm)]) rfl rfl rfl rfl rfl rfl (fun b10 => ?_))
    repeat' (first | refine HL.pa ?_ (POp.bneqF rfl rfl (by first | rfl | decide)) | refine HL.pa ?_ (POp.pnil1 rfl rfl) | refine HL.pa ?_ (POp.pnil0 rfl rfl) | refine HL.pa ?_ (POp.nilCheck rfl) | apply HL.fold | apply HA.fold | apply HL.nil | apply HX.n_then | apply HC.seq | apply HC.region | refine HL.pa ?_ | refine HL.ga rfl ?_ | refine HL.na rfl ?_ | refine HL.nu rfl rfl ?_ | apply HC.block | apply HC.skip | apply HC.exit | apply HC.ret | apply HX.e_block | refine HX.e_other rfl ?_ | apply HX.e_then | apply HX.e_again | apply HX.n_block | apply HX.r_then | apply HX.r_block | apply HX.r_again | refine HC.cond_yes rfl ?_ | refine HC.cond_no rfl ?_ | refine HL.one (H1.ldb rfl memA rfl rfl ?_) | refine HC.cond rfl (fun hc => ?_) (fun hc => ?_) | refine HC.cond_b rfl (fun hc => ?_) (fun hc => ?_))
    refine HL.one (H1.app1 (u := .string (sz mm)) rfl rfl (fun _ _ => by first | ((repeat (first | with_reducible exact Rpl.here | with_reducible apply Rpl.there)); done) | (repeat (first | exact Rpl.here | apply Rpl.there))) memA rfl rfl (by omega) rfl rfl (fun a4 c4 => ?_))
    rw [strs_snoc, show G.length + 1 = (G ++ [sz mm]).length from by rw [List.length_append]; rfl]
    repeat' (first | refine HL.pa ?_ (POp.bneqF rfl rfl (by first | rfl | decide)) | refine HL.pa ?_ (POp.pnil1 rfl rfl) | refine HL.pa ?_ (POp.pnil0 rfl rfl) | refine HL.pa ?_ (POp.nilCheck rfl) | apply HL.fold | apply HA.fold | apply HL.nil | apply HX.n_then | apply HC.seq | apply HC.region | refine HL.pa ?_ | refine HL.ga rfl ?_ | refine HL.na rfl ?_ | refine HL.nu rfl rfl ?_ | apply HC.block | apply HC.skip | apply HC.exit | apply HC.ret | apply HX.e_block | refine HX.e_other rfl ?_ | apply HX.e_then | apply HX.e_again | apply HX.n_block | apply HX.r_then | apply HX.r_block | apply HX.r_again | refine HC.cond_yes rfl ?_ | refine HC.cond_no rfl ?_ | refine HL.one (H1.ldb rfl memA rfl rfl ?_) | refine HC.cond rfl (fun hc => ?_) (fun hc => ?_) | refine HC.cond_b rfl (fun hc => ?_) (fun hc => ?_))
    refine HL.mem (jnlH bj bd b1 b2 a c pa pc j1 [A.grow 9 1 (some ⟨a4, 0, none⟩) c4 (G ++ [sz mm]).length (strs (G ++ [sz mm])), A.grow 9 1 aw cw j1.t.recs.length (strs j1.t.recs), A.grow 9 1 a9 c9 G.length (strs G)]) (Hs.cons (Pick.there (Pick.there (Pick.there Pick.here))) (Hs.cons (Pick.there (Pick.there (Pick.there Pick.here))) (Hs.cons (Pick.there (Pick.there (Pick.there Pick.here))) (Hs.cons (Pick.there (Pick.there (Pick.there Pick.here))) (Hs.cons (Pick.there (Pick.there (Pick.there Pick.here))) (Hs.cons (Pick.there (Pick.there (Pick.there Pick.here))) (Hs.refl _).skip.skip)))))) ?_
    have hbig : (G ++ [sz mm]).any isLong = true := by
      rw [List.any_append]
      have : [sz mm].any isLong = true := by
        rw [List.any_cons]
        have : isLong (sz mm) = true := by unfold isLong; rw [sz_size]; exact decide_eq_true (by omega)
        rw [this]; rfl
      rw [this, Bool.or_true]
    have hgl : (G ++ [sz mm]).length ≤ 7 := by rw [List.length_append]; show G.length + 1 ≤ 7; omega
    have hjok := hc1.jok (by omega)
    refine HL.one (H1.callk (α := (Option Addr × Nat) × (Option Addr × Nat)) (V := fun _ => zv 260) (I := fun _ => True) (H' := fun q => jnlH bj bd b1 b2 q.1.1 q.1.2 q.2.1 q.2.2 j1 [A.grow 9 1 (some ⟨a4, 0, none⟩) c4 (G ++ [sz mm]).length (strs (G ++ [sz mm])), A.grow 9 1 aw cw j1.t.recs.length (strs j1.t.recs), A.grow 9 1 a9 c9 G.length (strs G)]) (vs := [_, _]) rfl rfl
      (fun w' hM => appendG_fn (append_br (.inr hbig)) hG hM (.head _) hjok (by omega) (fun h => by rw [hbig] at h; cases h)) ?_)
    rintro ⟨⟨a, c⟩, ⟨pa, pc⟩⟩ -
    dsimp only
    repeat' (first | refine HL.pa ?_ (POp.bneqF rfl rfl (by first | rfl | decide)) | refine HL.pa ?_ (POp.pnil1 rfl rfl) | refine HL.pa ?_ (POp.pnil0 rfl rfl) | refine HL.pa ?_ (POp.nilCheck rfl) | apply HL.fold | apply HA.fold | apply HL.nil | apply HX.n_then | apply HC.seq | apply HC.region | refine HL.pa ?_ | refine HL.ga rfl ?_ | refine HL.na rfl ?_ | refine HL.nu rfl rfl ?_ | apply HC.block | apply HC.skip | apply HC.exit | apply HC.ret | apply HX.e_block | refine HX.e_other rfl ?_ | apply HX.e_then | apply HX.e_again | apply HX.n_block | apply HX.r_then | apply HX.r_block | apply HX.r_again | refine HC.cond_yes rfl ?_ | refine HC.cond_no rfl ?_ | refine HL.one (H1.ldb rfl memA rfl rfl ?_) | refine HC.cond rfl (fun hc => ?_) (fun hc => ?_) | refine HC.cond_b rfl (fun hc => ?_) (fun hc => ?_))
    refine HL.mem (jnlH bj bd b1 b2 a c pa pc j1 [A.grow 9 1 aw cw j1.t.recs.length (strs j1.t.recs), A.grow 9 1 a9 c9 G.length (strs G)]) (Hs.cons Pick.here (Hs.cons Pick.here (Hs.cons Pick.here (Hs.cons Pick.here (Hs.cons Pick.here (Hs.cons Pick.here (Hs.refl _).skip)))))) ?_
    refine HL.one (H1.callk (α := (Option Addr × Nat) × (Option Addr × Nat)) (V := fun _ => zv 0) (I := fun _ => True) (H' := fun q => jnlH bj bd b1 b2 q.1.1 q.1.2 q.2.1 q.2.2 j1 [A.grow 9 1 aw cw j1.t.recs.length (strs j1.t.recs), A.grow 9 1 a9 c9 G.length (strs G)]) (vs := [_, _]) rfl rfl
      (fun w' hM => append0_fn hc1.nil hG hM hjok) ?_)
    rintro ⟨⟨a, c⟩, ⟨pa, pc⟩⟩ -
    dsimp only
    obtain ⟨hk4, hd4, hp4, -, hv4⟩ := cut_ok hc1.ok hc1.off 0 (Nat.zero_le _)
    repeat' (first | refine HL.pa ?_ (POp.bneqF rfl rfl (by first | rfl | decide)) | refine HL.pa ?_ (POp.pnil1 rfl rfl) | refine HL.pa ?_ (POp.pnil0 rfl rfl) | refine HL.pa ?_ (POp.nilCheck rfl) | apply HL.fold | apply HA.fold | apply HL.nil | apply HX.n_then | apply HC.seq | apply HC.region | refine HL.pa ?_ | refine HL.ga rfl ?_ | refine HL.na rfl ?_ | refine HL.nu rfl rfl ?_ | apply HC.block | apply HC.skip | apply HC.exit | apply HC.ret | apply HX.e_block | refine HX.e_other rfl ?_ | apply HX.e_then | apply HX.e_again | apply HX.n_block | apply HX.r_then | apply HX.r_block | apply HX.r_again | refine HC.cond_yes rfl ?_ | refine HC.cond_no rfl ?_ | refine HL.one (H1.ldb rfl memA rfl rfl ?_) | refine HC.cond rfl (fun hc => ?_) (fun hc => ?_) | refine HC.cond_b rfl (fun hc => ?_) (fun hc => ?_))
    refine HL.one (H1.callk (α := Unit) (V := fun _ => zv 0) (I := fun _ => True) (H' := fun _ => jnlH bj bd b1 b2 a c pa pc ⟨j1.t, (j1.k.cut 0).2, j1.br⟩ [A.grow 9 1 aw cw j1.t.recs.length (strs j1.t.recs), A.grow 9 1 a9 c9 G.length (strs G)]) (vs := [_, zv ((0 : Nat) : Int)]) rfl rfl
      (fun w' hM => (cut_fn (k := j1.k) 0 (hM.sub (Hs.cons (Pick.there (Pick.there Pick.here)) (Hs.cons (Pick.there (Pick.there Pick.here)) (Hs.cons (Pick.there (Pick.there Pick.here)) (Hs.cons (Pick.there (Pick.there Pick.here)) (Hs.refl _))))))).mono fun v w2 h => ⟨(), trivial, by rw [h.1, hv4], h.2.sub (Hs.cons (Pick.there (Pick.there (Pick.there (Pick.there Pick.here)))) (Hs.cons (Pick.there (Pick.there (Pick.there (Pick.there Pick.here)))) (Hs.refl _)))⟩) ?_)
    rintro - -
    obtain ⟨e5, br5, e6, hx5, hx6, hcase2⟩ := room_second hc1
    have hjok4 : JOk ⟨j1.t, (j1.k.cut 0).2, j1.br⟩ := ⟨hk4, by show (j1.k.cut 0).2.pend.length ≤ _; rw [hp4]; exact hjok.pend, by show j1.t.size ≤ (j1.k.cut 0).2.dur.length; rw [hd4]; exact hjok.fit, hjok.recs, hjok.head⟩
    have hjok5 : JOk ⟨j1.t, (j1.k.cut 0).2, br5⟩ := ⟨hk4, by show (j1.k.cut 0).2.pend.length ≤ _; rw [hp4]; exact hjok.pend, by show j1.t.size ≤ (j1.k.cut 0).2.dur.length; rw [hd4]; exact hjok.fit, hjok.recs, hjok.head⟩
    have hdc : (j1.k.cut 0).2.dur.length = N := by rw [hd4, hd1]
    repeat' (first | refine HL.pa ?_ (POp.bneqF rfl rfl (by first | rfl | decide)) | refine HL.pa ?_ (POp.pnil1 rfl rfl) | refine HL.pa ?_ (POp.pnil0 rfl rfl) | refine HL.pa ?_ (POp.nilCheck rfl) | apply HL.fold | apply HA.fold | apply HL.nil | apply HX.n_then | apply HC.seq | apply HC.region | refine HL.pa ?_ | refine HL.ga rfl ?_ | refine HL.na rfl ?_ | refine HL.nu rfl rfl ?_ | apply HC.block | apply HC.skip | apply HC.exit | apply HC.ret | apply HX.e_block | refine HX.e_other rfl ?_ | apply HX.e_then | apply HX.e_again | apply HX.n_block | apply HX.r_then | apply HX.r_block | apply HX.r_again | refine HC.cond_yes rfl ?_ | refine HC.cond_no rfl ?_ | refine HL.one (H1.ldb rfl memA rfl rfl ?_) | refine HC.cond rfl (fun hc => ?_) (fun hc => ?_) | refine HC.cond_b rfl (fun hc => ?_) (fun hc => ?_))
    refine HL.one (H1.lit (cs := strs sx) rfl rfl rfl rfl rfl rfl (fun b11 => ?_))
    repeat' (first | refine HL.pa ?_ (POp.bneqF rfl rfl (by first | rfl | decide)) | refine HL.pa ?_ (POp.pnil1 rfl rfl) | refine HL.pa ?_ (POp.pnil0 rfl rfl) | refine HL.pa ?_ (POp.nilCheck rfl) | apply HL.fold | apply HA.fold | apply HL.nil | apply HX.n_then | apply HC.seq | apply HC.region | refine HL.pa ?_ | refine HL.ga rfl ?_ | refine HL.na rfl ?_ | refine HL.nu rfl rfl ?_ | apply HC.block | apply HC.skip | apply HC.exit | apply HC.ret | apply HX.e_block | refine HX.e_other rfl ?_ | apply HX.e_then | apply HX.e_again | apply HX.n_block | apply HX.r_then | apply HX.r_block | apply HX.r_again | refine HC.cond_yes rfl ?_ | refine HC.cond_no rfl ?_ | refine HL.one (H1.ldb rfl memA rfl rfl ?_) | refine HC.cond rfl (fun hc => ?_) (fun hc => ?_) | refine HC.cond_b rfl (fun hc => ?_) (fun hc => ?_))
    refine HL.one (H1.callk (α := (Option Addr × Nat) × (Option Addr × Nat)) (V := fun _ => zv e5) (I := fun _ => True) (H' := fun q => jnlH bj bd b1 b2 q.1.1 q.1.2 q.2.1 q.2.2 ⟨j1.t, (j1.k.cut 0).2, br5⟩ [A.grow 9 1 aw cw j1.t.recs.length (strs j1.t.recs), A.grow 9 1 a9 c9 G.length (strs G)]) (vs := [_, .slice (some ⟨b11, 0, none⟩) 1 1]) rfl rfl
      (fun w' hM => appendB_fn (g := sx) hx5 hG hM hjok4 (by decide) (fun _ => by rw [outsL_need, need_x]; decide)) ?_)
    rintro ⟨⟨a, c⟩, ⟨pa, pc⟩⟩ -
    dsimp only
    repeat' (first | refine HL.pa ?_ (POp.bneqF rfl rfl (by first | rfl | decide)) | refine HL.pa ?_ (POp.pnil1 rfl rfl) | refine HL.pa ?_ (POp.pnil0 rfl rfl) | refine HL.pa ?_ (POp.nilCheck rfl) | apply HL.fold | apply HA.fold | apply HL.nil | apply HX.n_then | apply HC.seq | apply HC.region | refine HL.pa ?_ | refine HL.ga rfl ?_ | refine HL.na rfl ?_ | refine HL.nu rfl rfl ?_ | apply HC.block | apply HC.skip | apply HC.exit | apply HC.ret | apply HX.e_block | refine HX.e_other rfl ?_ | apply HX.e_then | apply HX.e_again | apply HX.n_block | apply HX.r_then | apply HX.r_block | apply HX.r_again | refine HC.cond_yes rfl ?_ | refine HC.cond_no rfl ?_ | refine HL.one (H1.ldb rfl memA rfl rfl ?_) | refine HC.cond rfl (fun hc => ?_) (fun hc => ?_) | refine HC.cond_b rfl (fun hc => ?_) (fun hc => ?_))
    refine HL.one (H1.callx (u := zv ((N : Int) - (j1.t.size : Int))) (vs := [_]) rfl rfl (fun w' hM => by
      have := room2_fn (bj := bj) (bd := bd) (b1 := b1) (b2 := b2) (a := a) (c := c) (pa := pa) (pc := pc) (t := j1.t) (k := (j1.k.cut 0).2) (br := br5) (hM.blk memA) (hM.blk memA) hk4 (by omega)
      rw [hdc] at this
      exact this) ?_)
    obtain ⟨bs, hbs⟩ : ∃ bs, bs = decide ((N : Int) - (j1.t.size : Int) < 35) := ⟨_, rfl⟩
    repeat' (first | refine HL.pa ?_ (POp.bneqF rfl rfl (by first | rfl | decide)) | refine HL.pa ?_ (POp.pnil1 rfl rfl) | refine HL.pa ?_ (POp.pnil0 rfl rfl) | refine HL.pa ?_ (POp.nilCheck rfl) | apply HL.fold | apply HA.fold | apply HL.nil | apply HX.n_then | apply HC.seq | apply HC.region | refine HL.pa ?_ | refine HL.ga rfl ?_ | refine HL.na rfl ?_ | refine HL.nu rfl rfl ?_ | apply HC.block | apply HC.skip | apply HC.exit | apply HC.ret | apply HX.e_block | refine HX.e_other rfl ?_ | apply HX.e_then | apply HX.e_again | apply HX.n_block | apply HX.r_then | apply HX.r_block | apply HX.r_again | refine HC.cond_yes rfl ?_ | refine HC.cond_no rfl ?_ | refine HL.one (H1.ldb rfl memA rfl rfl ?_) | refine HC.cond rfl (fun hc => ?_) (fun hc => ?_) | refine HC.cond_b rfl (fun hc => ?_) (fun hc => ?_))
    rw [← hbs]
    refine HL.cut (α := (Option Addr × Nat) × (Option Addr × Nat)) (fun _ => [(0, zv n), (1, .slice a9 G.length c9), (2, zv more), (7, .bool true), (8, .pointer (some ⟨bd, 0, none⟩)), (10, .pointer (some ⟨bj, 0, none⟩)), (18, .slice aw j1.t.recs.length cw), (19, zv 260), (20, zv 0), (21, zv e5), (22, .bool bs), (23, zv e6)]) (fun q => jnlH bj bd b1 b2 q.1.1 q.1.2 q.2.1 q.2.2 ⟨j1.t, (j1.k.cut 0).2, br5⟩ [A.grow 9 1 aw cw j1.t.recs.length (strs j1.t.recs), A.grow 9 1 a9 c9 G.length (strs G)]) (fun _ => True) ?_ ?_
    · refine HL.one (H1.callk (α := (Option Addr × Nat) × (Option Addr × Nat)) (V := fun _ => zv e6) (I := fun _ => True) (H' := fun q => jnlH bj bd b1 b2 q.1.1 q.1.2 q.2.1 q.2.2 ⟨j1.t, (j1.k.cut 0).2, br5⟩ [A.grow 9 1 aw cw j1.t.recs.length (strs j1.t.recs), A.grow 9 1 a9 c9 G.length (strs G)]) (vs := [_, _]) rfl rfl
        (fun w' hM => append0_fn hx6 hG hM hjok5) ?_)
      rintro ⟨⟨a, c⟩, ⟨pa, pc⟩⟩ -
      dsimp only
      repeat' (first | refine HL.pa ?_ (POp.bneqF rfl rfl (by first | rfl | decide)) | refine HL.pa ?_ (POp.pnil1 rfl rfl) | refine HL.pa ?_ (POp.pnil0 rfl rfl) | refine HL.pa ?_ (POp.nilCheck rfl) | apply HL.fold | apply HA.fold | apply HL.nil | apply HX.n_then | apply HC.seq | apply HC.region | refine HL.pa ?_ | refine HL.ga rfl ?_ | refine HL.na rfl ?_ | refine HL.nu rfl rfl ?_ | apply HC.block | apply HC.skip | apply HC.exit | apply HC.ret | apply HX.e_block | refine HX.e_other rfl ?_ | apply HX.e_then | apply HX.e_again | apply HX.n_block | apply HX.r_then | apply HX.r_block | apply HX.r_again | refine HC.cond_yes rfl ?_ | refine HC.cond_no rfl ?_ | refine HL.one (H1.ldb rfl memA rfl rfl ?_) | refine HC.cond rfl (fun hc => ?_) (fun hc => ?_) | refine HC.cond_b rfl (fun hc => ?_) (fun hc => ?_))
      exact HX.cut ((a, c), (pa, pc)) trivial esA (Hs.refl _)
    rintro ⟨⟨a, c⟩, ⟨pa, pc⟩⟩ -
    dsimp only
    repeat refine HC.seq ?_
    refine HC.cut (α := Unit) (fun _ => [(0, zv n), (1, .slice a9 G.length c9), (2, zv more), (7, .bool true), (8, .pointer (some ⟨bd, 0, none⟩)), (10, .pointer (some ⟨bj, 0, none⟩)), (18, .slice aw j1.t.recs.length cw), (19, zv 260), (20, zv 0), (21, zv e5), (22, .bool bs), (23, zv e6), (24, .pointer none)]) (fun _ => jnlH bj bd b1 b2 a c pa pc ⟨j1.t, (j1.k.cut 0).2, br5⟩ [A.grow 9 1 aw cw j1.t.recs.length (strs j1.t.recs), A.grow 9 1 a9 c9 G.length (strs G)]) (fun _ => True) ?_ ?_
    · repeat' (first | refine HL.pa ?_ (POp.bneqF rfl rfl (by first | rfl | decide)) | refine HL.pa ?_ (POp.pnil1 rfl rfl) | refine HL.pa ?_ (POp.pnil0 rfl rfl) | refine HL.pa ?_ (POp.nilCheck rfl) | apply HL.fold | apply HA.fold | apply HL.nil | apply HX.n_then | apply HC.seq | apply HC.region | refine HL.pa ?_ | refine HL.ga rfl ?_ | refine HL.na rfl ?_ | refine HL.nu rfl rfl ?_ | apply HC.block | apply HC.skip | apply HC.exit | apply HC.ret | apply HX.e_block | refine HX.e_other rfl ?_ | apply HX.e_then | apply HX.e_again | apply HX.n_block | apply HX.r_then | apply HX.r_block | apply HX.r_again | refine HC.cond_yes rfl ?_ | refine HC.cond_no rfl ?_ | refine HL.one (H1.ldb rfl memA rfl rfl ?_) | refine HC.cond rfl (fun hc => ?_) (fun hc => ?_) | refine HC.cond_b rfl (fun hc => ?_) (fun hc => ?_))
      exact HX.cut () trivial esA (Hs.refl _)
    rintro - -
    repeat refine HC.seq ?_
    refine HC.cut (α := Unit) (fun _ => [(0, zv n), (1, .slice a9 G.length c9), (2, zv more), (7, .bool true), (8, .pointer (some ⟨bd, 0, none⟩)), (10, .pointer (some ⟨bj, 0, none⟩)), (18, .slice aw j1.t.recs.length cw), (19, zv 260), (20, zv 0), (24, .pointer none), (25, .bool true)]) (fun _ => jnlH bj bd b1 b2 a c pa pc ⟨j1.t, (j1.k.cut 0).2, br5⟩ [A.grow 9 1 aw cw j1.t.recs.length (strs j1.t.recs), A.grow 9 1 a9 c9 G.length (strs G)]) (fun _ => True) ?_ ?_
    · rcases hcase2 with ⟨hsm, rfl, rfl⟩ | ⟨hsm, rfl, rfl⟩
      · obtain rfl : bs = true := by rw [hbs]; exact decide_eq_true hsm
        repeat' (first | refine HL.pa ?_ (POp.bneqF rfl rfl (by first | rfl | decide)) | refine HL.pa ?_ (POp.pnil1 rfl rfl) | refine HL.pa ?_ (POp.pnil0 rfl rfl) | refine HL.pa ?_ (POp.nilCheck rfl) | apply HL.fold | apply HA.fold | apply HL.nil | apply HX.n_then | apply HC.seq | apply HC.region | refine HL.pa ?_ | refine HL.ga rfl ?_ | refine HL.na rfl ?_ | refine HL.nu rfl rfl ?_ | apply HC.block | apply HC.skip | apply HC.exit | apply HC.ret | apply HX.e_block | refine HX.e_other rfl ?_ | apply HX.e_then | apply HX.e_again | apply HX.n_block | apply HX.r_then | apply HX.r_block | apply HX.r_again | refine HC.cond_yes rfl ?_ | refine HC.cond_no rfl ?_ | refine HL.one (H1.ldb rfl memA rfl rfl ?_) | refine HC.cond rfl (fun hc => ?_) (fun hc => ?_) | refine HC.cond_b rfl (fun hc => ?_) (fun hc => ?_))
        exact HX.cut () trivial esA (Hs.refl _)
      · obtain rfl : bs = false := by rw [hbs]; exact decide_eq_false hsm
        repeat' (first | refine HL.pa ?_ (POp.bneqF rfl rfl (by first | rfl | decide)) | refine HL.pa ?_ (POp.pnil1 rfl rfl) | refine HL.pa ?_ (POp.pnil0 rfl rfl) | refine HL.pa ?_ (POp.nilCheck rfl) | apply HL.fold | apply HA.fold | apply HL.nil | apply HX.n_then | apply HC.seq | apply HC.region | refine HL.pa ?_ | refine HL.ga rfl ?_ | refine HL.na rfl ?_ | refine HL.nu rfl rfl ?_ | apply HC.block | apply HC.skip | apply HC.exit | apply HC.ret | apply HX.e_block | refine HX.e_other rfl ?_ | apply HX.e_then | apply HX.e_again | apply HX.n_block | apply HX.r_then | apply HX.r_block | apply HX.r_again | refine HC.cond_yes rfl ?_ | refine HC.cond_no rfl ?_ | refine HL.one (H1.ldb rfl memA rfl rfl ?_) | refine HC.cond rfl (fun hc => ?_) (fun hc => ?_) | refine HC.cond_b rfl (fun hc => ?_) (fun hc => ?_))
        exact HX.cut () trivial esA (Hs.refl _)
    rintro - -
    repeat' (first | refine HL.pa ?_ (POp.bneqF rfl rfl (by first | rfl | decide)) | refine HL.pa ?_ (POp.pnil1 rfl rfl) | refine HL.pa ?_ (POp.pnil0 rfl rfl) | refine HL.pa ?_ (POp.nilCheck rfl) | apply HL.fold | apply HA.fold | apply HL.nil | apply HX.n_then | apply HC.seq | apply HC.region | refine HL.pa ?_ | refine HL.ga rfl ?_ | refine HL.na rfl ?_ | refine HL.nu rfl rfl ?_ | apply HC.block | apply HC.skip | apply HC.exit | apply HC.ret | apply HX.e_block | refine HX.e_other rfl ?_ | apply HX.e_then | apply HX.e_again | apply HX.n_block | apply HX.r_then | apply HX.r_block | apply HX.r_again | refine HC.cond_yes rfl ?_ | refine HC.cond_no rfl ?_ | refine HL.one (H1.ldb rfl memA rfl rfl ?_) | refine HC.cond rfl (fun hc => ?_) (fun hc => ?_) | refine HC.cond_b rfl (fun hc => ?_) (fun hc => ?_))
    refine HL.one (H1.callz (vs := [_]) rfl rfl (fun w' hM => records2_fn (bj := bj) (bd := bd) (a := a) (c := c) (t := j1.t) (br := br5) (hM.blk memA) (Mm.gr (e := 9) (a := a) (c := c) hM memA) (by rw [hrec]; omega)) ?_)
    rintro ⟨ay, cy⟩ -
    dsimp only
    repeat' (first | refine HL.pa ?_ (POp.bneqF rfl rfl (by first | rfl | decide)) | refine HL.pa ?_ (POp.pnil1 rfl rfl) | refine HL.pa ?_ (POp.pnil0 rfl rfl) | refine HL.pa ?_ (POp.nilCheck rfl) | apply HL.fold | apply HA.fold | apply HL.nil | apply HX.n_then | apply HC.seq | apply HC.region | refine HL.pa ?_ | refine HL.ga rfl ?_ | refine HL.na rfl ?_ | refine HL.nu rfl rfl ?_ | apply HC.block | apply HC.skip | apply HC.exit | apply HC.ret | apply HX.e_block | refine HX.e_other rfl ?_ | apply HX.e_then | apply HX.e_again | apply HX.n_block | apply HX.r_then | apply HX.r_block | apply HX.r_again | refine HC.cond_yes rfl ?_ | refine HC.cond_no rfl ?_ | refine HL.one (H1.ldb rfl memA rfl rfl ?_) | refine HC.cond rfl (fun hc => ?_) (fun hc => ?_) | refine HC.cond_b rfl (fun hc => ?_) (fun hc => ?_))
    refine HL.one (H1.callx (u := .bool true) (vs := [_, _]) rfl rfl (fun w' hM => by
      have := same26_fn (.slice ay j1.t.recs.length cy) (.slice aw j1.t.recs.length cw) j1.t.recs j1.t.recs (by rw [hrec]; omega) (by rw [hrec]; omega) w' (Mm.gr (e := 9) (a := ay) (c := cy) hM (.head _)) (Mm.gr (e := 9) (a := aw) (c := cw) hM (.tail _ (.tail _ (.tail _ (.tail _ (.tail _ (.tail _ (.tail _ (.head _)))))))))
      rw [decide_eq_true rfl] at this
      exact this) ?_)
    repeat' (first | refine HL.pa ?_ (POp.bneqF rfl rfl (by first | rfl | decide)) | refine HL.pa ?_ (POp.pnil1 rfl rfl) | refine HL.pa ?_ (POp.pnil0 rfl rfl) | refine HL.pa ?_ (POp.nilCheck rfl) | apply HL.fold | apply HA.fold | apply HL.nil | apply HX.n_then | apply HC.seq | apply HC.region | refine HL.pa ?_ | refine HL.ga rfl ?_ | refine HL.na rfl ?_ | refine HL.nu rfl rfl ?_ | apply HC.block | apply HC.skip | apply HC.exit | apply HC.ret | apply HX.e_block | refine HX.e_other rfl ?_ | apply HX.e_then | apply HX.e_again | apply HX.n_block | apply HX.r_then | apply HX.r_block | apply HX.r_again | refine HC.cond_yes rfl ?_ | refine HC.cond_no rfl ?_ | refine HL.one (H1.ldb rfl memA rfl rfl ?_) | refine HC.cond rfl (fun hc => ?_) (fun hc => ?_) | refine HC.cond_b rfl (fun hc => ?_) (fun hc => ?_))
    refine HL.one (H1.call0 (vs := [_, _]) rfl rfl (fun w' hM => appendNil_fn _ w') ?_)
    repeat' (first | refine HL.pa ?_ (POp.bneqF rfl rfl (by first | rfl | decide)) | refine HL.pa ?_ (POp.pnil1 rfl rfl) | refine HL.pa ?_ (POp.pnil0 rfl rfl) | refine HL.pa ?_ (POp.nilCheck rfl) | apply HL.fold | apply HA.fold | apply HL.nil | apply HX.n_then | apply HC.seq | apply HC.region | refine HL.pa ?_ | refine HL.ga rfl ?_ | refine HL.na rfl ?_ | refine HL.nu rfl rfl ?_ | apply HC.block | apply HC.skip | apply HC.exit | apply HC.ret | apply HX.e_block | refine HX.e_other rfl ?_ | apply HX.e_then | apply HX.e_again | apply HX.n_block | apply HX.r_then | apply HX.r_block | apply HX.r_again | refine HC.cond_yes rfl ?_ | refine HC.cond_no rfl ?_ | refine HL.one (H1.ldb rfl memA rfl rfl ?_) | refine HC.cond rfl (fun hc => ?_) (fun hc => ?_) | refine HC.cond_b rfl (fun hc => ?_) (fun hc => ?_))
    refine HL.one (H1.call0 (vs := [_]) rfl rfl (fun w' hM => recordsNil_fn w') ?_)
    repeat' (first | refine HL.pa ?_ (POp.bneqF rfl rfl (by first | rfl | decide)) | refine HL.pa ?_ (POp.pnil1 rfl rfl) | refine HL.pa ?_ (POp.pnil0 rfl rfl) | refine HL.pa ?_ (POp.nilCheck rfl) | apply HL.fold | apply HA.fold | apply HL.nil | apply HX.n_then | apply HC.seq | apply HC.region | refine HL.pa ?_ | refine HL.ga rfl ?_ | refine HL.na rfl ?_ | refine HL.nu rfl rfl ?_ | apply HC.block | apply HC.skip | apply HC.exit | apply HC.ret | apply HX.e_block | refine HX.e_other rfl ?_ | apply HX.e_then | apply HX.e_again | apply HX.n_block | apply HX.r_then | apply HX.r_block | apply HX.r_again | refine HC.cond_yes rfl ?_ | refine HC.cond_no rfl ?_ | refine HL.one (H1.ldb rfl memA rfl rfl ?_) | refine HC.cond rfl (fun hc => ?_) (fun hc => ?_) | refine HC.cond_b rfl (fun hc => ?_) (fun hc => ?_))
    refine HL.one (H1.call0 (vs := [_]) rfl rfl (fun w' hM => roomNil_fn w') ?_)
    repeat' (first | refine HL.pa ?_ (POp.bneqF rfl rfl (by first | rfl | decide)) | refine HL.pa ?_ (POp.pnil1 rfl rfl) | refine HL.pa ?_ (POp.pnil0 rfl rfl) | refine HL.pa ?_ (POp.nilCheck rfl) | apply HL.fold | apply HA.fold | apply HL.nil | apply HX.n_then | apply HC.seq | apply HC.region | refine HL.pa ?_ | refine HL.ga rfl ?_ | refine HL.na rfl ?_ | refine HL.nu rfl rfl ?_ | apply HC.block | apply HC.skip | apply HC.exit | apply HC.ret | apply HX.e_block | refine HX.e_other rfl ?_ | apply HX.e_then | apply HX.e_again | apply HX.n_block | apply HX.r_then | apply HX.r_block | apply HX.r_again | refine HC.cond_yes rfl ?_ | refine HC.cond_no rfl ?_ | refine HL.one (H1.ldb rfl memA rfl rfl ?_) | refine HC.cond rfl (fun hc => ?_) (fun hc => ?_) | refine HC.cond_b rfl (fun hc => ?_) (fun hc => ?_))
    exact HX.ret1 rfl rfl fun w' hM => ⟨rfl, hM.ext⟩
end Go.Sx


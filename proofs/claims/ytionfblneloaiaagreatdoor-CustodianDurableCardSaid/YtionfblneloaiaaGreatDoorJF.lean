/- Chapter 26: a record is added; a content is read: the walks. -/
import Derived.Test.YtionfblneloaiaaGreatDoorJA
import Derived.Test.YtionfblneloaiaaGreatDoorJC
import Derived.Test.YtionfblneloaiaaGreatDoorKL
import Derived.Test.YtionfblneloaiaaGreatDoorKA
import Derived.Test.YtionfblneloaiaaGreatDoorJR
namespace Go.Sx
open Go Go.Proofs Go.RowKit
theorem hwJF {G G2 : Prop} (x : G2) (hwq : Hold G2 → G := by
    intro hQq
    repeat' (first | refine HL.pa ?_ (POp.nilCheck rfl) | apply HL.fold | apply HA.fold | apply HL.nil | apply HX.n_then | apply HC.seq | apply HC.region | refine HL.pa ?_ | refine HL.ga rfl ?_ | refine HL.na rfl ?_ | refine HL.nu rfl rfl ?_ | apply HC.block | apply HC.skip | apply HC.exit | apply HC.ret | apply HX.e_block | refine HX.e_other rfl ?_ | apply HX.e_then | apply HX.e_again | apply HX.n_block | apply HX.r_then | apply HX.r_block | apply HX.r_again | refine HC.cond_yes rfl ?_ | refine HC.cond_no rfl ?_ | refine HL.one (H1.ldb rfl memA rfl rfl ?_) | refine HC.cond rfl (fun hc => ?_) (fun hc => ?_) | refine HC.cond_b rfl (fun hc => ?_) (fun hc => ?_))
    exact hQq.get) : G := hwq ⟨x⟩
/-- The cells of what is kept. -/
def tpC (a : Option Addr) (c : Nat) (t : Tp) (rest : List Value) : List Value := .slice a t.recs.length c :: .string t.head :: zv (t.size : Int) :: rest
theorem outB_size (h r : ByteArray) : (outB h r).size = (outL h r).length := by
  show (outL h r).toArray.size = _
  rw [List.size_toArray]
theorem outL_len (h r : ByteArray) : (outL h r).length = 33 + (strN r.size).size + r.size := by
  unfold outL
  have h1 : (chainS h r).data.toList.length = 32 := by rw [Array.length_toList]; exact chainS_size h r
  have h2 : r.data.toList.length = r.size := by rw [Array.length_toList]; rfl
  have h3 : (strN r.size).size = (putN r.size).length := by show (putN r.size).toArray.size = _; rw [List.size_toArray]
  rw [List.length_cons, List.length_append, List.length_append, h1, h2, h3]; omega
theorem outB_eq (h r : ByteArray) : (mkB 1 ++ (strN r.size ++ r)) ++ chainS h r = outB h r := ba_ext (by
  rw [ByteArray.data_append, ByteArray.data_append, ByteArray.data_append]
  simp only [Array.toList_append]
  show [1] ++ (putN r.size ++ r.data.toList) ++ _ = outL h r
  unfold outL
  simp)
theorem ba_append_size (a b : ByteArray) : (a ++ b).size = a.size + b.size := ByteArray.size_append
theorem strs_snoc (l : List ByteArray) (r : ByteArray) : strs l ++ [.string r] = strs (l ++ [r]) := by simp [strs]
attribute [local irreducible] WC WL WX POp Then Again Fn NX W1 WA WO QL RP RA Yld LoopAt HC HL HX HN H1 HA HO HQ HB HP A.blk A.grow A.rd A.obj A.mp AgainH CutH
attribute [local irreducible] sumS chainS
set_option maxHeartbeats 1000000 in
theorem tadd_fn {w0 w : World} {H : List Atom} {b c : Nat} {e : TypeId} {a : Option Addr} {t : Tp} {rest : List Value} (r : ByteArray) (hG : RoundG w0) (hM : Mm w0 (A.blk b (tpC a c t rest) e :: A.grow 9 1 a c t.recs.length (strs t.recs) :: H) w)
    (hr : r.size ≤ 65536) (hh : t.head.size ≤ 32) (hn : t.recs.length ≤ 200000) (hs : t.size ≤ 100000000) :
    Fn Tryz.prog 149 #[.pointer (some ⟨b, 0, none⟩), .string r] w fun v w' => ∃ q : Option Addr × Nat, True ∧ v = .string (outB t.head r) ∧ Mm w0 (A.blk b (tpC q.1 q.2 (t.add r) rest) e :: A.grow 9 1 q.1 q.2 (t.recs ++ [r]).length (strs (t.recs ++ [r])) :: H) w' := by
  have hz := strN_size (n := r.size) (by omega)
  have hol := outL_len t.head r
  have hos := outB_size t.head r
  have hc32 := chainS_size t.head r
  have hm1 : (mkB 1).size = 1 := rfl
  have ha1 := ba_append_size (strN r.size) r
  have ha2 := ba_append_size (mkB 1) (strN r.size ++ r)
  have hpl : (t.recs ++ [r]).length = t.recs.length + 1 := by rw [List.length_append]; rfl
  refine enterK (l := [_, _]) hM rfl Tryz.ntmps149 rfl ?_
  refine hwJF ?_
  refine HL.one (H1.callx rfl rfl (fun w' hM => chain_fn t.head r (by omega) w' (hG.ext hM.ext)) ?_)
  refine hwJF ?_
  refine HL.one (H1.st (b := b) rfl rfl (by intro _ h; cases h) (by intro _ h; cases h) rplA (by show 1 < rest.length + 3; omega) ?_)
  refine hwJF ?_
  refine HL.one (H1.lit (cs := [.string r]) rfl rfl rfl rfl rfl rfl (fun b9 => ?_))
  refine hwJF ?_
  refine HL.one (H1.app1 (u := .string r) rfl rfl (fun _ _ => by first | ((repeat (first | with_reducible exact Rpl.here | with_reducible apply Rpl.there)); done) | (repeat (first | exact Rpl.here | apply Rpl.there))) memA rfl rfl (by omega) rfl rfl (fun a' c' => ?_))
  rw [strs_snoc]
  refine hwJF ?_
  refine HL.one (H1.st (b := b) rfl rfl (by intro _ h; cases h) (by intro _ h; cases h) rplA (by show 0 < rest.length + 3; omega) ?_)
  refine hwJF ?_
  refine HL.one (H1.callx rfl rfl (fun w' hM => putString_fn r hr w') ?_)
  refine hwJF ?_
  refine HC.sub [(0, .pointer (some ⟨b, 0, none⟩)), (5, .string (strN r.size ++ r))] (A.blk b (tpC (some ⟨a', 0, none⟩) c' ⟨t.recs ++ [r], chainS t.head r, t.size⟩ rest) e :: A.grow 9 1 (some ⟨a', 0, none⟩) c' (t.recs ++ [r]).length (strs (t.recs ++ [r])) :: H) ?_ esA (by unfold tpC; rw [hpl]; exact (Hs.refl _).skip)
  refine HC.anyC ([(⟨b, 1, none⟩, .string (chainS t.head r))]) rfl ?_
  refine HB.pa 2 rfl ?_
  refine HB.pa 4 rfl ?_
  refine HB.pa 5 rfl ?_ (POp.nilCheck rfl)
  refine HB.pa 6 rfl ?_
  refine HB.ld 7 rfl rfl memD ?_
  refine HB.all (by (exact Keep.blk (b := b) memD rfl Keep.nil)) [0] (by kernel_rfl) rfl ⟨⟨_, rfl, ?_⟩, trivial⟩
  refine HP.one ?_
  refine H1.lit (cs := [b8 1]) rfl rfl rfl rfl rfl rfl (fun b8' => ?_)
  apply HB.fold
  refine HB.all (by (exact Keep.blk (b := b) memD rfl Keep.nil)) [1] (by kernel_rfl) rfl ⟨⟨_, rfl, ?_⟩, trivial⟩
  refine HP.one ?_
  refine H1.bstrB (ys := [1]) rfl memA rfl ?_
  apply HB.fold
  refine HB.pa 3 rfl ?_ (POp.cat (s := mkB 1) (u := strN r.size ++ r) rfl rfl (by omega))
  refine HB.pa 8 rfl ?_ (POp.cat (s := mkB 1 ++ (strN r.size ++ r)) (u := chainS t.head r) rfl rfl (by omega))
  rw [outB_eq]
  refine HB.pa 9 rfl ?_
  refine HB.done (by (exact Keep.blk (b := b) memD rfl Keep.nil)) (by kernel_rfl) ?_
  refine hwJF ?_
  refine HL.pa ?_ (POp.add (m := (t.size : Int)) (n := ((outB t.head r).size : Int)) rfl rfl (by omega) (by omega))
  refine hwJF ?_
  refine HL.one (H1.st (b := b) rfl rfl (by intro _ h; cases h) (by intro _ h; cases h) rplA (by show 2 < rest.length + 3; omega) ?_)
  refine hwJF ?_
  refine HX.ret1 rfl rfl fun w' hM => ⟨(some ⟨a', 0, none⟩, c'), trivial, rfl, ?_⟩
  have e1 : (tpC (some ⟨a', 0, none⟩) c' ⟨t.recs ++ [r], chainS t.head r, t.size⟩ rest).set (0 + 2) (.int .i64 ((t.size : Int) + ((outB t.head r).size : Int))) = tpC (some ⟨a', 0, none⟩) c' (t.add r) rest := by
    rw [hos]; rfl
  rw [← e1]
  exact hM.tail
theorem mkBA_inj {l m : List UInt8} : mkBA l = mkBA m ↔ l = m := by
  constructor
  · intro h
    have := congrArg (fun s : ByteArray => s.data.toList) h
    simpa [mkBA] using this
  · rintro rfl; rfl
set_option maxHeartbeats 4000000 in
theorem load_fn {w0 w : World} {H : List Atom} {b c : Nat} {e : TypeId} {a : Option Addr} {ea : Addr} {t0 : Tp} {rest : List Value} (s : ByteArray) (hG : RoundG w0) (hE : ErrG ea w0)
    (hM : Mm w0 (A.blk b (tpC a c t0 rest) e :: A.grow 9 1 a c t0.recs.length (strs t0.recs) :: H) w) (hs : s.size ≤ 4194304) (hz : t0.size ≤ s.size) (hn : 33 * t0.recs.length ≤ t0.size) (hh : t0.head.size ≤ 32) :
    Calls Tryz.prog 159 #[.pointer (some ⟨b, 0, none⟩), .string s] w
      (EndP (fun z : Option Addr × Nat × Tp => loadF s.data.toList t0 = some z.2.2) (fun _ => .tuple #[]) (fun z => A.blk b (tpC z.1 z.2.1 z.2.2 rest) e :: A.grow 9 1 z.1 z.2.1 z.2.2.recs.length (strs z.2.2.recs) :: H)
        (fun _ : Unit => loadF s.data.toList t0 = none) (errP ea) (fun _ => H) w0) := by
  have hlen : s.data.toList.length = s.size := by rw [Array.length_toList]; rfl
  refine enterE (l := [_, _]) hM rfl Tryz.ntmps159 rfl ?_
  refine hwJF ?_
  refine HC.loop (α := Option Addr × Nat × Tp) (fun z => [(0, .pointer (some ⟨b, 0, none⟩)), (1, .string s)]) (fun z => A.blk b (tpC z.1 z.2.1 z.2.2 rest) e :: A.grow 9 1 z.1 z.2.1 z.2.2.recs.length (strs z.2.2.recs) :: H)
    (fun z => loadF s.data.toList z.2.2 = loadF s.data.toList t0 ∧ z.2.2.size ≤ s.size ∧ 33 * z.2.2.recs.length ≤ z.2.2.size ∧ z.2.2.head.size ≤ 32) (fun z => s.size - z.2.2.size) (a, c, t0) ⟨rfl, hz, hn, hh⟩ esA (Hs.refl _) ?_
  rintro ⟨a1, c1, t⟩ ⟨hF, hts, htn, hth⟩
  dsimp only at hF hts htn hth ⊢
  by_cases hin : t.size < s.size
  · have hsb : ((s.data.toList.getD t.size 0).toNat) = sb s t.size := rfl
    by_cases hz0 : (sb s t.size : Int) = 0
    · have hend := loadF_end (s := s.data.toList) (t := t) (fun h => h.2 (UInt8.toNat_inj.1 (by rw [hsb]; exact_mod_cast hz0)))
      refine hwJF ?_
      exact HX.end0E rfl fun w' hM => .inl ⟨(a1, c1, t), by rw [← hF, hend], rfl, hM⟩
    · have hne : t.size < s.data.toList.length ∧ s.data.toList.getD t.size 0 ≠ 0 := ⟨by omega, fun h => hz0 (by rw [← hsb, h]; rfl)⟩
      refine hwJF ?_
      refine HL.one (H1.callE (vs := [.bool (decide ((sb s t.size : Int) = 1))]) rfl rfl (fun w' hM => check_fn _ hM hE) (fun _ hb1 => ?_) (fun _ hb1 => ?_))
      rotate_left
      · have hbad := loadF_bad (t := t) hne (fun h => of_decide_eq_false hb1 (by rw [← hsb, h]; rfl))
        repeat (first | apply HX.p_then | apply HX.p_block | apply HX.p_again)
        exact HX.panE fun w' hM => .inr ⟨(), by rw [← hF, hbad], rfl, hM.tail.tail⟩
      have hone : s.data.toList.getD t.size 0 = 1 := UInt8.toNat_inj.1 (by rw [hsb]; exact_mod_cast of_decide_eq_true hb1)
      refine hwJF ?_
      refine HL.one (H1.call0 (vs := [.string s, zv ((t.size + 1 : Nat) : Int)]) rfl rfl (fun w' _ => string_fn s (t.size + 1) (by omega) (by omega) w') ?_)
      cases hd : decS s.data.toList (t.size + 1) with
      | none =>
        have hnone := loadF_none (t := t) hne hd
        unfold strV
        refine hwJF ?_
        refine HL.one (H1.callE (vs := [.bool _]) rfl rfl (fun w' hM => check_fn _ hM hE) (fun _ hb2 => ?_) (fun _ hb2 => ?_))
        · cases hb2
        repeat (first | apply HX.p_then | apply HX.p_block | apply HX.p_again)
        exact HX.panE fun w' hM => .inr ⟨(), by rw [← hF, hnone], rfl, hM.tail.tail⟩
      | some x =>
        obtain ⟨r, q⟩ := x
        have hle := decS_le hd
        have hno := fun h => loadF_no (t := t) hne hd h
        have hyes := fun h => loadF_step (t := t) hne hone hd h
        have hrs : (mkBA r).size = r.length := by show r.toArray.size = _; rw [List.size_toArray]
        have hol := outL_len t.head (mkBA r)
        unfold strV
        refine hwJF ?_
        refine HL.one (H1.callE (vs := [.bool (decide ((q : Int) + 32 ≤ (s.size : Int)))]) rfl rfl (fun w' hM => check_fn _ hM hE) (fun _ hb2 => ?_) (fun _ hb2 => ?_))
        rotate_left
        · repeat (first | apply HX.p_then | apply HX.p_block | apply HX.p_again)
          exact HX.panE fun w' hM => .inr ⟨(), by rw [← hF, hno (fun h => of_decide_eq_false hb2 (by omega))], rfl, hM.tail.tail⟩
        have hq32 : (q : Int) + 32 ≤ (s.size : Int) := of_decide_eq_true hb2
        have e1 : ((q : Int) + 32).toNat = q + 32 := by omega
        have e2 := extract_mk s t.size (q + 32)
        refine hwJF ?_
        refine HC.sub [(0, .pointer (some ⟨b, 0, none⟩)), (1, .string s), (4, zv (t.size : Int)), (5, .string (mkBA r)), (6, zv (q : Int))] (A.blk b (tpC a1 c1 t rest) e :: A.grow 9 1 a1 c1 t.recs.length (strs t.recs) :: H) ?_ esA (Hs.refl _)
        refine HC.any rfl ?_
        refine HA.pa 0 rfl ?_
        refine HA.pa 1 rfl ?_
        refine HA.pa 3 rfl ?_
        refine HA.pa 4 rfl ?_
        refine HA.pa 5 rfl ?_
        refine HA.pa 6 rfl ?_
        refine HA.pa 7 rfl ?_ (POp.sub_lh rfl rfl rfl (by omega) (by omega) (by omega))
        rw [Int.toNat_natCast, e1, e2]
        refine HA.all [2] (by kernel_rfl) rfl ⟨⟨_, rfl, ?_⟩, trivial⟩
        refine HO.one ?_
        refine H1.callk (α := Option Addr × Nat) (V := fun _ => .string (outB t.head (mkBA r))) (I := fun _ => True) (H' := fun q => A.blk b (tpC q.1 q.2 (t.add (mkBA r)) rest) e :: A.grow 9 1 q.1 q.2 (t.recs ++ [mkBA r]).length (strs (t.recs ++ [mkBA r])) :: H) (vs := [_, _]) rfl rfl
          (fun w' hM => tadd_fn (mkBA r) hG hM (by omega) hth (by omega) (by omega)) ?_
        rintro ⟨a2, c2⟩ -
        dsimp only
        apply HA.fold
        refine HA.pa 8 rfl ?_ (POp.seql rfl rfl)
        refine HA.all [9] (by kernel_rfl) rfl ⟨⟨_, rfl, ?_⟩, trivial⟩
        refine HO.one ?_
        refine H1.callE (vs := [.bool (decide (outB t.head (mkBA r) = mkBA ((s.data.toList.drop t.size).take (q + 32 - t.size))))]) rfl rfl (fun w' hM => check_fn _ hM hE) (fun _ hb3 => ?_) (fun _ hb3 => ?_)
        rotate_left
        · repeat (first | apply HX.p_then | apply HX.p_block | apply HX.p_again)
          exact HX.panE fun w' hM => .inr ⟨(), by rw [← hF, hno (fun h => of_decide_eq_false hb3 (mkBA_inj.2 h.2))], rfl, hM.tail.tail⟩
        apply HA.fold
        refine HA.done (by kernel_rfl) ?_
        refine hwJF ?_
        have hcmp := mkBA_inj.1 (of_decide_eq_true hb3)
        have hll : (outL t.head (mkBA r)).length = q + 32 - t.size := by rw [hcmp, List.length_take, List.length_drop]; omega
        have hsz : (t.add (mkBA r)).size = q + 32 := by show t.size + (outL t.head (mkBA r)).length = _; omega
        have hrl : (t.recs ++ [mkBA r]).length = t.recs.length + 1 := by rw [List.length_append]; rfl
        refine HX.again (a2, c2, t.add (mkBA r)) ⟨by rw [← hyes ⟨by omega, hcmp⟩]; exact hF, ?_, ?_, ?_⟩ ?_ esA (Hs.refl _)
        · show (t.add (mkBA r)).size ≤ _; omega
        · show 33 * (t.recs ++ [mkBA r]).length ≤ (t.add (mkBA r)).size; omega
        · show (chainS t.head (mkBA r)).size ≤ 32; rw [chainS_size]; exact Nat.le_refl _
        · show s.size - (t.add (mkBA r)).size < s.size - t.size; omega
  · have hend := loadF_end (s := s.data.toList) (t := t) (fun h => hin (by omega))
    refine hwJF ?_
    exact HX.end0E rfl fun w' hM => .inl ⟨(a1, c1, t), by rw [← hF, hend], rfl, hM⟩
end Go.Sx
/- Chapter 26: open, which recovers: the walk. -/
namespace Go.Sx
open Go Go.Proofs Go.RowKit
theorem zero32_size : zero32.size = 32 := rfl
def jnR (bd : Nat) (br : Bool) : List Value := [.pointer (some ⟨bd, 0, none⟩), .bool br]
abbrev jnH (bj : Nat) (a : Option Addr) (c bd : Nat) (t : Tp) (br : Bool) (H : List Atom) : List Atom := A.blk bj (tpC a c t (jnR bd br)) 179 :: A.grow 9 1 a c t.recs.length (strs t.recs) :: H
def openP (w0 : World) (bd : Nat) (H : List Atom) (o : Option Tp) (v : Value) (w' : World) : Prop :=
  match o with
  | some t => ∃ z : Nat × Option Addr × Nat, v = .tuple #[.pointer (some ⟨z.1, 0, none⟩), zv 0] ∧ Mm w0 (jnH z.1 z.2.1 z.2.2 bd t false H) w'
  | none => v = .tuple #[.pointer none, zv 262] ∧ Mm w0 H w'
theorem HX.p_any {P : Program} {N : Nat} {ds : List Deferred} {Q : Post} {E : Env} {w0 : World} {H : List Atom} {r : Option Nat} {y : Code} {ch : List PanicEntry} (h : HX N ds (.panic ch) Q E w0 H) : HX N ds (.panic ch) (Then P r y Q) E w0 H := h
theorem res_cells2 {P : Program} {fn : Func} {N : Nat} {ds : List Deferred} {E : Env} {a : Act} {w : World} {p q : Nat} {t1 t2 : TypeId} {b4 b5 : Nat} {v1 v2 : Value} [h1 : ATy P t1 false] [h2 : ATy P t2 false] (hr : fn.results = #[.cell p t1, .cell q t2]) (ha : Rep N ds E a)
    (e1 : Env.g E p = some (.pointer (some ⟨b4, 0, none⟩))) (e2 : Env.g E q = some (.pointer (some ⟨b5, 0, none⟩))) (c1 : w.cell? ⟨b4, 0, none⟩ = some v1) (c2 : w.cell? ⟨b5, 0, none⟩ = some v2) :
    (results fn a.tmps).run P w = .ok (.tuple #[v1, v2]) w := by
  have g1 : a.tmps[p]?.getD undef = .pointer (some ⟨b4, 0, none⟩) := by rw [ha.get _ _ e1]; rfl
  have g2 : a.tmps[q]?.getD undef = .pointer (some ⟨b5, 0, none⟩) := by rw [ha.get _ _ e2]; rfl
  have l1 : (loadVar t1 ⟨b4, 0, none⟩).run P w = .ok v1 w := by
    simp only [loadVar, Sem.run_bind, run_isAgg]
    simp [Result.andThen, c1]
  have l2 : (loadVar t2 ⟨b5, 0, none⟩).run P w = .ok v2 w := by
    simp only [loadVar, Sem.run_bind, run_isAgg]
    simp [Result.andThen, c2]
  simp [results, hr, g1, g2, asAddr, l1, l2]
attribute [local irreducible] WC WL WX POp Then Again Fn NX W1 WA WO QL RP RA Yld LoopAt HC HL HX HN H1 HA HO HQ HB HP A.blk A.grow A.rd A.obj A.mp AgainH CutH
set_option maxHeartbeats 1000000 in
theorem open_all {w0 w : World} {H : List Atom} {ea : Addr} {bd : Nat} (s : ByteArray) (hG : RoundG w0) (hE : ErrG ea w0) (hM : Mm w0 H w) (hs : s.size ≤ 4194304) :
    Calls Tryz.prog 105 #[.pointer (some ⟨bd, 0, none⟩), .string s] w fun e w' => ∃ v, e = .returned v ∧ openP w0 bd H (loadF s.data.toList t00) v w' := by
  refine enterD (l := [_, _]) hM rfl Tryz.ntmps105 rfl ?_
  refine hwJF ?_
  refine HL.one (H1.alloc (cs := [.pointer none]) rfl rfl (fun b4 => ?_))
  refine hwJF ?_
  refine HL.one (H1.alloc (cs := [zv 0]) rfl rfl (fun b5 => ?_))
  refine hwJF ?_
  refine HL.defer (f := 158) (cap := [.pointer (some ⟨b4, 0, none⟩), .pointer (some ⟨b5, 0, none⟩)]) rfl ?_
  refine hwJF ?_
  refine HL.one (H1.make (l := 32) (c := 32) rfl rfl rfl rfl rfl (Nat.le_refl _) (by decide) (by decide) rfl (fun b8' => ?_))
  rw [ub_zero]
  refine hwJF ?_
  refine HL.one (H1.bstrB (ys := List.replicate 32 0) rfl memA rfl ?_)
  refine hwJF ?_
  refine HL.build (cs := [.slice none 0 0, .string zero32, zv 0]) rfl rfl rfl ?_
  refine hwJF ?_
  refine HL.build (cs := tpC none 0 t00 (jnR bd false)) rfl rfl rfl ?_
  refine hwJF ?_
  refine HL.one (H1.boxAgg (cs := tpC none 0 t00 (jnR bd false)) rfl rfl (fun bj => ?_))
  refine hwJF ?_
  refine HL.one (H1.st (b := b4) rfl rfl (by intro _ h; cases h) (by intro _ h; cases h) rplA (by exact Nat.zero_lt_one) ?_)
  refine hwJF ?_
  refine HL.grow0 9 1 ?_
  refine hwJF ?_
  refine HL.one (H1.callE (vs := [_, .string s]) rfl rfl (fun w' hM => load_fn (H := A.blk b4 [.pointer (some ⟨bj, 0, none⟩)] 82 :: A.blk b5 [zv 0] 28 :: H) s hG hE (hM.sub (Hs.cons (Pick.there Pick.here) (Hs.cons Pick.here (Hs.cons (Pick.there (Pick.there Pick.here)) (Hs.cons (Pick.there Pick.here) (Hs.refl _).skip))))) hs (Nat.zero_le _) (Nat.le_refl _) (by decide)) ?_ ?_)
  · rintro ⟨a1, c1, t⟩ hF
    dsimp only at hF ⊢
    rw [hF]
    refine hwJF ?_
    refine HL.one (H1.st rfl rfl (by intro _ h; cases h) (by intro _ h; cases h) rplA (by exact Nat.zero_lt_one) ?_)
    refine hwJF ?_
    refine HL.one (H1.st rfl rfl (by intro _ h; cases h) (by intro _ h; cases h) rplA (by exact Nat.zero_lt_one) ?_)
    refine hwJF ?_
    refine HX.door (u' := .returning) (R' := fun w w' => Ext w w') rfl (fun w hM => recover_no b4 b5) fun w1 w2 hM hx a ha => ?_
    have hM2 := hM.more hx
    exact ⟨.tuple #[.pointer (some ⟨bj, 0, none⟩), zv 0], res_cells2 rfl ha rfl rfl ((hM2.blk (b := b4) (e := 82) (.tail _ (.tail _ (.head _)))).cell rfl) ((hM2.blk (b := b5) (e := 28) (.tail _ (.tail _ (.tail _ (.head _))))).cell rfl), _, rfl, (bj, a1, c1), rfl,
      hM2.sub (Hs.cons Pick.here (Hs.cons Pick.here (Hs.refl _).skip.skip))⟩
  · rintro - hF
    rw [hF]
    repeat (first | apply HX.p_then | apply HX.p_block | apply HX.p_again)
    refine HX.doorP (ch := errP ea) (u' := .panicking (errQ ea)) (R' := fun _ w' => Mm w0 (A.blk b4 [.pointer none] 82 :: A.blk b5 [zv 262] 28 :: H) w') rfl (fun w hM => recover_yes b4 b5 hE hM) fun w1 w2 hM hM2 a ha => ?_
    exact ⟨.tuple #[.pointer none, zv 262], res_cells2 rfl ha rfl rfl ((hM2.blk (b := b4) (e := 82) (.head _)).cell rfl) ((hM2.blk (b := b5) (e := 28) (.tail _ (.head _))).cell rfl), _, rfl, rfl, hM2.tail.tail⟩
end Go.Sx
namespace Go.Sx
open Go Go.Proofs Go.RowKit
theorem open_fn {w0 w : World} {H : List Atom} {ea : Addr} {bd : Nat} (s : ByteArray) (hG : RoundG w0) (hE : ErrG ea w0) (hM : Mm w0 H w) (hs : s.size ≤ 4194304) :
    Fn Tryz.prog 105 #[.pointer (some ⟨bd, 0, none⟩), .string s] w fun v w' => openP w0 bd H (loadF s.data.toList t00) v w' := open_all s hG hE hM hs
end Go.Sx
/- Chapter 26: calls one after the other: the walks. -/
namespace Go.Sx
open Go Go.Proofs Go.RowKit
section
variable {P : Program} {r : Option Nat} {N : Nat} {ds : List Deferred} {ol rest : List Oper} {Q : Post} {E : Env} {w0 : World} {H : List Atom} {next : Act → World → Prop} {g : Option (Nat × Bool)}
variable {d : Option Nat} {ty : TypeId} {pos : String} {af : Array Edge} {x : Operand}
/-- A call of a function value, which may have arguments bound. -/
theorem H1.callvb {α : Type} {V : α → Value} {H' : α → List Atom} {I : α → Prop} {f : FuncId} {bd cap : List Value} {args : List Operand} {ats : Array TypeId} {vs : List Value}
    [hf : CallOk P f] (hd : dOk d N = true) (hx : Env.ev E x = some (.func (.func f) bd.toArray cap.toArray)) (ha : Env.evs E args = some vs) (hc : ∀ w, Mm w0 H w → Fn P f (bd ++ vs ++ cap).toArray w fun v w' => ∃ z, I z ∧ v = V z ∧ Mm w0 (H' z) w')
    (h : ∀ z, I z → HN N ds next (putE d (V z) E) w0 (H' z)) :
    H1 P r N ds next ⟨d, .call ⟨.value x, args.toArray, ats⟩, ty, pos, af, g⟩ Q E w0 H := fun w hM =>
  W1.enter hd (fun a hr => by
    have hm : Array.map a.eval args.toArray = vs.toArray := by simp [hr.evs ha]
    simp [execOp, resolve, hm, hr.ev hx, Deferred.ofValue, invoke, hf.run]) (hc w hM) (by
    rintro v w' ⟨z, hz, rfl, hn⟩; exact h z hz w' hn)
end
/-- A function value without arguments that does to the disk what o says. -/
def Opn (w0 : World) (bd b1 b2 : Nat) (H : List Atom) (fv : Value) (o : DOp) : Prop :=
  ∃ (f : FuncId) (bo cap : List Value), fv = .func (.func f) bo.toArray cap.toArray ∧ CallOk Tryz.prog f ∧ ∀ (k : Dk) (pa : Option Addr) (pc : Nat) (w : World), k.Ok → Mm w0 (dkH bd b1 b2 pa pc k H) w →
    Fn Tryz.prog f (bo ++ [] ++ cap).toArray w fun v w' => ∃ q : Option Addr × Nat, True ∧ v = zv (o.run k).1 ∧ Mm w0 (dkH bd b1 b2 q.1 q.2 (o.run k).2 H) w'
attribute [local irreducible] WC WL WX POp Then Again Fn NX W1 WA WO QL RP RA Yld LoopAt HC HL HX HN H1 HA HO HQ HB HP A.blk A.grow A.rd A.obj A.mp AgainH CutH
theorem opn_sync (w0 : World) (bd b1 b2 : Nat) (H : List Atom) : Opn w0 bd b1 b2 H (.func (.func 108) [.pointer (some ⟨bd, 0, none⟩)].toArray [].toArray) .sy :=
  ⟨108, [.pointer (some ⟨bd, 0, none⟩)], [], rfl, inferInstance, fun k pa pc w hk hM => (sync_fn hM hk).mono fun v w' h => ⟨(pa, pc), trivial, h.1, h.2⟩⟩
theorem writing1_fn {w0 w : World} {H : List Atom} {bd b1 b2 pc bj c1 c2 c3 : Nat} {pa : Option Addr} {k : Dk} {off : Nat} {s : ByteArray} (hM : Mm w0 (dkH bd b1 b2 pa pc k H) w) (hk : k.Ok) (ho : off ≤ 5000000) (hs : s.size ≤ 5000000)
    {jc : List Value} (hj : A.blk bj jc 179 ∈ H) (hd : jc[3]? = some (.pointer (some ⟨bd, 0, none⟩))) (h1 : A.blk c1 [.pointer (some ⟨bj, 0, none⟩)] 82 ∈ H) (h2 : A.blk c2 [zv (off : Int)] 3 ∈ H) (h3 : A.blk c3 [.string s] 9 ∈ H) :
    Fn Tryz.prog 160 #[.pointer (some ⟨c1, 0, none⟩), .pointer (some ⟨c2, 0, none⟩), .pointer (some ⟨c3, 0, none⟩)] w fun v w' => ∃ q : Option Addr × Nat, True ∧ v = zv (k.write off s).1 ∧ Mm w0 (dkH bd b1 b2 q.1 q.2 (k.write off s).2 H) w' := by
  have m1 : ∀ {k' : Dk} {pa' : Option Addr} {pc' : Nat} {x : Atom}, x ∈ H → x ∈ dkH bd b1 b2 pa' pc' k' H := fun h => .tail _ (.tail _ (.tail _ (.tail _ h)))
  refine enterK (l := [_, _, _]) hM rfl Tryz.ntmps160 rfl ?_
  refine hwJF ?_
  refine HC.anyC ([(⟨c1, 0, none⟩, .pointer (some ⟨bj, 0, none⟩)), (⟨bj, 3, none⟩, .pointer (some ⟨bd, 0, none⟩)), (⟨c2, 0, none⟩, zv (off : Int)), (⟨c3, 0, none⟩, .string s)]) rfl ?_
  refine HB.ld 0 rfl rfl memD ?_
  refine HB.pa 1 rfl ?_ (POp.nilCheck rfl)
  refine HB.pa 2 rfl ?_
  refine HB.ld 3 rfl rfl memD ?_
  refine HB.ld 4 rfl rfl memD ?_
  refine HB.ld 5 rfl rfl memD ?_
  refine HB.all (by (exact Keep.blk (b := c1) (cs := [.pointer (some ⟨bj, 0, none⟩)]) (m1 h1) rfl (Keep.blk (b := bj) (m1 hj) hd (Keep.blk (b := c2) (cs := [zv (off : Int)]) (m1 h2) rfl (Keep.blk (b := c3) (cs := [.string s]) (m1 h3) rfl Keep.nil))))) [6] (by kernel_rfl) rfl ⟨⟨_, rfl, ?_⟩, trivial⟩
  refine HP.one ?_
  refine H1.callk (α := Option Addr × Nat) (V := fun _ => zv (k.write off s).1) (I := fun _ => True) (H' := fun q => dkH bd b1 b2 q.1 q.2 (k.write off s).2 H) (vs := [_, _, _]) rfl rfl (fun w' hM => write_fn off s hM hk ho hs) ?_
  rintro ⟨a', c'⟩ -
  dsimp only
  apply HB.fold
  refine HB.pa 7 rfl ?_
  refine HB.done (by (exact Keep.blk (b := c1) (cs := [.pointer (some ⟨bj, 0, none⟩)]) (m1 h1) rfl (Keep.blk (b := bj) (m1 hj) hd (Keep.blk (b := c2) (cs := [zv (off : Int)]) (m1 h2) rfl (Keep.blk (b := c3) (cs := [.string s]) (m1 h3) rfl Keep.nil))))) (by kernel_rfl) ?_
  refine hwJF ?_
  exact HX.ret1 rfl rfl fun w' hM => ⟨(a', c'), trivial, rfl, hM⟩
theorem opn_write {w0 : World} {H : List Atom} {bd b1 b2 bj c1 c2 c3 : Nat} {off : Nat} {s : ByteArray} (ho : off ≤ 5000000) (hs : s.size ≤ 5000000)
    {jc : List Value} (hj : A.blk bj jc 179 ∈ H) (hd : jc[3]? = some (.pointer (some ⟨bd, 0, none⟩))) (h1 : A.blk c1 [.pointer (some ⟨bj, 0, none⟩)] 82 ∈ H) (h2 : A.blk c2 [zv (off : Int)] 3 ∈ H) (h3 : A.blk c3 [.string s] 9 ∈ H) :
    Opn w0 bd b1 b2 H (.func (.func 160) [].toArray [.pointer (some ⟨c1, 0, none⟩), .pointer (some ⟨c2, 0, none⟩), .pointer (some ⟨c3, 0, none⟩)].toArray) (.wr off s) :=
  ⟨160, [], [.pointer (some ⟨c1, 0, none⟩), .pointer (some ⟨c2, 0, none⟩), .pointer (some ⟨c3, 0, none⟩)], rfl, inferInstance, fun _ _ _ _ hk hM => writing1_fn hM hk ho hs hj hd h1 h2 h3⟩
theorem writing_fn (bj off : Nat) (s : ByteArray) (w : World) : Fn Tryz.prog 107 #[.pointer (some ⟨bj, 0, none⟩), zv (off : Int), .string s] w fun v w' => ∃ z : Nat × Nat × Nat, True ∧
    v = .func (.func 160) #[] #[.pointer (some ⟨z.1, 0, none⟩), .pointer (some ⟨z.2.1, 0, none⟩), .pointer (some ⟨z.2.2, 0, none⟩)] ∧
    Mm w [A.blk z.1 [.pointer (some ⟨bj, 0, none⟩)] 82, A.blk z.2.1 [zv (off : Int)] 3, A.blk z.2.2 [.string s] 9] w' := by
  refine enterH (l := [_, _, _]) rfl Tryz.ntmps107 rfl ?_
  refine hwJF ?_
  refine HL.one (H1.box rfl rfl rfl (fun c1 => ?_))
  refine hwJF ?_
  refine HL.one (H1.box rfl rfl rfl (fun c2 => ?_))
  refine hwJF ?_
  refine HL.one (H1.box rfl rfl rfl (fun c3 => ?_))
  refine hwJF ?_
  exact HX.ret1 rfl rfl fun w' hM => ⟨(c1, c2, c3), trivial, rfl, hM.sub (by repeat (first | exact Hs.nil _ | (refine Hs.cons pickA ?_)))⟩
theorem first_fn {w0 w : World} {H : List Atom} {bd b1 b2 pc bl : Nat} {pa : Option Addr} {k : Dk} {fvs : List Value} {ops : List DOp} (hM : Mm w0 (dkH bd b1 b2 pa pc k H) w) (hl : fvs.length = ops.length) (hbl : A.blk bl fvs 103 ∈ H)
    (hops : ∀ (i : Nat) (fv : Value) (o : DOp), fvs[i]? = some fv → ops[i]? = some o → Opn w0 bd b1 b2 H fv o) (hk : k.Ok) (hp : k.pend.length + ops.length ≤ 10000) (hn : ops.length ≤ 100) :
    Fn Tryz.prog 106 #[.slice (some ⟨bl, 0, none⟩) ops.length ops.length] w fun v w' => ∃ q : Option Addr × Nat, True ∧ v = zv (runOps ops k).1 ∧ Mm w0 (dkH bd b1 b2 q.1 q.2 (runOps ops k).2 H) w' := by
  refine enterK (l := [_]) hM rfl Tryz.ntmps106 rfl ?_
  refine hwJF ?_
  refine HC.loop (α := Nat × Option Addr × Nat × Dk) (fun z => [(6, .slice (some ⟨bl, 0, none⟩) ops.length ops.length), (7, zv (ops.length : Int)), (8, zv (z.1 : Int))]) (fun z => dkH bd b1 b2 z.2.1 z.2.2.1 z.2.2.2 H)
    (fun z => z.1 ≤ ops.length ∧ runOps (ops.drop z.1) z.2.2.2 = runOps ops k ∧ z.2.2.2.Ok ∧ z.2.2.2.pend.length + (ops.length - z.1) ≤ 10000) (fun z => ops.length - z.1) (0, pa, pc, k) ⟨Nat.zero_le _, rfl, hk, by omega⟩ esA (Hs.refl _) ?_
  rintro ⟨i, a1, c1, k1⟩ ⟨hi, hrun, hk1, hp1⟩
  dsimp only at hi hrun hk1 hp1 ⊢
  by_cases hlt : i < ops.length
  · obtain ⟨o, ho⟩ : ∃ o, ops[i]? = some o := ⟨_, List.getElem?_eq_getElem hlt⟩
    obtain ⟨fv, hfv⟩ : ∃ fv, fvs[i]? = some fv := ⟨_, List.getElem?_eq_getElem (by omega)⟩
    obtain ⟨f, bo, cap, rfl, hcf, hcall⟩ := hops i fv o hfv ho
    have hdr : ops.drop i = o :: ops.drop (i + 1) := by
      rw [List.drop_eq_getElem_cons hlt]
      congr 1
      rw [List.getElem?_eq_getElem hlt] at ho
      exact Option.some.inj ho
    rw [hdr] at hrun
    refine hwJF ?_
    refine HL.one (H1.ldb (b := bl) (v := .func (.func f) bo.toArray cap.toArray) rfl (.tail _ (.tail _ (.tail _ (.tail _ hbl)))) hfv rfl ?_)
    refine hwJF ?_
    refine HL.one (H1.callvb (hf := hcf) (α := Option Addr × Nat) (V := fun _ => zv (o.run k1).1) (I := fun _ => True) (H' := fun q => dkH bd b1 b2 q.1 q.2 (o.run k1).2 H) (f := f) (bd := bo) (cap := cap) (vs := []) rfl rfl rfl (fun w' hM => hcall k1 a1 c1 w' hk1 hM) ?_)
    rintro ⟨a2, c2⟩ -
    dsimp only
    by_cases h0 : (o.run k1).1 = 0
    · rw [runOps_ok h0] at hrun
      have hpl := (o.run_len k1 hk1.len).2.2.2
      refine hwJF ?_
      exact HX.again (i + 1, a2, c2, (o.run k1).2) ⟨hlt, hrun, o.run_ok hk1 (by omega), by show (o.run k1).2.pend.length + (ops.length - (i + 1)) ≤ _; omega⟩ (by show ops.length - (i + 1) < ops.length - i; omega) esA (Hs.refl _)
    · rw [runOps_no h0] at hrun
      refine hwJF ?_
      exact HX.ret1 rfl rfl fun w' hM => ⟨(a2, c2), trivial, by rw [← hrun], by rw [← hrun]; exact hM⟩
  · obtain rfl : i = ops.length := by omega
    rw [List.drop_length] at hrun
    refine hwJF ?_
    exact HX.ret1 rfl rfl fun w' hM => ⟨(a1, c1), trivial, by rw [← hrun]; rfl, by rw [← hrun]; exact hM⟩
end Go.Sx


/- Chapter 26: what panics, and what recovers. -/
import Derived.Test.YtionfblneloaiaaGreatDoorDB
import Derived.Test.YtionfblneloaiaaGreatDoorXH
import Derived.Test.YtionfblneloaiaaGreatDoorMX
import Derived.LaidEql
import Derived.Stop.Asserts
import Derived.RowKitTokens
namespace Go.Sx
open Go Go.Proofs Go.RowKit Go.Extern.Stop Go.Stop Go.Extern
theorem hwJA {G G2 : Prop} (x : G2) (hwq : Hold G2 → G := by
    intro hQq
    repeat' (first | apply HL.fold | apply HA.fold | apply HL.nil | apply HX.n_then | apply HC.seq | apply HC.region | refine HL.pa ?_ | refine HL.ga rfl ?_ | refine HL.na rfl ?_ | refine HL.nu rfl rfl ?_ | apply HC.block | apply HC.skip | apply HC.exit | apply HC.ret | apply HX.e_block | refine HX.e_other rfl ?_ | apply HX.e_then | apply HX.e_again | apply HX.n_block | apply HX.r_then | apply HX.r_block | apply HX.r_again | refine HC.cond_yes rfl ?_ | refine HC.cond_no rfl ?_ | refine HL.one (H1.ldb rfl memA rfl rfl ?_) | refine HC.cond rfl (fun hc => ?_) (fun hc => ?_) | refine HC.cond_b rfl (fun hc => ?_) (fun hc => ?_))
    exact hQq.get) : G := hwq ⟨x⟩
def rtV : Value := .agg #[.pointer (some ⟨7, 303, none⟩)]
theorem isTypeOf_e (v : Value) (w : World) : (callFunc 109 #[.iface 303 v]).run Tryz.prog w = .ok (.value (.iface 235 rtV)) w := by kernel_rfl
theorem isComparable_e (w : World) : (callFunc 246 #[rtV]).run Tryz.prog w = .ok (.value (.bool true)) w := by kernel_rfl
theorem isComp_e : (Tryz.prog.info? 303).map (·.comparable) = some true := by kernel_rfl
theorem isSize_e : (Tryz.prog.info? 325).map (·.size) = some 1 := by kernel_rfl
theorem isAssert_e (v : Value) (w : World) : (Instr.typeAssert (.iface 303 v) 20 111 true).run Tryz.prog w = .ok (.tuple #[.iface 303 v, .bool true]) w := run_typeAssert_hasB Tryz.underlying111 (by kernel_rfl) v 20 w
theorem isMeth_e (n : Nat) (v : Value) (w : World) : (Go.method (n + 1) 235 v "Comparable").run Tryz.prog w = .ok (246, v) w := by kernel_rfl
set_option maxRecDepth 100000 in
set_option maxHeartbeats 2000000 in
theorem is_same_c (a : Addr) (w : World) :
    Calls Tryz.prog 61 #[.iface 303 (.pointer (some a)), .iface 303 (.pointer (some a))] w fun e w' => e = .returned (.bool true) ∧ w' = w := by
  obtain ⟨i, hi, hcmp⟩ := Option.map_eq_some_iff.1 isComp_e
  obtain ⟨j, hj, hjs⟩ := Option.map_eq_some_iff.1 isSize_e
  have tT := isTypeOf_e
  have cT := isComparable_e
  have mR := isMeth_e
  have heq := run_eql_iface_ptr_same (P := Tryz.prog) w a Tryz.underlying111 Tryz.underlying303 hi hcmp hj
  go_enter Tryz.func61, Tryz.ntmps61
  go_wp2
  refine wp_loop_rounds 1 ?_
  rw [rounds_succ]
  go_wp2
  go_ret
  exact ⟨rfl, rfl⟩
/-- The error of a damaged disk. -/
def errV (a : Addr) : Value := .iface 303 (.pointer (some a))
theorem is_same_fn (a : Addr) (w : World) : Fn Tryz.prog 61 #[errV a, errV a] w fun v w' => v = .bool true ∧ w = w' := Calls.mono (is_same_c a w) fun e w2 h => ⟨_, h.1, rfl, h.2.symm⟩
def ErrG (a : Addr) (w : World) : Prop := w.cell? ⟨2, 0, none⟩ = some (errV a)
theorem ErrG.ext {a : Addr} {w w' : World} (h : ErrG a w) (k : Ext w w') : ErrG a w' := cell_ext k h
def errP (a : Addr) : List PanicEntry := [{ v := errV a, recovered := false }]
def errQ (a : Addr) : List PanicEntry := [{ v := errV a, recovered := true }]
theorem Rep.cons' {N : Nat} {ds : List Deferred} {E : Env} {a : Act} (h : Rep N ds E a) {k : Nat} {v : Value} (hk : a.tmps[k]? = some v) : Rep N ds ((k, v) :: E) a := by
  refine ⟨h.size, h.defers, fun t u ht => ?_⟩
  simp only [Env.g] at ht
  by_cases e : k = t
  · subst e
    rw [beq_same, cond_true] at ht
    rw [hk]; exact ht
  · rw [beq_ne e, cond_false] at ht
    exact h.get t u ht
attribute [local irreducible] WC WL WX POp Then Again Fn NX W1 WA WO QL RP RA Yld LoopAt HC HL HX HN H1 HA HO HQ HB HP A.blk A.grow A.rd A.obj A.mp AgainH CutH
theorem check_fn {w0 w : World} {H : List Atom} {a : Addr} (b : Bool) (hM : Mm w0 H w) (hE : ErrG a w0) :
    Calls Tryz.prog 194 #[.bool b] w (EndP (fun _ : Unit => b = true) (fun _ => .tuple #[]) (fun _ => H) (fun _ : Unit => b = false) (errP a) (fun _ => H) w0) := by
  refine enterE (l := [_]) hM rfl Tryz.ntmps194 rfl ?_
  cases b
  · refine hwJA ?_
    refine HL.one (H1.ld0 rfl hE rfl ?_)
    refine hwJA ?_
    refine HL.one (H1.panic rfl ?_)
    exact HX.panE fun w' hM => .inr ⟨(), rfl, rfl, hM⟩
  · refine hwJA ?_
    exact HX.end0E rfl fun w' hM => .inl ⟨(), rfl, rfl, hM⟩
theorem Rep.nil' {N : Nat} {a : Act} (h : a.tmps.size = N) (hd : a.defers = []) : Rep N [] [] a := ⟨h, hd, fun t v h => by simp [Env.g] at h⟩
set_option maxHeartbeats 1000000 in
theorem recover_no {w : World} (b4 b5 : Nat) : DFn Tryz.prog 158 #[.pointer (some ⟨b4, 0, none⟩), .pointer (some ⟨b5, 0, none⟩)] .returning .returning w (fun w' => Ext w w') := by
  refine callsDIn_of_wpSIn Tryz.func158 rfl trivial fun c₀ cs hu => ?_
  apply wpSIn_seq
  apply wpSIn_region
  have hrec : recoverD (c₀ :: cs) = none := by simp [recoverD, hu]
  have hta : ∀ w, (Instr.typeAssert .nilIface 20 111 true).run Tryz.prog w = .ok (.tuple #[.nilIface, .bool false]) w := fun _ => by kernel_rfl
  simp [wpOpsSIn, go_sem, hrec, hta, Tryz.ntmps158, Exit.thenS, Region.wanted]
  have hc : c₀ = { c₀ with mode := .returning } := frame_same hu
  rw [hc]
  refine wpS_of_HC (N := 15) (E := [(3, .bool false)]) (Mm.refl w) (Rep.cons' (Rep.nil' (by simp) rfl) (by rfl)) ?_
  refine hwJA ?_
  exact HX.endS rfl fun w' hM => ⟨rfl, rfl, hM.ext⟩
set_option maxHeartbeats 1000000 in
theorem recover_yes {w0 w : World} {H : List Atom} {v4 v5 : Value} {a : Addr} (b4 b5 : Nat) (hE : ErrG a w0) (hM : Mm w0 (A.blk b4 [v4] 82 :: A.blk b5 [v5] 28 :: H) w) :
    DFn Tryz.prog 158 #[.pointer (some ⟨b4, 0, none⟩), .pointer (some ⟨b5, 0, none⟩)] (.panicking (errP a)) (.panicking (errQ a)) w (fun w' => Mm w0 (A.blk b4 [.pointer none] 82 :: A.blk b5 [zv 262] 28 :: H) w') := by
  refine callsDIn_of_wpSIn Tryz.func158 rfl trivial fun c₀ cs hu => ?_
  apply wpSIn_seq
  apply wpSIn_region
  have hrec : recoverD (c₀ :: cs) = some (errV a, { c₀ with mode := .panicking (errQ a) } :: cs) := by simp [recoverD, hu, errP, errQ]
  have hta : ∀ w, (Instr.typeAssert (errV a) 20 111 true).run Tryz.prog w = .ok (.tuple #[errV a, .bool true]) w := fun w => isAssert_e _ w
  simp [wpOpsSIn, go_sem, hrec, hta, Tryz.ntmps158, Exit.thenS, Region.wanted]
  refine wpS_of_HC (N := 15) (E := [(0, .pointer (some ⟨b4, 0, none⟩)), (1, .pointer (some ⟨b5, 0, none⟩)), (2, errV a), (3, .bool true)]) hM (Rep.cons' (Rep.cons' (Rep.cons' (Rep.cons' (Rep.nil' (by simp) rfl) (by simp)) (by simp)) (by simp)) (by simp)) ?_
  refine hwJA ?_
  refine HL.one (H1.ld0 rfl hE rfl ?_)
  refine hwJA ?_
  refine HL.one (H1.call0 (u := .bool true) (vs := [errV a, errV a]) rfl rfl (fun w' hM => is_same_fn a w') ?_)
  refine hwJA ?_
  refine HL.one (H1.st rfl rfl (by intro _ h; cases h) (by intro _ h; cases h) rplA (by exact Nat.zero_lt_one) ?_)
  refine hwJA ?_
  refine HL.one (H1.st rfl rfl (by intro _ h; cases h) (by intro _ h; cases h) rplA (by exact Nat.zero_lt_one) ?_)
  refine hwJA ?_
  exact HX.endS rfl fun w' hM => ⟨rfl, rfl, hM⟩
end Go.Sx


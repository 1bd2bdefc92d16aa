/- Chapter 20: strings.Builder inside of the writer; put. -/
import Derived.Test.YtionfblneloaiaaGreatDoorDW
import Derived.Test.YtionfblneloaiaaGreatDoorMX
import Derived.Test.YtionfblneloaiaaGreatDoorDB
import Derived.Lib.FrozenHead
import Derived.Laws.Externs
namespace Go.Sx
open Go Go.Proofs Go.RowKit
theorem hwXJ {G G2 : Prop} (x : G2) (hwq : Hold G2 → G := by
    intro hQq
    repeat' (first | apply HL.fold | apply HA.fold | apply HL.nil | apply HX.n_then | apply HC.seq | apply HC.region | refine HL.pa ?_ | refine HL.ga rfl ?_ | refine HL.na rfl ?_ | refine HL.nu rfl rfl ?_ | apply HC.block | apply HC.skip | apply HC.exit | apply HC.ret | apply HX.e_block | refine HX.e_other rfl ?_ | apply HX.e_then | apply HX.e_again | apply HX.n_block | apply HX.r_then | apply HX.r_block | apply HX.r_again | refine HC.cond_yes rfl ?_ | refine HC.cond_no rfl ?_ | refine HL.one (H1.ldb rfl memA rfl rfl ?_) | refine HC.cond rfl (fun hc => ?_) (fun hc => ?_) | refine HC.cond_b rfl (fun hc => ?_) (fun hc => ?_))
    exact hQq.get) : G := hwq ⟨x⟩
section
variable {P : Program} {r : Option Nat} {N : Nat} {ds : List Deferred} {Q : Post} {E : Env} {w0 : World} {H : List Atom} {next : Act → World → Prop} {g : Option (Nat × Bool)}
variable {d : Nat} {t t' ty e : TypeId} {pos : String} {af : Array Edge} {x y : Operand}
theorem POp.pneq {a : Addr} {z : Value} {n bb : Nat} [h : UTy P t (.pointer e)] [hi : ITy P e z n bb] (hx : Env.ev E x = some (.pointer (some a))) (hy : Env.ev E y = some (.pointer (some a))) : POp P N ds E (.binOp .neq t x y t') ty (.bool false) :=
  POp.bin hx hy (fun w => by rw [eqGuard_at_pointer]; rfl) fun w => by
    obtain ⟨i, hi1, -⟩ := hi.parts
    exact Lib.run_neq_ptr_same w a h.is hi1
theorem H1.toUnsafe {src dst u eb : TypeId} {b n bb : Nat} {cs : List Value} {z : Value} [h1 : UTy P src (.pointer u)] [h2 : UTy P dst .unsafePointer] [h3 : ITy P u z n bb] (hx : Env.ev E x = some (.pointer (some ⟨b, 0, none⟩))) (hm : A.blk b cs eb ∈ H)
    (hn : Nat.beq n 0 = false) (hc : 0 < cs.length) (hd : Nat.blt d N = true) (h : HN N ds next ((d, .pointer (some ⟨b, 0, none⟩)) :: E) w0 H) : H1 P r N ds next ⟨some d, .convert src dst x, ty, pos, af, g⟩ Q E w0 H := fun w hM =>
  W1.run (fun a ha => by
    obtain ⟨i, hi1, -, hi3, -⟩ := h3.parts
    have hb : w.heap[b]? = some (.cells cs.toArray eb (0, 0)) := hM.blk hm
    have := Lib.run_to_unsafe w ⟨b, 0, none⟩ h1.is h2.is hi1 (by rw [hi3]; intro e; subst e; cases hn) (show w.shape? b = some (eb, cs.length) by simp [World.shape?, hb]) hc
    simp only [execOp, ha.ev hx, Sem.run_bind, this, Result.andThen, Sem.run_pure]) rfl hd (h w hM)
theorem H1.fromUnsafe {src dst u eb : TypeId} {b n bb : Nat} {cs : List Value} {z : Value} [h1 : UTy P src .unsafePointer] [h2 : UTy P dst (.pointer u)] [h3 : ITy P u z n bb] (hx : Env.ev E x = some (.pointer (some ⟨b, 0, none⟩))) (hm : A.blk b cs eb ∈ H)
    (hl : liesAt P P.depth eb (cs.length / P.cellsOf eb) 0 u 1 = true) (hd : Nat.blt d N = true) (h : HN N ds next ((d, .pointer (some ⟨b, 0, none⟩)) :: E) w0 H) : H1 P r N ds next ⟨some d, .convert src dst x, ty, pos, af, g⟩ Q E w0 H := fun w hM =>
  W1.run (fun a ha => by
    obtain ⟨i, hi1, -, hi3, -⟩ := h3.parts
    have hb : w.heap[b]? = some (.cells cs.toArray eb (0, 0)) := hM.blk hm
    have := Lib.run_from_unsafe w ⟨b, 0, none⟩ h1.is h2.is hi1 (show w.shape? b = some (eb, cs.length) by simp [World.shape?, hb]) hl
    simp only [execOp, ha.ev hx, Sem.run_bind, this, Result.andThen, Sem.run_pure]) rfl hd (h w hM)
theorem H1.noEscape {f : FuncId} {fn : Func} {v : Value} {ats : Array TypeId} (hf : P.funcs[f]? = some fn) (hname : (fn.name == "runtime.NumGoroutine") = false) (hb : fn.body.isNone = true) (hn : Extern.findNext fn = none) (he : Extern.find fn = some Extern.AbiNoEscape.same)
    (hx : Env.ev E x = some v) (hd : Nat.blt d N = true) (h : HN N ds next ((d, v) :: E) w0 H) : H1 P r N ds next ⟨some d, .call ⟨.value (.func f), #[x], ats⟩, ty, pos, af, g⟩ Q E w0 H := fun w hM =>
  W1.run (fun a ha => by
    have h1 := run_callFunc_extern hf hname hb hn he #[v] w
    rw [Lib.run_noEscape] at h1
    have h2 := ha.ev hx
    show ((resolve a.eval ⟨.value (.func f), #[x], ats⟩ ty) >>= fun df => invoke df.target df.args).run P w = _
    simp only [resolve, List.map_toArray, List.map_cons, List.map_nil, h2]
    exact h1) rfl hd (h w hM)
theorem run_append_str2 {w : World} {u : TypeId} (i : TypeInfo) (ht : P.underlying t = some (.slice e)) (hu : P.underlying u = some .string) (hi : P.info? e = some i) (hz : i.zero = some (.int .u8 0)) (hsize : i.size = 1) (hby : i.bytes = 1)
    (v : Value) (n : Nat) (xs : List Value) (hown : w.ownsRow 0 e 1 v n xs) (s : ByteArray) (h6 : n + s.size ≤ 1000000) :
    ∃ a' c' w', (Builtin.append_ #[t, u] ty #[v, .string s]).run P w = .ok (.slice a' (n + s.size) c') w' ∧ w'.ownsRow 0 e 1 (.slice a' (n + s.size) c') (n + s.size) (xs ++ Lib.strCells s) ∧ w.grownBy w' v.ownBlock ∧
      (∀ b, (Value.slice a' (n + s.size) c').ownBlock = some b → v.ownBlock = some b ∨ w.heap.size ≤ b) := by
  have h63 : n + s.size ≤ maxLen := by simp only [maxLen]; omega
  have h48 : n + s.size ≤ 140737488355328 := by omega
  obtain ⟨v', w', hr, h2, h3, -⟩ := Lib.run_append_own_string (P := P) (w := w) 0 t u ty e i ht hu hi hz hsize hby v n xs hown s h63 h48 (Nat.zero_le _)
  have hnew : ∀ b, v'.ownBlock = some b → v.ownBlock = some b ∨ w.heap.size ≤ b := by
    intro b hb
    rcases hown.2 with ⟨rfl, rfl⟩ | ⟨g, cap, cur, rfl, hbg, hg, hnc, hcm, hcs, htake⟩
    · have hx : xs = [] := List.eq_nil_of_length_eq_zero (by simpa using hown.1)
      subst hx
      obtain ⟨v'', w'', hr', h2', -, -⟩ := Lib.run_append_own_string (P := P) (w := w) w.heap.size t u ty e i ht hu hi hz hsize hby _ 0 [] (World.ownsRow_nil w w.heap.size e 1) s h63 h48 (Nat.le_refl _)
      rw [hr] at hr'
      cases hr'
      exact .inr (h2'.lt b hb).1
    · by_cases hroom : n + s.size ≤ cap
      · have hr' := Lib.run_append_room_string (P := P) (w := w) t u ty e i ht hu hi hsize g n cap cur hg s hroom (by omega)
        rw [hr] at hr'
        cases hr'
        exact .inl hb
      · have holds : ∀ j u, xs[j]? = some u → w.cell? ((⟨g, 0, none⟩ : Addr).add j) = some u := hown.cells (g := g) rfl
        have hr' := Lib.run_append_grow_string (P := P) (w := w) t u ty e i (.int .u8 0) ht hu hi hz ⟨g, 0, none⟩ n cap xs (by rw [hown.1, hsize]) holds s (by omega) (by omega) (growslice_fits (by omega) (by rw [hby]; omega))
        rw [hr] at hr'
        cases hr'
        right
        simp only [Value.ownBlock, Option.some.injEq] at hb
        subst hb
        simp
  rcases h2.2 with ⟨rfl, h0⟩ | ⟨g, cap, cur, rfl, hbg, hg, hnc, hcm, hcs, htake⟩
  · refine ⟨none, 0, w', ?_, ?_, h3, ?_⟩ <;> rw [h0]
    · exact hr
    · rwa [h0] at h2
    · exact hnew
  · exact ⟨_, cap, w', hr, h2, h3, hnew⟩
theorem ub_str (ys : List UInt8) (s : ByteArray) : ub ys ++ Lib.strCells s = ub (ys ++ s.data.toList) := by
  unfold ub
  rw [List.map_append]; rfl
theorem str_len (ys : List UInt8) (s : ByteArray) : (ys ++ s.data.toList).length = ys.length + s.size := by
  rw [List.length_append, Array.length_toList]; rfl
/-- append of a string, onto a slice of the call's own. -/
theorem H1.appS {u : TypeId} {c : Nat} {a : Option Addr} {ys : List UInt8} {s : ByteArray} {H' : Option Addr → Nat → List Atom} [h : UTy P t (.slice e)] [h2 : UTy P u .string] [hi : ITy P e (.int .u8 0) 1 1]
    (hx : Env.ev E x = some (.slice a ys.length c)) (hy : Env.ev E y = some (.string s)) (hr : ∀ a' c', Rpl (A.grow e 1 a c ys.length (ub ys)) (A.grow e 1 a' c' (ys ++ s.data.toList).length (ub (ys ++ s.data.toList))) H (H' a' c'))
    (hnm : ys.length + s.size ≤ 1000000) (hd : Nat.blt d N = true)
    (hn : ∀ a' c', HN N ds next ((d, .slice a' (ys ++ s.data.toList).length c') :: E) w0 (H' a' c')) :
    H1 P r N ds next ⟨some d, .call ⟨.builtin .append, #[x, y], #[t, u]⟩, ty, pos, af, g⟩ Q E w0 H := fun w hM => by
  obtain ⟨i, hi1, hi2, hi3, hi4⟩ := hi.parts
  obtain ⟨a', c', w', hrun, h3, h4, h5⟩ := run_append_str2 (P := P) (ty := ty) (w := w) i h.is h2.is hi1 hi2 hi3 hi4 (.slice a ys.length c) ys.length (ub ys) (hM.own (hr none 0).mem) s hnm
  rw [ub_str, ← str_len] at h3
  rw [← str_len] at hrun h5
  refine W1.run (v := .slice a' (ys ++ s.data.toList).length c') (w' := w') (fun b ha => ?_) rfl hd (hn a' c' w' (hM.turn (hr a' c') h4.os h4.tape h4.output h4.size (fun k hk hk' => h4.block k hk fun e => hk' (by simp [A.grow, ← e])) h3 ?_ fun b hb => ?_))
  · simp only [execOp, resolve, invoke, Go.builtin, Sem.run_bind, Sem.run_pure, Result.andThen, List.map_toArray, List.map_cons, List.map_nil, ha.ev hx, ha.ev hy, hrun]
  · show (Option.toList _).Nodup
    cases (Value.slice a' (ys ++ s.data.toList).length c').ownBlock <;> simp
  · have hb' : (Value.slice a' (ys ++ s.data.toList).length c').ownBlock = some b := by simpa [A.grow] using hb
    rcases h5 b hb' with h6 | h6
    · left; simp only [A.grow, h6]; simp
    · exact .inr ⟨h6, (h3.lt b hb').2⟩
theorem POp.sliceData {b n c : Nat} {ats : Array TypeId} (hx : Env.ev E x = some (.slice (some ⟨b, 0, none⟩) n c)) (hc : c ≠ 0) : POp P N ds E (.call ⟨.builtin .unsafeSliceData, #[x], ats⟩) ty (.pointer (some ⟨b, 0, none⟩)) := fun a ha d pos af g w => by
  have h1 : (Builtin.unsafeSliceData_ ats ty #[.slice (some ⟨b, 0, none⟩) n c]).run P w = .ok (.pointer (some ⟨b, 0, none⟩)) w := Lib.run_unsafeSliceData_row _ _ _ _ _ _ hc
  simp only [execOp, resolve, invoke, Go.builtin, Sem.run_bind, Sem.run_pure, Result.andThen, List.map_toArray, List.map_cons, List.map_nil, ha.ev hx, h1]
theorem POp.sliceDataN {ty : TypeId} {x : Operand} {n c : Nat} {ats : Array TypeId} (hx : Env.ev E x = some (.slice none n c)) : POp P N ds E (.call ⟨.builtin .unsafeSliceData, #[x], ats⟩) ty (.pointer none) := fun a ha d pos af g w => by
  have h1 : (Builtin.unsafeSliceData_ ats ty #[.slice none n c]).run P w = .ok (.pointer none) w := Lib.run_unsafeSliceData_nil ..
  simp only [execOp, resolve, invoke, Go.builtin, Sem.run_bind, Sem.run_pure, Result.andThen, List.map_toArray, List.map_cons, List.map_nil, ha.ev hx, h1]
theorem POp.unsafeStr0 {ty pt it : TypeId} {x y : Operand} {p : Option Addr} (hx : Env.ev E x = some (.pointer p)) (hy : Env.ev E y = some (zv 0)) : POp P N ds E (.call ⟨.builtin .unsafeString, #[x, y], #[pt, it]⟩) ty (.string (ByteArray.mk #[])) := fun a ha d pos af g w => by
  have h1 : (Builtin.unsafeString_ #[pt, it] ty #[.pointer p, .int .i64 0]).run P w = .ok (.string .empty) w := Lib.run_unsafeString_none ..
  simp only [execOp, resolve, invoke, Go.builtin, Sem.run_bind, Sem.run_pure, Result.andThen, List.map_toArray, List.map_cons, List.map_nil, ha.ev hx, ha.ev hy, h1]
  rfl
theorem HC.capOfG {co : Code} {n c : Nat} {a : Option Addr} {xs : List Value} (hm : A.grow e 1 a c n xs ∈ H) (h : n ≤ c → HC P r N ds co Q E w0 H) : HC P r N ds co Q E w0 H := fun w hM => by
  refine h ?_ w hM
  rcases (hM.own hm).2 with ⟨h1, rfl⟩ | ⟨g, cap, cur, hv, -, -, hnc, -⟩
  · exact Nat.zero_le _
  · cases hv; exact hnc
theorem H1.unsafeStr {pt it : TypeId} {b c : Nat} {ys : List UInt8} {H' : List Atom} [hp : UTy P pt (.pointer e)] (hc : P.cellsOf e = 1) (hx : Env.ev E x = some (.pointer (some ⟨b, 0, none⟩))) (hy : Env.ev E y = some (zv (ys.length : Int))) (h0 : ys ≠ [])
    (hm : Pick (A.grow e 1 (some ⟨b, 0, none⟩) c ys.length (ub ys)) H H') (hd : Nat.blt d N = true) (hn : HN N ds next ((d, .string ⟨ys.toArray⟩) :: E) w0 H') :
    H1 P r N ds next ⟨some d, .call ⟨.builtin .unsafeString, #[x, y], #[pt, it]⟩, ty, pos, af, g⟩ Q E w0 H := fun w hM => by
  have hM2 := hM.perm hm.perm
  have hown := hM2.own (List.Mem.head _)
  obtain ⟨g', cap, cur, hv, -, hg, hnc, hcm, hcs, htake⟩ : ∃ g' cap cur, (Value.slice (some ⟨b, 0, none⟩) ys.length c) = .slice (some ⟨g', 0, none⟩) ys.length cap ∧ 0 ≤ g' ∧ w.heap[g']? = some (.cells cur e (0, 0)) ∧ ys.length ≤ cap ∧ cap ≤ maxLen ∧ cur.size = cap * 1 ∧ cur.toList.take (ys.length * 1) = ub ys := by
    rcases hown.2 with ⟨hv, -⟩ | h
    · cases hv
    · exact h
  cases hv
  have hrun := Lib.run_unsafeString_row (P := P) w pt it ty e hp.is hc b cur.size (by simp [World.shape?, hg]) ys h0 (by omega) (by simp only [maxLen] at hcm; omega) (fun j x hx => by
    rw [add_lit, Nat.zero_add]
    exact ownsRow_cell hown (by simp [ub, hx]))
  refine W1.run (v := .string ⟨ys.toArray⟩) (w' := w.freeze ⟨b, 0, none⟩ ys.length) (fun a ha => ?_) rfl hd (hn _ (hM2.drop1 (l := b) rfl ?_))
  · simp only [execOp, resolve, invoke, Go.builtin, Sem.run_bind, Sem.run_pure, Result.andThen, List.map_toArray, List.map_cons, List.map_nil, ha.ev hx, ha.ev hy, hrun]
  · unfold World.freeze
    by_cases hz : ys.length = 0
    · rw [if_pos hz]; exact ⟨rfl, rfl, rfl, rfl, fun _ _ => rfl⟩
    · rw [if_neg hz]
      refine ⟨rfl, rfl, rfl, by simp, fun k hk => ?_⟩
      simp only [Array.getElem?_modify]
      rw [if_neg (fun e => hk e.symm)]
end
def putL (l : List Int) : List UInt8 := (l.map fun n => putN n.toNat).flatten
abbrev bldH (b : Nat) (p : Option Addr) (a : Option Addr) (c : Nat) (ys : List UInt8) (H : List Atom) : List Atom := A.blk b [.pointer p, .slice a ys.length c] 205 :: A.grow 5 1 a c ys.length (ub ys) :: H
attribute [local irreducible] WC WL WX POp Then Again Fn NX W1 WA WO QL RP RA Yld LoopAt HC HL HX HN H1 HA HO HQ HB HP A.blk A.grow A.rd A.obj A.mp AgainH CutH
theorem copyCheck_fn {w0 w : World} {H : List Atom} {b : Nat} {p : Option Addr} {s : Value} (hM : Mm w0 (A.blk b [.pointer p, s] 205 :: H) w) (hp : p = none ∨ p = some ⟨b, 0, none⟩) :
    Fn Tryz.prog 170 #[.pointer (some ⟨b, 0, none⟩)] w fun v w' => v = .tuple #[] ∧ Mm w0 (A.blk b [.pointer (some ⟨b, 0, none⟩), s] 205 :: H) w' := by
  refine enterK (l := [_]) hM rfl Tryz.ntmps170 rfl ?_
  rcases hp with rfl | rfl
  · refine hwXJ ?_
    refine HL.pa ?_ (POp.nilCheck rfl)
    refine hwXJ ?_
    refine HL.pa ?_ (POp.pnil1 rfl rfl)
    refine hwXJ ?_
    refine HL.one (H1.toUnsafe (cs := [.pointer none, s]) rfl memA rfl (Nat.zero_lt_succ 1) rfl ?_)
    refine hwXJ ?_
    refine HL.one (H1.noEscape Tryz.func204 (by kernel_rfl) (by kernel_rfl) (by kernel_rfl) (by kernel_rfl) rfl rfl ?_)
    refine hwXJ ?_
    refine HL.one (H1.fromUnsafe (cs := [.pointer none, s]) rfl memA (by kernel_rfl) rfl ?_)
    refine hwXJ ?_
    refine HL.pa ?_ (POp.nilCheck rfl)
    refine hwXJ ?_
    refine HL.one (H1.st rfl rfl (by intro _ h; cases h) (by intro _ h; cases h) rplA (by simp) ?_)
    refine hwXJ ?_
    exact HX.end0 rfl fun w' hM => ⟨rfl, hM⟩
  · refine hwXJ ?_
    refine HL.pa ?_ (POp.nilCheck rfl)
    refine hwXJ ?_
    refine HL.pa ?_ (POp.pnil0 rfl rfl)
    refine hwXJ ?_
    refine HL.pa ?_ (POp.nilCheck rfl)
    refine hwXJ ?_
    refine HL.pa ?_ (POp.pneq rfl rfl)
    refine hwXJ ?_
    exact HX.end0 rfl fun w' hM => ⟨rfl, hM⟩
theorem writeString_fn {w0 w : World} {H : List Atom} {b c : Nat} {p a : Option Addr} {ys : List UInt8} (s : ByteArray) (hM : Mm w0 (bldH b p a c ys H) w) (hp : p = none ∨ p = some ⟨b, 0, none⟩) (hs : ys.length + s.size ≤ 1000000) :
    Fn Tryz.prog 132 #[.pointer (some ⟨b, 0, none⟩), .string s] w fun v w' => ∃ q : Option Addr × Nat, True ∧ v = .tuple #[zv (s.size : Int), .nilIface] ∧ Mm w0 (bldH b (some ⟨b, 0, none⟩) q.1 q.2 (ys ++ s.data.toList) H) w' := by
  refine enterK (l := [_, _]) hM rfl Tryz.ntmps132 rfl ?_
  refine hwXJ ?_
  refine HL.one (H1.callk (α := Unit) (V := fun _ => .tuple #[]) (I := fun _ => True) (H' := fun _ => bldH b (some ⟨b, 0, none⟩) a c ys H) (vs := [.pointer (some ⟨b, 0, none⟩)]) rfl rfl (fun w' hM => (copyCheck_fn hM hp).mono fun v w' h => ⟨(), trivial, h⟩) ?_)
  rintro - -
  refine hwXJ ?_
  refine HL.pa ?_ (POp.nilCheck rfl)
  refine hwXJ ?_
  refine HL.one (H1.appS rfl rfl (fun _ _ => by first | ((repeat (first | with_reducible exact Rpl.here | with_reducible apply Rpl.there)); done) | (repeat (first | exact Rpl.here | apply Rpl.there))) hs rfl (fun a' c' => ?_))
  refine hwXJ ?_
  refine HL.pa ?_ (POp.nilCheck rfl)
  refine hwXJ ?_
  refine HL.one (H1.st rfl rfl (by intro _ h; cases h) (by intro _ h; cases h) rplA (by simp) ?_)
  refine hwXJ ?_
  exact HX.ret2 rfl rfl rfl fun w' hM => ⟨(a', c'), trivial, rfl, hM⟩
set_option maxHeartbeats 1000000 in
theorem builderString_fn {w0 w : World} {H : List Atom} {b c : Nat} {p a : Option Addr} {ys : List UInt8} (hM : Mm w0 (bldH b p a c ys H) w) (h0 : ys ≠ []) :
    Fn Tryz.prog 134 #[.pointer (some ⟨b, 0, none⟩)] w fun v w' => v = .string ⟨ys.toArray⟩ ∧ Mm w0 H w' := by
  have hne : ys.length ≠ 0 := by simpa using h0
  refine enterK (l := [_]) hM rfl Tryz.ntmps134 rfl ?_
  refine HC.openg (e := 5) (a := a) (xs := ub ys) memA hne ?_
  rintro g rfl
  refine hwXJ ?_
  refine HC.capOfG (e := 5) (xs := ub ys) memA fun hcap => ?_
  have hc0 : c ≠ 0 := by omega
  refine HC.anyC ([(⟨b, 1, none⟩, .slice (some ⟨g, 0, none⟩) ys.length c)]) rfl ?_
  refine HB.pa 0 rfl ?_
  refine HB.pa 1 rfl ?_ (POp.nilCheck rfl)
  refine HB.pa 2 rfl ?_
  refine HB.ld 3 rfl rfl memD ?_
  refine HB.pa 4 rfl ?_ (POp.sliceData rfl hc0)
  refine HB.pa 5 rfl ?_
  refine HB.pa 6 rfl ?_ (POp.nilCheck rfl)
  refine HB.pa 7 rfl ?_
  refine HB.ld 8 rfl rfl memD ?_
  refine HB.pa 9 rfl ?_
  refine HB.all (by repeat (first | exact Keep.nil | refine Keep.blk (by (repeat (first | exact List.Mem.head _ | apply List.Mem.tail)); done) rfl ?_ | refine Keep.grow (by (repeat (first | exact List.Mem.head _ | apply List.Mem.tail)); done) (by assumption) ?_ | refine Keep.base (by assumption) ?_)) [10] (by kernel_rfl) rfl ⟨⟨_, rfl, ?_⟩, trivial⟩
  refine HP.one ?_
  refine H1.unsafeStr (b := g) (c := c) (ys := ys) (by kernel_rfl) rfl rfl h0 (Pick.there Pick.here) rfl ?_
  apply HB.fold
  refine HB.pa 11 rfl ?_
  refine HB.done (by repeat (first | exact Keep.nil | refine Keep.blk (by (repeat (first | exact List.Mem.head _ | apply List.Mem.tail)); done) rfl ?_ | refine Keep.grow (by (repeat (first | exact List.Mem.head _ | apply List.Mem.tail)); done) (by assumption) ?_ | refine Keep.base (by assumption) ?_)) (by kernel_rfl) ?_
  refine hwXJ ?_
  exact HX.ret1 rfl rfl fun w' hM => ⟨rfl, hM.tail⟩
/-- Nothing was written. -/
theorem builderString_nil {w0 w : World} {H : List Atom} {b : Nat} {p : Option Addr} (hM : Mm w0 (bldH b p none 0 [] H) w) :
    Fn Tryz.prog 134 #[.pointer (some ⟨b, 0, none⟩)] w fun v w' => v = .string (ByteArray.mk #[]) ∧ Mm w0 H w' := by
  refine enterK (l := [_]) hM rfl Tryz.ntmps134 rfl ?_
  refine hwXJ ?_
  refine HC.anyC ([(⟨b, 1, none⟩, .slice none 0 0)]) rfl ?_
  refine HB.pa 0 rfl ?_
  refine HB.pa 1 rfl ?_ (POp.nilCheck rfl)
  refine HB.pa 2 rfl ?_
  refine HB.ld 3 rfl rfl memD ?_
  refine HB.pa 4 rfl ?_ (POp.sliceDataN rfl)
  refine HB.pa 5 rfl ?_
  refine HB.pa 6 rfl ?_ (POp.nilCheck rfl)
  refine HB.pa 7 rfl ?_
  refine HB.ld 8 rfl rfl memD ?_
  refine HB.pa 9 rfl ?_
  refine HB.pa 10 rfl ?_ (POp.unsafeStr0 rfl rfl)
  refine HB.pa 11 rfl ?_
  refine HB.done (by repeat (first | exact Keep.nil | refine Keep.blk (by (repeat (first | exact List.Mem.head _ | apply List.Mem.tail)); done) rfl ?_ | refine Keep.grow (by (repeat (first | exact List.Mem.head _ | apply List.Mem.tail)); done) (by assumption) ?_ | refine Keep.base (by assumption) ?_)) (by kernel_rfl) ?_
  refine hwXJ ?_
  exact HX.ret1 rfl rfl fun w' hM => ⟨rfl, hM.tail.tail⟩
end Go.Sx


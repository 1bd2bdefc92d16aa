/-
  The layer's laws for strings, slices that are made or grown, structs.
-/
import Derived.Test.YtlihcenahjgnmaaGreatDoorSxReg
import Derived.Laws.IdiomStrings
import Derived.Laws.Small
import Derived.WideShapes
namespace Go.Sx
open Go Go.RowKit

/-- Byte i of a string. -/
def sb (s : ByteArray) (i : Nat) : Nat := (s.data.toList.getD i 0).toNat
theorem sb_lt (s : ByteArray) (i : Nat) : sb s i < 256 := (s.data.toList.getD i 0).toNat_lt
theorem ba_toList (s : ByteArray) : s.toList = s.data.toList := by
  exact Go.ByteArray.toList_eq s

section
variable {P : Program} {r : Option Nat} {N : Nat} {ds : List Deferred} {E : Env}
variable {t t' ty : TypeId} {x y : Operand} {k k' : IntKind} {m n : Int}

theorem POp.index_string {s : ByteArray} [h : UTy P t .string] (hx : Env.ev E x = some (.string s)) (hy : Env.ev E y = some (.int k n)) {i : Nat} (ei : n = (i : Int)) (h1 : i < s.size) :
    POp P N ds E (.index t x y) ty (.int .u8 ((sb s i : Nat) : Int)) := fun a ha d pos af g w => by
  obtain rfl : i = n.toNat := by omega
  have h0 : 0 ≤ n := by omega
  have hlt : n.toNat < s.size := h1
  have e : s[n.toNat]? = some s[n.toNat] := by simp [hlt]
  have e2 : sb s n.toNat = (s[n.toNat]).toNat := by
    unfold sb
    rw [List.getD_eq_getElem?_getD]
    have h5 : n.toNat < s.data.size := hlt
    have : s.data.toList[n.toNat]? = some s[n.toNat] := by
      rw [Array.getElem?_toList, Array.getElem?_eq_getElem h5]; rfl
    rw [this]; rfl
  simp [execOp, ha.ev hx, ha.ev hy, Instr.index, asIntOf, run_underlying h.is, Sem.run_bind, h0, e, e2]

theorem run_bound {k : IntKind} {i : Int} {y : Nat} {code : BoundsCode} {P : Program} {w : World} (h0 : 0 ≤ i) (h1 : i ≤ y) : (Instr.sliceBound (.int k i) y code).run P w = .ok i.toNat w := by
  simp [Instr.sliceBound, asIntOf, h0, h1]
theorem POp.sub_lh {s : ByteArray} {lo hi : Operand} [h : UTy P t .string] (hx : Env.ev E x = some (.string s)) (hl : Env.ev E lo = some (.int k m)) (hh : Env.ev E hi = some (.int k' n)) (h0 : 0 ≤ m) (h1 : m ≤ n) (h2 : n ≤ s.size) :
    POp P N ds E (.slice t x (some lo) (some hi) none) ty (.string (s.extract m.toNat n.toNat)) := fun a ha d pos af g w => by
  have hb : m ≤ ((n.toNat : Nat) : Int) := by omega
  simp [execOp, ha.ev hx, ha.ev hl, ha.ev hh, Instr.sliceAt, Instr.slice, run_underlying h.is, Instr.sliceBounds, run_bound (show 0 ≤ n by omega) h2, run_bound h0 hb, Sem.run_bind]
theorem POp.sub_h {s : ByteArray} {hi : Operand} [h : UTy P t .string] (hx : Env.ev E x = some (.string s)) (hh : Env.ev E hi = some (.int k' n)) (h1 : 0 ≤ n) (h2 : n ≤ s.size) :
    POp P N ds E (.slice t x none (some hi) none) ty (.string (s.extract 0 n.toNat)) := fun a ha d pos af g w => by
  simp [execOp, ha.ev hx, ha.ev hh, Instr.sliceAt, Instr.slice, run_underlying h.is, Instr.sliceBounds, run_bound h1 h2, Sem.run_bind]
theorem POp.sub_l {s : ByteArray} {lo : Operand} [h : UTy P t .string] (hx : Env.ev E x = some (.string s)) (hl : Env.ev E lo = some (.int k m)) (h1 : 0 ≤ m) (h2 : m ≤ s.size) :
    POp P N ds E (.slice t x (some lo) none none) ty (.string (s.extract m.toNat s.size)) := fun a ha d pos af g w => by
  simp [execOp, ha.ev hx, ha.ev hl, Instr.sliceAt, Instr.slice, run_underlying h.is, Instr.sliceBounds, run_bound h1 h2, Sem.run_bind]

theorem POp.cat {s u : ByteArray} (hx : Env.ev E x = some (.string s)) (hy : Env.ev E y = some (.string u)) (h : s.size + u.size ≤ 9223372036854775807) :
    POp P N ds E (.binOp .add t x y t') ty (.string (s ++ u)) := POp.bin hx hy guard_str fun w => by
  have : ¬ (((s.size + u.size : Nat) : Int) > IntKind.i64.max) := by
    simp only [IntKind.max, IntKind.signed, IntKind.bits]; omega
  simp only [Go.binOp, Op.stringOp]
  rw [if_neg this]; rfl
theorem str_eq (s u : ByteArray) : (s.toList == u.toList) = decide (s = u) := by
  rw [ba_toList, ba_toList]
  by_cases h : s = u
  · subst h; simp
  · have : ¬ s.data.toList = u.data.toList := fun e => h (by cases s; cases u; exact congrArg ByteArray.mk (Array.toList_inj.1 e))
    rw [decide_eq_false h]; exact beq_eq_false_iff_ne.2 this
theorem POp.seql {s u : ByteArray} (hx : Env.ev E x = some (.string s)) (hy : Env.ev E y = some (.string u)) :
    POp P N ds E (.binOp .eql t x y t') ty (.bool (decide (s = u))) := POp.bin hx hy guard_str fun w => by
  simp only [Go.binOp, Op.stringOp, str_eq]; rfl
theorem POp.sneq {s u : ByteArray} (hx : Env.ev E x = some (.string s)) (hy : Env.ev E y = some (.string u)) :
    POp P N ds E (.binOp .neq t x y t') ty (.bool (decide (¬ s = u))) := POp.bin hx hy guard_str fun w => by
  simp only [Go.binOp, Op.stringOp, str_eq]
  by_cases h : s = u <;> simp [h]
theorem POp.beql {b c : Bool} [h : UTy P t .bool] (hx : Env.ev E x = some (.bool b)) (hy : Env.ev E y = some (.bool c)) :
    POp P N ds E (.binOp .eql t x y t') ty (.bool (b == c)) := POp.bin hx hy guard_bool fun w => by
  exact run_eql_bool w t b c h.is
theorem POp.bneq {b c : Bool} [h : UTy P t .bool] (hx : Env.ev E x = some (.bool b)) (hy : Env.ev E y = some (.bool c)) :
    POp P N ds E (.binOp .neq t x y t') ty (.bool (!(b == c))) := POp.bin hx hy guard_bool fun w => by
  exact run_neq_bool w t b c h.is

/- slices of slices -/
theorem POp.cut_lh {e : TypeId} {b off l c : Nat} {z : Value} {sz bb : Nat} {lo hi : Operand} [h : UTy P t (.slice e)] [hi' : ITy P e z sz bb] (hx : Env.ev E x = some (.slice (some ⟨b, off, none⟩) l c))
    (hl : Env.ev E lo = some (.int k m)) (hh : Env.ev E hi = some (.int k' n)) (h0 : 0 ≤ m) (h1 : m ≤ n) (h2 : n ≤ c) (hne : m < c) :
    POp P N ds E (.slice t x (some lo) (some hi) none) ty (.slice (some ⟨b, off + m.toNat * sz, none⟩) (n.toNat - m.toNat) (c - m.toNat)) := fun a ha d pos af g w => by
  have hb : m ≤ ((n.toNat : Nat) : Int) := by omega
  have hc : ¬ c = m.toNat := by omega
  simp [execOp, ha.ev hx, ha.ev hl, ha.ev hh, Instr.sliceAt, Instr.slice, run_underlying h.is, Instr.sliceBounds, run_bound (show 0 ≤ n by omega) h2, run_bound h0 hb, Sem.run_bind, run_sizeOf, hc, add_lit]
theorem POp.cut_h {e : TypeId} {b off l c : Nat} {z : Value} {sz bb : Nat} {hi : Operand} [h : UTy P t (.slice e)] [hi' : ITy P e z sz bb] (hx : Env.ev E x = some (.slice (some ⟨b, off, none⟩) l c))
    (hh : Env.ev E hi = some (.int k' n)) (h1 : 0 ≤ n) (h2 : n ≤ c) :
    POp P N ds E (.slice t x none (some hi) none) ty (.slice (some ⟨b, off, none⟩) n.toNat c) := fun a ha d pos af g w => by
  by_cases hc : c = 0
  · subst hc
    simp [execOp, ha.ev hx, ha.ev hh, Instr.sliceAt, Instr.slice, run_underlying h.is, Instr.sliceBounds, run_bound h1 (show n ≤ ((0 : Nat) : Int) from h2), Sem.run_bind, run_sizeOf]
  · simp [execOp, ha.ev hx, ha.ev hh, Instr.sliceAt, Instr.slice, run_underlying h.is, Instr.sliceBounds, run_bound h1 h2, Sem.run_bind, run_sizeOf, hc, add_lit]

/- structs by value -/
theorem POp.fieldAddr {f off : Nat} {ft : TypeId} {b o n bb : Nat} {z : Value} [h : FTy P t f off ft] [hi : ITy P ft z n bb] (hn : Nat.beq n 0 = false) (hx : Env.ev E x = some (.pointer (some ⟨b, o, none⟩))) :
    POp P N ds E (.fieldAddr t x f) ty (.pointer (some ⟨b, o + off, none⟩)) := fun a ha d pos af g w => by
  have h1 := h.is
  have hn' : n ≠ 0 := fun e => by subst e; cases hn
  unfold fieldOf at h1
  cases hu : P.underlying t with
  | none => rw [hu] at h1; cases h1
  | some du =>
    rw [hu] at h1
    cases du with
    | struct fs =>
      simp only [Option.map_eq_some_iff] at h1
      obtain ⟨fl, h2, h3⟩ := h1
      simp only [Prod.mk.injEq] at h3
      obtain ⟨h3, h4⟩ := h3
      have hS : (sizeOf fl.type).run P w = .ok n w := by rw [h4]; exact run_sizeOf
      simp [execOp, ha.ev hx, Instr.fieldAt, Instr.sureAddr, run_underlying hu, h2, fieldPlace, hS, hn', h3, add_lit, Sem.run_bind]
    | _ => cases h1
theorem POp.field {f off : Nat} {ft : TypeId} {cs : List Value} {v : Value} [h : FTy P t f off ft] [ha' : ATy P ft false] (hx : Env.ev E x = some (.agg cs.toArray)) (hv : cs[off]? = some v) :
    POp P N ds E (.field t x f) ty v := fun a ha d pos af g w => by
  have h1 := h.is
  unfold fieldOf at h1
  cases hu : P.underlying t with
  | none => rw [hu] at h1; cases h1
  | some du =>
    rw [hu] at h1
    cases du with
    | struct fs =>
      simp only [Option.map_eq_some_iff] at h1
      obtain ⟨fl, h2, h3⟩ := h1
      simp only [Prod.mk.injEq] at h3
      obtain ⟨h3, h4⟩ := h3
      have hA : (isAgg fl.type).run P w = .ok false w := by rw [h4]; exact run_isAgg
      simp [execOp, ha.ev hx, Instr.field, run_underlying hu, h2, asAgg, part, hA, h3, hv, Sem.run_bind]
    | _ => cases h1
end

section
variable {P : Program} {r : Option Nat} {N : Nat} {ds : List Deferred} {ol rest : List Oper} {Q : Post} {E : Env} {w : World} {next : Act → World → Prop} {g : Option (Nat × Bool)}
variable {d : Nat} {t t' ty : TypeId} {pos : String} {af : Array Edge} {x y : Operand} {k k' : IntKind} {m n : Int}

/- make -/
theorem made_one (z : Value) (c : Nat) (hz : z.cells = #[z]) : madeCells z.cells (c * 1) = (List.replicate c z).toArray := by
  rw [hz]
  apply Array.ext
  · simp [madeCells]
  · intro i h1 h2
    simp [madeCells, Nat.mod_one]
theorem W1.make {e : TypeId} {z : Value} {bb : Nat} {cp : Operand} {l c : Nat} [h : UTy P t (.slice e)] [hi : ITy P e z 1 bb] (hx : Env.ev E x = some (.int .i64 m)) (hy : Env.ev E cp = some (.int .i64 n))
    (hm : m = (l : Int)) (hnn : n = (c : Int)) (hz : z.cells = #[z]) (hlc : l ≤ c) (hb : bb * c ≤ 281474976710656) (hc : c ≤ 9223372036854775807) (hd : Nat.blt d N = true)
    (hn : NX N ds next ((d, .slice (some ⟨w.heap.size, 0, none⟩) l c) :: E) (w.alloc (.cells (List.replicate c z).toArray e))) :
    W1 P r N ds next ⟨some d, .makeSlice t x cp, ty, pos, af, g⟩ Q E w :=
  W1.run (fun a ha => by
    subst hm; subst hnn
    obtain ⟨i, hi1, hi2, hi3, hi4⟩ := hi.parts
    have hb' : (i.bytes : Int) * (c : Int) ≤ 281474976710656 := by
      rw [hi4]
      have : ((bb * c : Nat) : Int) ≤ 281474976710656 := by omega
      rwa [Int.natCast_mul] at this
    have := run_make (P := P) w t e i z h.is hi1 hi2 .i64 .i64 (l : Int) (c : Int) (by omega) (by omega) hb' (by omega)
    simp only [Int.toNat_natCast, hi3, made_one z c hz] at this
    simp only [execOp, ha.ev hx, ha.ev hy, Sem.run_bind, this, Result.andThen, Sem.run_pure]) rfl hd hn

/- a literal of a slice, each element one cell, all written -/
theorem map_zip {α β γ : Type} (f : β → γ) : ∀ l : List (α × β), l.map (fun p => (p.1, f p.2)) = (l.map (·.1)).zip ((l.map (·.2)).map f)
  | [] => rfl
  | p :: l => by simp only [List.map_cons, List.zip_cons_cons]; rw [map_zip f l]
theorem W1.lit1 {e : TypeId} {z v : Value} {bb : Nat} [h : UTy P t (.slice e)] [hi : ITy P e z 1 bb] (hz : z.cells = #[z]) (hx : Env.ev E x = some v) (hv : v.cells = #[v]) (hd : Nat.blt d N = true)
    (hn : NX N ds next ((d, .slice (some ⟨w.heap.size, 0, none⟩) 1 1) :: E) (w.alloc (.cells #[v] e))) :
    W1 P r N ds next ⟨some d, .buildSlice t 1 #[(0, x)], ty, pos, af, g⟩ Q E w :=
  W1.run (fun a ha => by
    have hr : Array.range 1 = #[0] := rfl
    simp [execOp, ha.ev hx, Instr.buildSlice, run_underlying h.is, run_sizeOf, run_zeroValue, Sem.run_bind, Instr.fill, newRow, hv, hz, hr]) rfl hd hn

/- string(b) -/
theorem W1.bytes_string {dst e : TypeId} {a : Addr} {l : List UInt8} {len cap : Nat} [h : UTy P t (.slice e)] [he : UTy P e (.int .u8)] [hs : UTy P dst .string] (hx : Env.ev E x = some (.slice (some a) len cap)) (hl : len = l.length)
    (hc : ∀ j (hj : j < l.length), w.cell? (a.add j) = some (.int .u8 (l[j].toNat : Int))) (hd : Nat.blt d N = true)
    (hn : NX N ds next ((d, .string ⟨l.toArray⟩) :: E) w) : W1 P r N ds next ⟨some d, .convert t dst x, ty, pos, af, g⟩ Q E w :=
  W1.run (fun b hb => by
    subst hl
    simp only [execOp, hb.ev hx, Sem.run_bind, run_convert_bytes_back w t dst e a cap l h.is he.is hs.is hc, Result.andThen, Sem.run_pure]) rfl hd hn

/- append onto a slice of the call's own -/
theorem W1.append {base : Nat} {e : TypeId} {z : Value} {sz bb : Nat} {v : Value} {n : Nat} {xs : List Value} {ad : Addr} {m c : Nat} {news : List Value} [h : UTy P t (.slice e)] [hi : ITy P e z sz bb]
    (hzs : z.cells.size = sz) (hsz : 0 < sz) (hx : Env.ev E x = some v) (hown : w.ownsRow base e sz v n xs) (hy : Env.ev E y = some (.slice (some ad) m c)) (hl : news.length = m * sz)
    (hnews : ∀ j u, news[j]? = some u → w.cell? (ad.add j) = some u) (h1 : ∀ u ∈ news, u.oneCell' = true) (h63 : n + m ≤ maxLen) (hb : (n + m) * bb ≤ 140737488355328) (hbase : base ≤ w.heap.size) (hd : Nat.blt d N = true)
    (hn : ∀ v' w', w'.ownsRow base e sz v' (n + m) (xs ++ news) → w.grownBy w' v.ownBlock → NX N ds next ((d, v') :: E) w') :
    W1 P r N ds next ⟨some d, .call ⟨.builtin .append, #[x, y], #[t, t]⟩, ty, pos, af, g⟩ Q E w := by
  obtain ⟨i, hi1, hi2, hi3, hi4⟩ := hi.parts
  obtain ⟨v', w', hr, h2, h3, -⟩ := run_append_own (P := P) w base t ty e i z sz bb h.is hi1 hi2 hi3 hi4 hzs hsz v n xs hown ad m c news hl hnews h1 h63 hb hbase
  refine W1.run (v := v') (w' := w') (fun a ha => ?_) rfl hd (hn v' w' h2 h3)
  simp only [execOp, resolve, invoke, Go.builtin, Sem.run_bind, Sem.run_pure, Result.andThen, List.map_toArray, List.map_cons, List.map_nil, ha.ev hx, ha.ev hy, hr]
end
end Go.Sx


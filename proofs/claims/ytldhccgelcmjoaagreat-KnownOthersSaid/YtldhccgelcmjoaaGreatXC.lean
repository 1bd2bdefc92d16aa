/- Chapter 20: records as they lie in the memory; equality of records. -/
import Derived.Test.YtldhccgelcmjoaaGreatXB
import Derived.Test.YtldhccgelcmjoaaGreatHl
import Derived.Test.YtldhccgelcmjoaaGreatHw
import Derived.Test.YtldhccgelcmjoaaGreatTy2
import Derived.DeepKeys
namespace Go.Sx
open Go Go.Proofs
def rcells (r : Rc) : List Value := [zv r.kind, zv r.id, zv r.version, zv r.day, .bool r.gone, zv r.start, zv r.stop, zv r.pack, zv r.person, zv r.role, zv r.purpose, zv r.clause, .bool r.adm, zv r.party, .string r.text]
abbrev recV (r : Rc) : Value := .agg (rcells r).toArray
def i64W (x : Int) : Prop := -9223372036854775808 ≤ x ∧ x ≤ 9223372036854775807
theorem i64W.wf {x : Int} (h : i64W x) : (Lit.int .i64 x).wf = true := by
  obtain ⟨h1, h2⟩ := h
  have e1 : IntKind.i64.min = -9223372036854775808 := rfl
  have e2 : IntKind.i64.max = 9223372036854775807 := rfl
  simp only [Lit.wf, Bool.and_eq_true, decide_eq_true_eq, e1, e2]
  omega
/-- A record whose numbers are numbers of the machine. -/
structure RcOk (r : Rc) : Prop where
  kind : i64W r.kind
  id : i64W r.id
  version : i64W r.version
  day : i64W r.day
  start : i64W r.start
  stop : i64W r.stop
  pack : i64W r.pack
  person : i64W r.person
  role : i64W r.role
  purpose : i64W r.purpose
  clause : i64W r.clause
  party : i64W r.party
  text : r.text.size ≤ maxLen
def rlits (r : Rc) : List Lit := [.int .i64 r.kind, .int .i64 r.id, .int .i64 r.version, .int .i64 r.day, .bool r.gone, .int .i64 r.start, .int .i64 r.stop, .int .i64 r.pack, .int .i64 r.person, .int .i64 r.role, .int .i64 r.purpose, .int .i64 r.clause, .bool r.adm, .int .i64 r.party, .string r.text.data.toList]
theorem rlits_inj {r s : Rc} (h : rlits r = rlits s) : r = s := by
  unfold rlits at h
  simp only [List.cons.injEq, Lit.int.injEq, Lit.bool.injEq, Lit.string.injEq, true_and, and_true] at h
  obtain ⟨h1, h2, h3, h4, h5, h6, h7, h8, h9, h10, h11, h12, h13, h14, h15⟩ := h
  cases r; cases s
  simp only at h1 h2 h3 h4 h5 h6 h7 h8 h9 h10 h11 h12 h13 h14 h15
  have h15' := ByteArray_ext' h15
  subst h1 h2 h3 h4 h5 h6 h7 h8 h9 h10 h11 h12 h13 h14 h15'
  rfl
theorem keyLits_rec {r : Rc} (h : RcOk r) : Tryz.prog.keyLits 3 24 (rcells r) = some (rlits r) := by
  have c1 : Tryz.prog.cellsOf 3 = 1 := by kernel_rfl
  have c2 : Tryz.prog.cellsOf 4 = 1 := by kernel_rfl
  have c3 : Tryz.prog.cellsOf 9 = 1 := by kernel_rfl
  have c4 : Tryz.prog.cellsOf 24 = 15 := by kernel_rfl
  have w1 := h.kind.wf
  have w2 := h.id.wf
  have w3 := h.version.wf
  have w4 := h.day.wf
  have w5 := h.start.wf
  have w6 := h.stop.wf
  have w7 := h.pack.wf
  have w8 := h.person.wf
  have w9 := h.role.wf
  have w10 := h.purpose.wf
  have w11 := h.clause.wf
  have w12 := h.party.wf
  have w13 := h.text
  simp [Program.keyLits, Tryz.underlying24, Tryz.underlying3, Tryz.underlying4, Tryz.underlying9, c1, c2, c3, c4, rcells, rlits, w1, w2, w3, w4, w5, w6, w7, w8, w9, w10, w11, w12, w13]
theorem formed_rec (r : Rc) : (recV r).formed Tryz.prog 24 = true := by
  have c4 : Tryz.prog.cellsOf 24 = 15 := by kernel_rfl
  simp [Value.formed, Tryz.underlying24, c4, rcells]
open Classical in
theorem run_eqRec {r s : Rc} (hr : RcOk r) (hs : RcOk s) (w : World) : (Op.equal 24 (recV r) (recV s)).run Tryz.prog w = .ok (decide (r = s)) w := by
  have hk : Tryz.prog.keyTypeAt 3 24 = true := by kernel_rfl
  obtain ⟨b, h1, h2⟩ := run_equalIn_deep (P := Tryz.prog) 9997 3 24 hk w 3 3 (recV r) (recV s) (rlits r) (rlits s) (formed_rec r) (formed_rec s) (by simpa [Value.cells] using keyLits_rec hr) (by simpa [Value.cells] using keyLits_rec hs)
  have e : b = decide (r = s) := by
    rw [Bool.eq_iff_iff, h2, decide_eq_true_eq]
    exact ⟨rlits_inj, fun e => by rw [e]⟩
  rw [← e]; exact h1
open Classical in
theorem POp.eqRec {N : Nat} {ds : List Deferred} {E : Env} {x y : Operand} {t' ty : TypeId} {r s : Rc} (hx : Env.ev E x = some (recV r)) (hy : Env.ev E y = some (recV s)) (hr : RcOk r) (hs : RcOk s) :
    POp Tryz.prog N ds E (.binOp .eql 24 x y t') ty (.bool (decide (r = s))) :=
  POp.bin hx hy (fun w => run_eqGuard_agg w _ _ _ _ _ _ (by kernel_rfl)) fun w => by
    have h := run_eqRec hr hs w
    simp only [Go.binOp, Sem.run_bind, h, Result.andThen, Sem.run_pure]
end Go.Sx


/- Chapter 20: Valid. -/
import Derived.Test.YtldhccgelcmjoaaGreatXE
namespace Go.Sx
open Go Go.Proofs Go.RowKit
section
variable {P : Program} {N : Nat} {ds : List Deferred} {E : Env} {t t' ty : TypeId} {x y : Operand}
theorem run_equalIn_fnil {a b : Array TypeId} {c : Bool} [h : UTy P t (.func a b c)] (w : World) (d : Nat) : (Op.equalIn (d + 1) t .nilFunc .nilFunc).run P w = .ok true w := by
  simp [Op.equalIn, Sem.run_bind, run_underlying h.is, Result.andThen]
theorem run_equalIn_fsome {a b : Array TypeId} {c : Bool} {f : _root_.Go.Fn} {p q : Array Value} [h : UTy P t (.func a b c)] (w : World) (d : Nat) : (Op.equalIn (d + 1) t (.func f p q) .nilFunc).run P w = .ok false w := by
  simp [Op.equalIn, Sem.run_bind, run_underlying h.is, Result.andThen]
theorem POp.fnil1 {a b : Array TypeId} {c : Bool} [h : UTy P t (.func a b c)] (hx : Env.ev E x = some .nilFunc) (hy : Env.ev E y = some .nilFunc) : POp P N ds E (.binOp .eql t x y t') ty (.bool true) :=
  POp.bin hx hy (fun w => by rw [eqGuard_at_nilFunc]; rfl) fun w => by
    have e := run_equalIn_fnil (P := P) (t := t) w 9999
    show ((Op.equalIn (9999 + 1) t .nilFunc .nilFunc) >>= fun r => pure (Value.bool r)).run P w = _
    rw [Sem.run_bind, e]; rfl
theorem POp.fnil0 {a b : Array TypeId} {c : Bool} {f : _root_.Go.Fn} {p q : Array Value} [h : UTy P t (.func a b c)] (hx : Env.ev E x = some (.func f p q)) (hy : Env.ev E y = some .nilFunc) : POp P N ds E (.binOp .eql t x y t') ty (.bool false) :=
  POp.bin hx hy (fun w => by rw [eqGuard_at_func]; rfl) fun w => by
    have e := run_equalIn_fsome (P := P) (t := t) (f := f) (p := p) (q := q) w 9999
    show ((Op.equalIn (9999 + 1) t (.func f p q) .nilFunc) >>= fun r => pure (Value.bool r)).run P w = _
    rw [Sem.run_bind, e]; rfl
end
def Rc.clr (r : Rc) : Nat → Rc
  | 0 => { r with id := 0 }
  | 1 => { r with start := 0 }
  | 2 => { r with stop := 0 }
  | 3 => { r with pack := 0 }
  | 4 => { r with person := 0 }
  | 5 => { r with role := 0 }
  | 6 => { r with purpose := 0 }
  | 7 => { r with clause := 0 }
  | 8 => { r with adm := false }
  | 9 => { r with party := 0 }
  | _ => r
theorem ten {i : Nat} (h : i < 10) : i = 0 ∨ i = 1 ∨ i = 2 ∨ i = 3 ∨ i = 4 ∨ i = 5 ∨ i = 6 ∨ i = 7 ∨ i = 8 ∨ i = 9 := by omega
theorem cells_clr (r : Rc) {i : Nat} (h : i < 10) (h8 : i ≠ 8) : (rcells r).set (fpos i) (zv 0) = rcells (r.clr i) := by
  rcases ten h with rfl | rfl | rfl | rfl | rfl | rfl | rfl | rfl | rfl | rfl <;> first | rfl | exact absurd rfl h8
theorem cells_clr8 (r : Rc) : (rcells r).set 12 (.bool false) = rcells (r.clr 8) := rfl
theorem cells_get (r : Rc) {i : Nat} (h : i < 10) (h8 : i ≠ 8) : (rcells r)[fpos i]? = some (zv (r.get i)) := by
  rcases ten h with rfl | rfl | rfl | rfl | rfl | rfl | rfl | rfl | rfl | rfl <;> first | rfl | exact absurd rfl h8
theorem fpos_lt (i : Nat) : fpos i < 15 := by
  by_cases h : i < 10
  · rcases ten h with rfl | rfl | rfl | rfl | rfl | rfl | rfl | rfl | rfl | rfl <;> decide
  · match i, h with
    | n + 10, _ => exact (by decide : 0 < 15)
    | 0, h => omega
    | 1, h => omega
    | 2, h => omega
    | 3, h => omega
    | 4, h => omega
    | 5, h => omega
    | 6, h => omega
    | 7, h => omega
    | 8, h => omega
    | 9, h => omega
theorem get_clr (r : Rc) {i j : Nat} (hi : i < 10) (hj : j < 10) : (r.clr i).get j = if i = j then 0 else r.get j := by
  rcases ten hi with rfl | rfl | rfl | rfl | rfl | rfl | rfl | rfl | rfl | rfl <;> rcases ten hj with rfl | rfl | rfl | rfl | rfl | rfl | rfl | rfl | rfl | rfl <;> rfl
structure SameHead (r s : Rc) : Prop where
  kind : r.kind = s.kind
  version : r.version = s.version
  day : r.day = s.day
  gone : r.gone = s.gone
  text : r.text = s.text
theorem SameHead.clr {r s : Rc} (h : SameHead r s) (i : Nat) : SameHead (r.clr i) s := by
  obtain ⟨h1, h2, h3, h4, h5⟩ := h
  by_cases hi : i < 10
  · rcases ten hi with rfl | rfl | rfl | rfl | rfl | rfl | rfl | rfl | rfl | rfl <;> exact ⟨h1, h2, h3, h4, h5⟩
  · have e : r.clr i = r := by
      match i, hi with
      | n + 10, _ => rfl
      | 0, h => omega
      | 1, h => omega
      | 2, h => omega
      | 3, h => omega
      | 4, h => omega
      | 5, h => omega
      | 6, h => omega
      | 7, h => omega
      | 8, h => omega
      | 9, h => omega
    rw [e]; exact ⟨h1, h2, h3, h4, h5⟩
theorem RcOk.clr {r : Rc} (h : RcOk r) {i : Nat} (hi : i < 10) : RcOk (r.clr i) := by
  obtain ⟨h1, h2, h3, h4, h5, h6, h7, h8, h9, h10, h11, h12, h13⟩ := h
  have z : i64W 0 := by unfold i64W; omega
  rcases ten hi with rfl | rfl | rfl | rfl | rfl | rfl | rfl | rfl | rfl | rfl <;> constructor <;> assumption
/-- A record without some of its fields. -/
def zr (r : Rc) (l : List (Nat × Int × Int)) : Rc := l.foldl (fun r p => r.clr p.1) r
theorem zr_snoc (r : Rc) (l : List (Nat × Int × Int)) (p : Nat × Int × Int) : zr r (l ++ [p]) = (zr r l).clr p.1 := by unfold zr; rw [List.foldl_append]; rfl
theorem zr_head : ∀ (l : List (Nat × Int × Int)) (r s : Rc), SameHead r s → SameHead (zr r l) s
  | [], _, _, h => h
  | p :: l, r, s, h => zr_head l _ _ (h.clr p.1)
theorem zr_ok : ∀ (l : List (Nat × Int × Int)) (r : Rc), (∀ p ∈ l, p.1 < 10) → RcOk r → RcOk (zr r l)
  | [], _, _, h => h
  | p :: l, r, hl, h => zr_ok l _ (fun q hq => hl q (List.mem_cons_of_mem _ hq)) (h.clr (hl p (List.mem_cons_self ..)))
theorem zr_get : ∀ (l : List (Nat × Int × Int)) (r : Rc), (∀ p ∈ l, p.1 < 10) → ∀ j, j < 10 → (zr r l).get j = if j ∈ l.map Prod.fst then 0 else r.get j
  | [], _, _, _, _ => rfl
  | p :: l, r, hl, j, hj => by
    show (zr (r.clr p.1) l).get j = _
    rw [zr_get l (r.clr p.1) (fun q hq => hl q (List.mem_cons_of_mem _ hq)) j hj, get_clr r (hl p (List.mem_cons_self ..)) hj]
    by_cases h1 : j ∈ l.map Prod.fst
    · rw [if_pos h1, if_pos (by rw [List.map_cons]; exact List.mem_cons_of_mem _ h1)]
    · rw [if_neg h1]
      by_cases h2 : p.1 = j
      · rw [if_pos h2, if_pos (by rw [List.map_cons, h2]; exact List.mem_cons_self ..)]
      · rw [if_neg h2, if_neg (by rw [List.map_cons, List.mem_cons]; rintro (h | h); exact h2 h.symm; exact h1 h)]
theorem spec_nodup (k : Int) : ((specF k).map Prod.fst).Nodup := by
  unfold specF
  repeat' split
  all_goals decide
theorem spec_len (k : Int) : (specF k).length ≤ 8 := by
  unfold specF
  repeat' split
  all_goals decide
theorem spec_pos {k : Int} (h : 1 ≤ k ∧ k ≤ 8) : 0 < (specF k).length := by
  rcases (show k = 1 ∨ k = 2 ∨ k = 3 ∨ k = 4 ∨ k = 5 ∨ k = 6 ∨ k = 7 ∨ k = 8 by omega) with rfl | rfl | rfl | rfl | rfl | rfl | rfl | rfl <;> decide
theorem spec8 {k : Int} {p : Nat × Int × Int} (h : p ∈ specF k) (h8 : p.1 = 8) : p.2.1 = 0 ∧ p.2.2 = 1 := by
  unfold specF at h
  repeat' split at h
  all_goals (simp only [List.mem_cons, List.not_mem_nil, or_false] at h)
  all_goals (first | (rcases h with rfl | rfl | rfl | rfl | rfl | rfl | rfl | rfl <;> first | (exact absurd h8 (by decide)) | decide) | (rcases h with rfl | rfl | rfl | rfl | rfl | rfl <;> first | (exact absurd h8 (by decide)) | decide) | (rcases h with rfl | rfl | rfl | rfl | rfl <;> first | (exact absurd h8 (by decide)) | decide) | (rcases h with rfl | rfl | rfl | rfl <;> first | (exact absurd h8 (by decide)) | decide) | (rcases h with rfl | rfl <;> first | (exact absurd h8 (by decide)) | decide))
theorem spec_hi {k : Int} {p : Nat × Int × Int} (h : p ∈ specF k) : p.2.2 ≤ 1000000 := by
  unfold specF at h
  repeat' split at h
  all_goals (simp only [List.mem_cons, List.not_mem_nil, or_false] at h)
  all_goals (first | (rcases h with rfl | rfl | rfl | rfl | rfl | rfl | rfl | rfl <;> decide) | (rcases h with rfl | rfl | rfl | rfl | rfl | rfl <;> decide) | (rcases h with rfl | rfl | rfl | rfl | rfl <;> decide) | (rcases h with rfl | rfl | rfl | rfl <;> decide) | (rcases h with rfl | rfl <;> decide))
/-- Its kind, its version, its day, whether it is gone, its text. -/
def headR (r : Rc) : Rc := ⟨r.kind, 0, r.version, r.day, r.gone, 0, 0, 0, 0, 0, 0, 0, false, 0, r.text⟩
theorem head_get (r : Rc) {j : Nat} (h : j < 10) : (headR r).get j = 0 := by
  rcases ten h with rfl | rfl | rfl | rfl | rfl | rfl | rfl | rfl | rfl | rfl <;> rfl
theorem zr_eq_head (r : Rc) : zr r (specF r.kind) = headR r ↔ ∀ i, i < 10 → i ∉ (specF r.kind).map Prod.fst → r.get i = 0 := by
  have hl : ∀ p ∈ specF r.kind, p.1 < 10 := fun p hp => (spec_lo hp).2
  constructor
  · intro h i hi hm
    have h1 := zr_get (specF r.kind) r hl i hi
    rw [if_neg hm, h, head_get r hi] at h1
    exact h1.symm
  · intro h
    have hh := zr_head (specF r.kind) r r ⟨rfl, rfl, rfl, rfl, rfl⟩
    refine Rc.ext_get hh.kind hh.version hh.day hh.gone hh.text fun i hi => ?_
    rw [zr_get (specF r.kind) r hl i hi, head_get r hi]
    by_cases hm : i ∈ (specF r.kind).map Prod.fst
    · rw [if_pos hm]
    · rw [if_neg hm]; exact h i hi hm
theorem headR_ok {r : Rc} (h : RcOk r) : RcOk (headR r) := by
  obtain ⟨h1, h2, h3, h4, h5, h6, h7, h8, h9, h10, h11, h12, h13⟩ := h
  have z : i64W 0 := by unfold i64W; omega
  constructor <;> assumption
noncomputable def validB (r : Rc) : Bool := @decide (ValidR r) (Classical.propDecidable _)
theorem validB_yes {r : Rc} (h : ValidR r) : validB r = true := by unfold validB; exact @decide_eq_true _ (Classical.propDecidable _) h
theorem validB_no {r : Rc} (h : ¬ ValidR r) : validB r = false := by unfold validB; exact @decide_eq_false _ (Classical.propDecidable _) h
theorem validB_iff {r : Rc} : validB r = true ↔ ValidR r := by unfold validB; exact @decide_eq_true_iff _ (Classical.propDecidable _)
theorem rcells_one (r : Rc) : ∀ v ∈ rcells r, v.oneCell' = true := by
  unfold rcells
  intro v hv
  simp only [List.mem_cons, List.not_mem_nil, or_false] at hv
  rcases hv with rfl | rfl | rfl | rfl | rfl | rfl | rfl | rfl | rfl | rfl | rfl | rfl | rfl | rfl | rfl <;> rfl
theorem fcl_get {l : List (Nat × Int × Int)} : ∀ {j : Nat} {p : Nat × Int × Int}, l[j]? = some p → ∀ (i : Nat) (v : Value), (fcells p)[i]? = some v → (fcl l)[j * 3 + i]? = some v := by
  induction l with
  | nil => intro j p h; simp at h
  | cons q l ih =>
    intro j p h i v hv
    have e : fcl (q :: l) = fcells q ++ fcl l := rfl
    rw [e]
    cases j with
    | zero =>
      simp only [List.getElem?_cons_zero, Option.some.injEq] at h
      subst h
      rw [Nat.zero_mul, Nat.zero_add, List.getElem?_append_left (by rw [fcells_len]; have := (List.getElem?_eq_some_iff.1 hv).1; rwa [fcells_len] at this)]
      exact hv
    | succ j =>
      rw [List.getElem?_cons_succ] at h
      have h1 := ih h i v hv
      rw [List.getElem?_append_right (by rw [fcells_len]; omega), fcells_len, show (j + 1) * 3 + i - 3 = j * 3 + i by omega]
      exact h1
def rcZ : Rc := ⟨0, 0, 0, 0, false, 0, 0, 0, 0, 0, 0, 0, false, 0, ByteArray.mk #[]⟩
end Go.Sx


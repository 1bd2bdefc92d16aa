/- Plain, chapter 26: calls one after the other; Append, Open. -/
import Derived.Test.YtionfblneloaiaaGreatDoorJP
import Derived.Test.YtionfblneloaiaaGreatDoorKA
namespace Go.Sx
open Go
inductive DOp where
  | wr (off : Nat) (s : ByteArray)
  | sy
def DOp.run : DOp → Dk → Int × Dk
  | .wr off s, k => k.write off s
  | .sy, k => k.sync
/-- Calls up to the first error. -/
def runOps : List DOp → Dk → Int × Dk
  | [], k => (0, k)
  | o :: l, k => if (o.run k).1 = 0 then runOps l (o.run k).2 else o.run k
theorem runOps_ok {o : DOp} {l : List DOp} {k : Dk} (h : (o.run k).1 = 0) : runOps (o :: l) k = runOps l (o.run k).2 := by
  show (if _ then _ else _) = _
  rw [if_pos h]
theorem runOps_no {o : DOp} {l : List DOp} {k : Dk} (h : ¬ (o.run k).1 = 0) : runOps (o :: l) k = o.run k := by
  show (if _ then _ else _) = _
  rw [if_neg h]
theorem used_p (k : Dk) : k.used.dur = k.dur ∧ k.used.vis = k.vis ∧ k.used.pend = k.pend ∧ k.used.left ≤ k.left := by
  unfold Dk.used
  by_cases h : k.left = 0
  · rw [if_pos h]; exact ⟨rfl, rfl, rfl, Nat.le_refl _⟩
  · rw [if_neg h]; exact ⟨rfl, rfl, rfl, by show k.left - 1 ≤ k.left; omega⟩
/-- What a call may change of a disk. -/
theorem DOp.run_len (o : DOp) (k : Dk) (hl : k.vis.length = k.dur.length) : (o.run k).2.vis.length = (o.run k).2.dur.length ∧ (o.run k).2.dur.length = k.dur.length ∧ (o.run k).2.left ≤ k.left ∧ (o.run k).2.pend.length ≤ k.pend.length + 1 := by
  cases o with
  | wr off s =>
    show (k.write off s).2.vis.length = _ ∧ _
    have hs : s.data.toList.length = s.size := by rw [Array.length_toList]; rfl
    cases ho : k.off
    · by_cases h1 : off + s.size ≤ k.dur.length
      · have hw := Dk.write_on (s := s) ho h1
        obtain ⟨h2, h3, h4, h5⟩ := used_p { k with pend := k.pend ++ [(off, s)], vis := splice k.vis off s.data.toList }
        have hp : (k.write off s).2 = Dk.used { k with pend := k.pend ++ [(off, s)], vis := splice k.vis off s.data.toList } := by rw [hw]; rfl
        show (k.write off s).2.vis.length = (k.write off s).2.dur.length ∧ (k.write off s).2.dur.length = _ ∧ (k.write off s).2.left ≤ _ ∧ (k.write off s).2.pend.length ≤ _
        rw [hp, h2, h3, h4]
        refine ⟨?_, rfl, h5, ?_⟩
        · show (splice k.vis off s.data.toList).length = k.dur.length
          rw [splice_len (by omega), hl]
        · show (k.pend ++ [(off, s)]).length ≤ _
          rw [List.length_append]; exact Nat.le_refl _
      · show (k.write off s).2.vis.length = (k.write off s).2.dur.length ∧ (k.write off s).2.dur.length = _ ∧ (k.write off s).2.left ≤ _ ∧ (k.write off s).2.pend.length ≤ _
        rw [Dk.write_no ho h1]; exact ⟨hl, rfl, Nat.le_refl _, Nat.le_succ _⟩
    · show (k.write off s).2.vis.length = (k.write off s).2.dur.length ∧ (k.write off s).2.dur.length = _ ∧ (k.write off s).2.left ≤ _ ∧ (k.write off s).2.pend.length ≤ _
      rw [Dk.write_off ho]; exact ⟨hl, rfl, Nat.le_refl _, Nat.le_succ _⟩
  | sy =>
    show k.sync.2.vis.length = k.sync.2.dur.length ∧ k.sync.2.dur.length = _ ∧ k.sync.2.left ≤ _ ∧ k.sync.2.pend.length ≤ _
    cases ho : k.off
    · rw [Dk.sync_on ho]; exact ⟨rfl, hl, Nat.le_refl _, Nat.zero_le _⟩
    · rw [Dk.sync_off ho]; exact ⟨hl, rfl, Nat.le_refl _, Nat.le_succ _⟩
theorem DOp.run_ok (o : DOp) {k : Dk} (hk : k.Ok) (hp : k.pend.length + 1 ≤ 10000) : (o.run k).2.Ok := by
  obtain ⟨h1, h2, h3, h4⟩ := o.run_len k hk.len
  exact ⟨h1, by have := hk.lo; omega, by have := hk.hi; omega, by have := hk.left; omega, by omega⟩
theorem runOps_len : ∀ (l : List DOp) (k : Dk), k.vis.length = k.dur.length → (runOps l k).2.vis.length = (runOps l k).2.dur.length ∧ (runOps l k).2.dur.length = k.dur.length ∧ (runOps l k).2.left ≤ k.left ∧ (runOps l k).2.pend.length ≤ k.pend.length + l.length
  | [], k, h => ⟨h, rfl, Nat.le_refl _, Nat.le_refl _⟩
  | o :: l, k, h => by
    obtain ⟨h1, h2, h3, h4⟩ := o.run_len k h
    rw [List.length_cons]
    by_cases h0 : (o.run k).1 = 0
    · rw [runOps_ok h0]
      obtain ⟨g1, g2, g3, g4⟩ := runOps_len l (o.run k).2 h1
      exact ⟨g1, by omega, by omega, by omega⟩
    · rw [runOps_no h0]; exact ⟨h1, h2, h3, by omega⟩
theorem runOps_okk {l : List DOp} {k : Dk} (hk : k.Ok) (hp : k.pend.length + l.length ≤ 10000) : (runOps l k).2.Ok := by
  obtain ⟨h1, h2, h3, h4⟩ := runOps_len l k hk.len
  exact ⟨h1, by have := hk.lo; omega, by have := hk.hi; omega, by have := hk.left; omega, by omega⟩
def zero32 : ByteArray := mkBA (List.replicate 32 0)
/-- What is kept at first. -/
def t00 : Tp := ⟨[], zero32, 0⟩
/-- A journal: what is kept, its disk, whether it is broken. -/
structure Jn where
  t : Tp
  k : Dk
  br : Bool
def isLong (s : ByteArray) : Bool := decide (65536 < s.size)
def grp (t : Tp) (o : List UInt8) : List DOp := [.wr (t.size + 1) (mkBA (o.drop 1)), .sy, .wr t.size (mkBA (o.take 1)), .sy]
def Jn.append (j : Jn) (l : List ByteArray) : Int × Jn :=
  if j.br = true ∨ l.any isLong = true then (260, j)
  else if (j.k.dur.length : Int) - (j.t.size : Int) < ((outsL j.t.head l).length : Int) then (261, j)
  else if outsL j.t.head l = [] then (0, j)
  else if (runOps (grp j.t (outsL j.t.head l)) j.k).1 = 0 then (0, { j with t := adds j.t l, k := (runOps (grp j.t (outsL j.t.head l)) j.k).2 })
  else ((runOps (grp j.t (outsL j.t.head l)) j.k).1, { j with k := (runOps (grp j.t (outsL j.t.head l)) j.k).2, br := true })
/-- Open: the error, the disk behind it, what is kept. -/
def openF (k : Dk) : Int × Dk × Option Tp :=
  if k.off = true then (251, k, none)
  else match loadF k.vis t00 with
    | none => (262, k, none)
    | some t =>
      if isZero (k.vis.drop t.size) = true then (0, k, some t)
      else if (runOps [.wr t.size (mkBA (List.replicate (k.vis.length - t.size) 0)), .sy] k).1 = 0 then (0, (runOps [.wr t.size (mkBA (List.replicate (k.vis.length - t.size) 0)), .sy] k).2, some t)
      else ((runOps [.wr t.size (mkBA (List.replicate (k.vis.length - t.size) 0)), .sy] k).1, (runOps [.wr t.size (mkBA (List.replicate (k.vis.length - t.size) 0)), .sy] k).2, none)
end Go.Sx
/- Plain, chapter 25: a power failure. -/
namespace Go.Sx
open Go
/-- Which pending writes are kept. -/
def crashL (keep : List Int) (n : Nat) : List Nat := (List.range n).filter fun (i : Nat) => keep.contains (i : Int)
def tornS (torn : Int) (last : Bool) (s : ByteArray) : ByteArray := if last = true ∧ 0 ≤ torn then s.extract 0 (min torn (s.size : Int)).toNat else s
theorem tornS_size (torn : Int) (last : Bool) (s : ByteArray) : (tornS torn last s).size ≤ s.size := by
  unfold tornS
  split
  · rw [ByteArray.size_extract]; omega
  · exact Nat.le_refl _
def pendAt (pend : List (Nat × ByteArray)) (i : Nat) : Nat × ByteArray := pend.getD i (0, ByteArray.mk #[])
def applyL (pend : List (Nat × ByteArray)) (torn : Int) : List Nat → List UInt8 → List UInt8
  | [], d => d
  | i :: l, d => applyL pend torn l (splice d (pendAt pend i).1 (tornS torn l.isEmpty (pendAt pend i).2).data.toList)
def Dk.crash (k : Dk) (keep : List Int) (torn : Int) : Dk := ⟨false, 0, applyL k.pend torn (crashL keep k.pend.length) k.dur, applyL k.pend torn (crashL keep k.pend.length) k.dur, []⟩
/-- Pending writes lie on the disk. -/
def Dk.Fit (k : Dk) : Prop := ∀ x ∈ k.pend, x.1 + x.2.size ≤ k.dur.length
theorem pendAt_mem {pend : List (Nat × ByteArray)} {i : Nat} (h : i < pend.length) : pendAt pend i ∈ pend := by unfold pendAt; simp [h]
theorem crashL_lt {keep : List Int} {n i : Nat} (h : i ∈ crashL keep n) : i < n := List.mem_range.1 (List.mem_filter.1 h).1
theorem applyL_len (pend : List (Nat × ByteArray)) (torn : Int) (n : Nat) (hp : ∀ x ∈ pend, x.1 + x.2.size ≤ n) : ∀ (l : List Nat) (d : List UInt8), (∀ i ∈ l, i < pend.length) → d.length = n → (applyL pend torn l d).length = n
  | [], d, _, hd => hd
  | i :: l, d, hl, hd => by
    have h1 := hp _ (pendAt_mem (hl i (List.mem_cons_self ..)))
    have h2 := tornS_size torn l.isEmpty (pendAt pend i).2
    have h3 : (tornS torn l.isEmpty (pendAt pend i).2).data.toList.length = (tornS torn l.isEmpty (pendAt pend i).2).size := by rw [Array.length_toList]; rfl
    exact applyL_len pend torn n hp l _ (fun j hj => hl j (List.mem_cons_of_mem _ hj)) (by rw [splice_len (by omega), hd])
theorem crash_len {k : Dk} (hf : k.Fit) (keep : List Int) (torn : Int) : (k.crash keep torn).dur.length = k.dur.length :=
  applyL_len k.pend torn k.dur.length hf _ _ (fun _ h => crashL_lt h) rfl
theorem crash_ok {k : Dk} (hk : k.Ok) (hf : k.Fit) (keep : List Int) (torn : Int) : (k.crash keep torn).Ok :=
  ⟨rfl, by rw [crash_len hf]; exact hk.lo, by rw [crash_len hf]; exact hk.hi, Nat.zero_le _, Nat.zero_le _⟩
/-- Strictly ascending. -/
def Asc (l : List Int) : Prop := l.Pairwise (· < ·)
theorem asc_eq : ∀ {l m : List Int}, Asc l → Asc m → (∀ x, x ∈ l ↔ x ∈ m) → l = m
  | [], [], _, _, _ => rfl
  | [], b :: m, _, _, h => by have := (h b).2 (List.mem_cons_self ..); cases this
  | a :: l, [], _, _, h => by have := (h a).1 (List.mem_cons_self ..); cases this
  | a :: l, b :: m, hl, hm, h => by
    have hl' := List.pairwise_cons.1 hl
    have hm' := List.pairwise_cons.1 hm
    have hab : a = b := by
      rcases List.mem_cons.1 ((h a).1 (List.mem_cons_self ..)) with e | h1
      · exact e
      · rcases List.mem_cons.1 ((h b).2 (List.mem_cons_self ..)) with e | h2
        · exact e.symm
        · have h3 := hm'.1 a h1
          have h4 := hl'.1 b h2
          omega
    subst hab
    congr 1
    refine asc_eq hl'.2 hm'.2 fun x => ⟨fun hx => ?_, fun hx => ?_⟩
    · rcases List.mem_cons.1 ((h x).1 (List.mem_cons_of_mem _ hx)) with e | h1
      · have := hl'.1 x hx; omega
      · exact h1
    · rcases List.mem_cons.1 ((h x).2 (List.mem_cons_of_mem _ hx)) with e | h1
      · have := hm'.1 x hx; omega
      · exact h1
theorem crashL_asc (keep : List Int) (n : Nat) : Asc ((crashL keep n).map fun i : Nat => (i : Int)) := by
  unfold Asc crashL
  rw [List.pairwise_map]
  refine List.Pairwise.filter _ ?_
  exact List.pairwise_lt_range.imp fun h => by omega
/-- What is sorted, without repetitions, and within bounds, is what is kept. -/
theorem order_eq {keep l : List Int} {n : Nat} (ha : Asc l) (hm : ∀ x, x ∈ l ↔ x ∈ keep) : (l.filter fun i => !(decide (i < 0) || decide ((n : Int) ≤ i))) = (crashL keep n).map fun i : Nat => (i : Int) := by
  refine asc_eq (List.Pairwise.filter _ ha) (crashL_asc keep n) fun x => ?_
  rw [List.mem_filter, List.mem_map]
  constructor
  · rintro ⟨h1, h2⟩
    have h3 : 0 ≤ x ∧ x < n := by
      simp only [Bool.not_or, Bool.and_eq_true, Bool.not_eq_true', decide_eq_false_iff_not] at h2
      omega
    refine ⟨x.toNat, List.mem_filter.2 ⟨List.mem_range.2 (by omega), ?_⟩, by omega⟩
    rw [Int.toNat_of_nonneg h3.1]
    exact List.contains_iff_mem.2 ((hm x).1 h1)
  · rintro ⟨i, h1, rfl⟩
    obtain ⟨h2, h3⟩ := List.mem_filter.1 h1
    have h4 := List.mem_range.1 h2
    refine ⟨(hm _).2 (List.contains_iff_mem.1 h3), ?_⟩
    simp only [Bool.not_or, Bool.and_eq_true, Bool.not_eq_true', decide_eq_false_iff_not]
    omega
end Go.Sx


/- Plain, chapter 26: calls one after the other; Append, Open. -/
import Derived.Test.YtlihcenahjgnmaaGreatDoorJP
import Derived.Test.YtlihcenahjgnmaaGreatDoorKA
namespace Go.Sx
open Go
inductive DOp where
  | wr (off : Nat) (s : ByteArray)
  | sy
def DOp.run : DOp → Dk → Int × Dk
  | .wr off s, k => k.write off s
  | .sy, k => k.sync
/-- Calls up to the first error. -/
def runOps : List DOp → Dk → Int × Dk
  | [], k => (0, k)
  | o :: l, k => if (o.run k).1 = 0 then runOps l (o.run k).2 else o.run k
theorem runOps_ok {o : DOp} {l : List DOp} {k : Dk} (h : (o.run k).1 = 0) : runOps (o :: l) k = runOps l (o.run k).2 := by
  show (if _ then _ else _) = _
  rw [if_pos h]
theorem runOps_no {o : DOp} {l : List DOp} {k : Dk} (h : ¬ (o.run k).1 = 0) : runOps (o :: l) k = o.run k := by
  show (if _ then _ else _) = _
  rw [if_neg h]
theorem used_p (k : Dk) : k.used.dur = k.dur ∧ k.used.vis = k.vis ∧ k.used.pend = k.pend ∧ k.used.left ≤ k.left := by
  unfold Dk.used
  by_cases h : k.left = 0
  · rw [if_pos h]; exact ⟨rfl, rfl, rfl, Nat.le_refl _⟩
  · rw [if_neg h]; exact ⟨rfl, rfl, rfl, by show k.left - 1 ≤ k.left; omega⟩
/-- What a call may change of a disk. -/
theorem DOp.run_len (o : DOp) (k : Dk) (hl : k.vis.length = k.dur.length) : (o.run k).2.vis.length = (o.run k).2.dur.length ∧ (o.run k).2.dur.length = k.dur.length ∧ (o.run k).2.left ≤ k.left ∧ (o.run k).2.pend.length ≤ k.pend.length + 1 := by
  cases o with
  | wr off s =>
    show (k.write off s).2.vis.length = _ ∧ _
    have hs : s.data.toList.length = s.size := by rw [Array.length_toList]; rfl
    cases ho : k.off
    · by_cases h1 : off + s.size ≤ k.dur.length
      · have hw := Dk.write_on (s := s) ho h1
        obtain ⟨h2, h3, h4, h5⟩ := used_p { k with pend := k.pend ++ [(off, s)], vis := splice k.vis off s.data.toList }
        have hp : (k.write off s).2 = Dk.used { k with pend := k.pend ++ [(off, s)], vis := splice k.vis off s.data.toList } := by rw [hw]; rfl
        show (k.write off s).2.vis.length = (k.write off s).2.dur.length ∧ (k.write off s).2.dur.length = _ ∧ (k.write off s).2.left ≤ _ ∧ (k.write off s).2.pend.length ≤ _
        rw [hp, h2, h3, h4]
        refine ⟨?_, rfl, h5, ?_⟩
        · show (splice k.vis off s.data.toList).length = k.dur.length
          rw [splice_len (by omega), hl]
        · show (k.pend ++ [(off, s)]).length ≤ _
          rw [List.length_append]; exact Nat.le_refl _
      · show (k.write off s).2.vis.length = (k.write off s).2.dur.length ∧ (k.write off s).2.dur.length = _ ∧ (k.write off s).2.left ≤ _ ∧ (k.write off s).2.pend.length ≤ _
        rw [Dk.write_no ho h1]; exact ⟨hl, rfl, Nat.le_refl _, Nat.le_succ _⟩
    · show (k.write off s).2.vis.length = (k.write off s).2.dur.length ∧ (k.write off s).2.dur.length = _ ∧ (k.write off s).2.left ≤ _ ∧ (k.write off s).2.pend.length ≤ _
      rw [Dk.write_off ho]; exact ⟨hl, rfl, Nat.le_refl _, Nat.le_succ _⟩
  | sy =>
    show k.sync.2.vis.length = k.sync.2.dur.length ∧ k.sync.2.dur.length = _ ∧ k.sync.2.left ≤ _ ∧ k.sync.2.pend.length ≤ _
    cases ho : k.off
    · rw [Dk.sync_on ho]; exact ⟨rfl, hl, Nat.le_refl _, Nat.zero_le _⟩
    · rw [Dk.sync_off ho]; exact ⟨hl, rfl, Nat.le_refl _, Nat.le_succ _⟩
theorem DOp.run_ok (o : DOp) {k : Dk} (hk : k.Ok) (hp : k.pend.length + 1 ≤ 10000) : (o.run k).2.Ok := by
  obtain ⟨h1, h2, h3, h4⟩ := o.run_len k hk.len
  exact ⟨h1, by have := hk.lo; omega, by have := hk.hi; omega, by have := hk.left; omega, by omega⟩
theorem runOps_len : ∀ (l : List DOp) (k : Dk), k.vis.length = k.dur.length → (runOps l k).2.vis.length = (runOps l k).2.dur.length ∧ (runOps l k).2.dur.length = k.dur.length ∧ (runOps l k).2.left ≤ k.left ∧ (runOps l k).2.pend.length ≤ k.pend.length + l.length
  | [], k, h => ⟨h, rfl, Nat.le_refl _, Nat.le_refl _⟩
  | o :: l, k, h => by
    obtain ⟨h1, h2, h3, h4⟩ := o.run_len k h
    rw [List.length_cons]
    by_cases h0 : (o.run k).1 = 0
    · rw [runOps_ok h0]
      obtain ⟨g1, g2, g3, g4⟩ := runOps_len l (o.run k).2 h1
      exact ⟨g1, by omega, by omega, by omega⟩
    · rw [runOps_no h0]; exact ⟨h1, h2, h3, by omega⟩
theorem runOps_okk {l : List DOp} {k : Dk} (hk : k.Ok) (hp : k.pend.length + l.length ≤ 10000) : (runOps l k).2.Ok := by
  obtain ⟨h1, h2, h3, h4⟩ := runOps_len l k hk.len
  exact ⟨h1, by have := hk.lo; omega, by have := hk.hi; omega, by have := hk.left; omega, by omega⟩
def zero32 : ByteArray := mkBA (List.replicate 32 0)
/-- What is kept at first. -/
def t00 : Tp := ⟨[], zero32, 0⟩
/-- A journal: what is kept, its disk, whether it is broken. -/
structure Jn where
  t : Tp
  k : Dk
  br : Bool
def isLong (s : ByteArray) : Bool := decide (65536 < s.size)
def grp (t : Tp) (o : List UInt8) : List DOp := [.wr (t.size + 1) (mkBA (o.drop 1)), .sy, .wr t.size (mkBA (o.take 1)), .sy]
def Jn.append (j : Jn) (l : List ByteArray) : Int × Jn :=
  if j.br = true ∨ l.any isLong = true then (260, j)
  else if (j.k.dur.length : Int) - (j.t.size : Int) < ((outsL j.t.head l).length : Int) then (261, j)
  else if outsL j.t.head l = [] then (0, j)
  else if (runOps (grp j.t (outsL j.t.head l)) j.k).1 = 0 then (0, { j with t := adds j.t l, k := (runOps (grp j.t (outsL j.t.head l)) j.k).2 })
  else ((runOps (grp j.t (outsL j.t.head l)) j.k).1, { j with k := (runOps (grp j.t (outsL j.t.head l)) j.k).2, br := true })
/-- Open: the error, the disk behind it, what is kept. -/
def openF (k : Dk) : Int × Dk × Option Tp :=
  if k.off = true then (251, k, none)
  else match loadF k.vis t00 with
    | none => (262, k, none)
    | some t =>
      if isZero (k.vis.drop t.size) = true then (0, k, some t)
      else if (runOps [.wr t.size (mkBA (List.replicate (k.vis.length - t.size) 0)), .sy] k).1 = 0 then (0, (runOps [.wr t.size (mkBA (List.replicate (k.vis.length - t.size) 0)), .sy] k).2, some t)
      else ((runOps [.wr t.size (mkBA (List.replicate (k.vis.length - t.size) 0)), .sy] k).1, (runOps [.wr t.size (mkBA (List.replicate (k.vis.length - t.size) 0)), .sy] k).2, none)
end Go.Sx


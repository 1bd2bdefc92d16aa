/- Plain, chapter 20: records, which of them are valid, how they are encoded. -/
import Derived.Test.YtionfblneloaiaaGreatDoorHx6
namespace Go.Sx
open Go
/-- A number, seven bits at a time. -/
def vint (z : Nat) : List UInt8 := if h : z < 128 then [UInt8.ofNat z] else UInt8.ofNat (z % 128 + 128) :: vint (z / 128)
termination_by z
decreasing_by omega
theorem vint_lt {z : Nat} (h : z < 128) : vint z = [UInt8.ofNat z] := by rw [vint, dif_pos h]
theorem vint_ge {z : Nat} (h : ¬ z < 128) : vint z = UInt8.ofNat (z % 128 + 128) :: vint (z / 128) := by rw [vint, dif_neg h]
theorem u8_inj {a b : Nat} (ha : a < 256) (hb : b < 256) (h : UInt8.ofNat a = UInt8.ofNat b) : a = b := by
  have := congrArg UInt8.toNat h
  simp only [UInt8.toNat_ofNat'] at this
  omega
theorem vint_inj : ∀ (n a b : Nat), a ≤ n → ∀ {x y : List UInt8}, vint a ++ x = vint b ++ y → a = b ∧ x = y
  | n, a, b, hn, x, y, h => by
    by_cases ha : a < 128
    · rw [vint_lt ha] at h
      by_cases hb : b < 128
      · rw [vint_lt hb] at h
        simp only [List.cons_append, List.nil_append, List.cons.injEq] at h
        exact ⟨u8_inj (by omega) (by omega) h.1, h.2⟩
      · rw [vint_ge hb] at h
        simp only [List.cons_append, List.nil_append, List.cons.injEq] at h
        have := u8_inj (by omega) (by omega) h.1
        omega
    · rw [vint_ge ha] at h
      by_cases hb : b < 128
      · rw [vint_lt hb] at h
        simp only [List.cons_append, List.nil_append, List.cons.injEq] at h
        have := u8_inj (by omega) (by omega) h.1
        omega
      · rw [vint_ge hb] at h
        simp only [List.cons_append, List.cons.injEq] at h
        have h1 := u8_inj (by omega) (by omega) h.1
        match n, hn with
        | 0, hn => omega
        | n + 1, hn =>
          have h2 := vint_inj n (a / 128) (b / 128) (by omega) h.2
          exact ⟨by omega, h2.2⟩
/-- A number that is not negative, as it is encoded. -/
def putN (n : Nat) : List UInt8 := vint (2 * n)
theorem putN_inj {a b : Nat} {x y : List UInt8} (h : putN a ++ x = putN b ++ y) : a = b ∧ x = y := by
  have := vint_inj (2 * a) _ _ (Nat.le_refl _) h
  exact ⟨by omega, this.2⟩
structure Rc where
  kind : Int
  id : Int
  version : Int
  day : Int
  gone : Bool
  start : Int
  stop : Int
  pack : Int
  person : Int
  role : Int
  purpose : Int
  clause : Int
  adm : Bool
  party : Int
  text : ByteArray
def b01 (b : Bool) : Int := if b = true then 1 else 0
def Rc.get (r : Rc) : Nat → Int
  | 0 => r.id
  | 1 => r.start
  | 2 => r.stop
  | 3 => r.pack
  | 4 => r.person
  | 5 => r.role
  | 6 => r.purpose
  | 7 => r.clause
  | 8 => b01 r.adm
  | 9 => r.party
  | _ => 0
/-- The fields of a kind, with their limits, in their order. -/
def specF (k : Int) : List (Nat × Int × Int) :=
  if k = 1 then [(0, 1, 1000000), (1, 0, 100000), (2, 0, 100000), (4, 1, 1000000), (5, 1, 1000000)]
  else if k = 2 then [(7, 1, 1000000), (1, 0, 100000), (2, 0, 100000), (3, 0, 1000000), (5, 0, 1000000), (6, 0, 1000000), (8, 0, 1), (9, 0, 1000000)]
  else if k = 3 then [(0, 1, 1000000), (1, 0, 100000), (2, 0, 100000), (3, 1, 1000000), (6, 0, 1000000), (9, 1, 1000000)]
  else if k = 4 then [(0, 1, 1000000), (1, 0, 100000), (2, 0, 100000), (3, 1, 1000000)]
  else if k = 5 then [(0, 1, 1000000), (1, 0, 100000), (2, 0, 100000), (3, 0, 1000000)]
  else if k = 6 then [(9, 1, 1000000), (1, 0, 100000)]
  else if k = 7 then [(0, 1, 1000000), (1, 0, 100000), (2, 0, 100000), (3, 1, 1000000), (6, 0, 1000000), (7, 0, 63)]
  else if k = 8 then [(0, 1, 1000000), (1, 0, 100000), (3, 1, 1000000), (7, 1, 1000000)]
  else []
/-- Which field is the key. -/
def keyF (k : Int) : Nat := if k = 2 then 7 else if k = 6 then 9 else 0
def restP (r : Rc) : Prop := (r.kind ≠ 6 → r.kind ≠ 8 → r.start ≤ r.stop) ∧ (r.kind = 2 → r.clause ≠ r.party)
structure ValidR (r : Rc) : Prop where
  kind : 1 ≤ r.kind ∧ r.kind ≤ 8
  ver : 1 ≤ r.version ∧ r.version ≤ 1000000
  day : 0 ≤ r.day ∧ r.day ≤ 100000
  text : r.text.size ≤ 200
  rest : restP r
  lim : ∀ p ∈ specF r.kind, p.2.1 ≤ r.get p.1 ∧ r.get p.1 ≤ p.2.2
  zero : ∀ i, i < 10 → i ∉ (specF r.kind).map Prod.fst → r.get i = 0
theorem Rc.get_ge (r : Rc) (i : Nat) (h : 10 ≤ i) : r.get i = 0 := by
  match i, h with
  | n + 10, _ => rfl
theorem b01_inj {a b : Bool} (h : b01 a = b01 b) : a = b := by
  cases a <;> cases b <;> first | rfl | (exfalso; revert h; decide)
theorem ByteArray_ext' {a b : ByteArray} (h : a.data.toList = b.data.toList) : a = b := by
  cases a; cases b
  congr 1
  exact Array.toList_inj.1 h
/-- A record is what its fields are. -/
theorem Rc.ext_get {r s : Rc} (hk : r.kind = s.kind) (hv : r.version = s.version) (hd : r.day = s.day) (hg : r.gone = s.gone) (ht : r.text = s.text) (h : ∀ i, i < 10 → r.get i = s.get i) : r = s := by
  cases r; cases s
  simp only at hk hv hd hg ht
  have h0 := h 0 (by decide)
  have h1 := h 1 (by decide)
  have h2 := h 2 (by decide)
  have h3 := h 3 (by decide)
  have h4 := h 4 (by decide)
  have h5 := h 5 (by decide)
  have h6 := h 6 (by decide)
  have h7 := h 7 (by decide)
  have h8 := h 8 (by decide)
  have h9 := h 9 (by decide)
  simp only [Rc.get] at h0 h1 h2 h3 h4 h5 h6 h7 h8 h9
  have h8' := b01_inj h8
  subst hk hv hd hg ht h0 h1 h2 h3 h4 h5 h6 h7 h8' h9
  rfl
def encF (r : Rc) (l : List (Nat × Int × Int)) : List UInt8 := (l.map fun p => putN (r.get p.1).toNat).flatten
/-- The encoding of a valid record. -/
def encR (r : Rc) : List UInt8 := putN r.kind.toNat ++ (putN r.version.toNat ++ (putN r.day.toNat ++ (putN (b01 r.gone).toNat ++ (encF r (specF r.kind) ++ (putN r.text.size ++ r.text.data.toList)))))
def keyR (r : Rc) : List UInt8 := putN r.kind.toNat ++ putN (r.get (keyF r.kind)).toNat
theorem encF_inj {r s : Rc} : ∀ (l : List (Nat × Int × Int)), (∀ p ∈ l, 0 ≤ r.get p.1 ∧ 0 ≤ s.get p.1) → ∀ {x y : List UInt8}, encF r l ++ x = encF s l ++ y → (∀ p ∈ l, r.get p.1 = s.get p.1) ∧ x = y
  | [], _, x, y, h => ⟨fun p hp => absurd hp (by simp), h⟩
  | p :: l, h0, x, y, h => by
    have e : ∀ r : Rc, encF r (p :: l) = putN (r.get p.1).toNat ++ encF r l := fun r => rfl
    rw [e r, e s, List.append_assoc, List.append_assoc] at h
    obtain ⟨h1, h2⟩ := putN_inj h
    obtain ⟨h3, h4⟩ := encF_inj l (fun q hq => h0 q (List.mem_cons_of_mem _ hq)) h2
    have h5 := h0 p (List.mem_cons_self ..)
    refine ⟨fun q hq => ?_, h4⟩
    rcases List.mem_cons.1 hq with rfl | hq
    · omega
    · exact h3 q hq
theorem spec_lo {k : Int} {p : Nat × Int × Int} (h : p ∈ specF k) : 0 ≤ p.2.1 ∧ p.1 < 10 := by
  unfold specF at h
  repeat' split at h
  all_goals (simp only [List.mem_cons, List.not_mem_nil, or_false] at h)
  all_goals (first | (rcases h with rfl | rfl | rfl | rfl | rfl | rfl | rfl | rfl <;> decide) | (rcases h with rfl | rfl | rfl | rfl | rfl | rfl <;> decide) | (rcases h with rfl | rfl | rfl | rfl | rfl <;> decide) | (rcases h with rfl | rfl | rfl | rfl <;> decide) | (rcases h with rfl | rfl <;> decide))
theorem enc_inj {r s : Rc} (hr : ValidR r) (hs : ValidR s) (h : encR r = encR s) : r = s := by
  unfold encR at h
  obtain ⟨h1, h⟩ := putN_inj h
  obtain ⟨h2, h⟩ := putN_inj h
  obtain ⟨h3, h⟩ := putN_inj h
  obtain ⟨h4, h⟩ := putN_inj h
  have hk : r.kind = s.kind := by have := hr.kind; have := hs.kind; omega
  rw [← hk] at h
  obtain ⟨h5, h⟩ := encF_inj _ (fun p hp => ⟨by have := (hr.lim p hp).1; have := (spec_lo hp).1; omega, by have := (hs.lim p (hk ▸ hp)).1; have := (spec_lo hp).1; omega⟩) h
  obtain ⟨h6, h⟩ := putN_inj h
  have hb : ∀ b, 0 ≤ b01 b := fun b => by cases b <;> decide
  refine Rc.ext_get hk (by have := hr.ver; have := hs.ver; omega) (by have := hr.day; have := hs.day; omega) (b01_inj (by have := hb r.gone; have := hb s.gone; omega)) (ByteArray_ext' h) fun i hi => ?_
  by_cases hm : i ∈ (specF r.kind).map Prod.fst
  · obtain ⟨p, hp, rfl⟩ := List.mem_map.1 hm
    exact h5 p hp
  · rw [hr.zero i hi hm, hs.zero i hi (hk ▸ hm)]
theorem key_inj {r s : Rc} (hr : ValidR r) (hs : ValidR s) (h0 : 0 ≤ r.get (keyF r.kind)) (h1 : 0 ≤ s.get (keyF s.kind)) (h : keyR r = keyR s) : r.kind = s.kind ∧ r.get (keyF r.kind) = s.get (keyF s.kind) := by
  unfold keyR at h
  obtain ⟨h2, h3⟩ := putN_inj h
  have h4 : putN (r.get (keyF r.kind)).toNat ++ [] = putN (s.get (keyF s.kind)).toNat ++ [] := by rw [h3]
  obtain ⟨h5, -⟩ := putN_inj h4
  have := hr.kind
  have := hs.kind
  exact ⟨by omega, by omega⟩
end Go.Sx


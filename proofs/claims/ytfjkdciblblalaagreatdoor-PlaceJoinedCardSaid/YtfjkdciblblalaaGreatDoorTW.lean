/- Chapter 18: what survives a disaster; the first of some numbers. -/
import Derived.Test.YtfjkdciblblalaaGreatDoorTE
namespace Go.Sx
open Go Go.Proofs Go.RowKit
theorem nodup_len : ∀ {l L : List Nat}, l.Nodup → (∀ x ∈ l, x ∈ L) → l.length ≤ L.length
  | [], _, _, _ => Nat.zero_le _
  | x :: l, L, h, hs => by
    rw [List.nodup_cons] at h
    have h1 := nodup_len (L := L.erase x) h.2 fun y hy => (List.mem_erase_of_ne fun e => h.1 (by rw [← e]; exact hy)).2 (hs y (List.Mem.tail _ hy))
    have hx := hs x (List.Mem.head _)
    rw [List.length_erase_of_mem hx] at h1
    have := List.length_pos_of_mem hx
    rw [List.length_cons]; omega
theorem filter_split (p : Nat → Bool) : ∀ l : List Nat, (l.filter p).length + (l.filter fun i => !p i).length = l.length
  | [] => rfl
  | x :: l => by
    have := filter_split p l
    cases hp : p x <;> simp [hp] <;> omega
theorem asc_nodup {l : List Nat} (h : l.Pairwise (· < ·)) : l.Nodup := h.imp fun h => Nat.ne_of_lt h
theorem mem_natI {l : List Nat} {i : Nat} : (i : Int) ∈ natI l ↔ i ∈ l := by
  unfold natI
  rw [List.mem_map]
  exact ⟨fun ⟨j, hj, e⟩ => Int.ofNat.inj e ▸ hj, fun h => ⟨i, h, rfl⟩⟩
/-- The first m of some numbers. -/
def firstL (x : Int) (n m : Nat) : List Nat := (somL x n).take (min (somL x n).length m)
theorem firstL_len (x : Int) (n m : Nat) : (firstL x n m).length ≤ m := by unfold firstL; rw [List.length_take]; omega
theorem natI_take (l : List Nat) (k : Nat) : natI (l.take k) = (natI l).take k := by simp [natI, List.map_take]
def strG (S : List St) (G : Nat → List Nat) : List Nat := struckL S (fun q => natI (G q)) S.length
theorem struckB_free {S : List St} {G : Nat → List Int} {i : Nat} : struckB S G i = !freeB (gS S) G i := by
  rw [Bool.eq_iff_iff, Bool.not_eq_true', ← Bool.not_eq_true, freeB_iff]
  unfold struckB
  rw [List.any_eq_true]
  constructor
  · rintro ⟨q, hq, h⟩ hn
    exact hn q (List.mem_range.1 hq) (by simpa using h)
  · intro h
    refine Classical.byContradiction fun hn => h fun q hq hm => hn ⟨q, List.mem_range.2 hq, by simpa using hm⟩
/-- Is the fragment of custodian i left? -/
def leftB (S : List St) (G : Nat → List Nat) (L : List Nat) (i : Nat) : Bool := decide (i ∉ strG S G) && decide (i ∉ L)
theorem survive {S : List St} {d : Di} {l : List Nat} {k : Int} {G : Nat → List Nat} {L : List Nat} (ha : l.Pairwise (· < ·)) (hl : ∀ i ∈ l, i < S.length) (hv : pvalid S d = true) (hs : (chk S d (natI l) k).2 = true)
    (hG : ∀ q, q < 4 → (G q).length ≤ d.left q) (hL : L.length ≤ d.m) : k ≤ ((l.filter (leftB S G L)).length : Int) := by
  rw [chk_c hv ha hl] at hs
  unfold chkC at hs
  rw [Bool.and_eq_true, decide_eq_true_eq, List.all_eq_true] at hs
  obtain ⟨⟨hk1, hk2⟩, hall⟩ := hs
  refine Classical.byContradiction fun hn => ?_
  have hm : (l.filter fun i => decide (i ∈ L)).length ≤ d.m := Nat.le_trans (nodup_len ((asc_nodup ha).filter _) fun x hx => of_decide_eq_true (List.mem_filter.1 hx).2) hL
  have hcount : (l.filter (leftB S G L)).length + (l.filter fun i => !leftB S G L i).length = l.length := filter_split _ l
  have hsame : (l.filter fun i => !leftB S G L i) = l.filter fun i => !freeB (gS S) (fun q => natI (G q)) i || decide (i ∈ L) := List.filter_congr fun i hi => by
    unfold leftB
    rw [← struckB_free]
    have e1 : decide (i ∉ strG S G) = !struckB S (fun q => natI (G q)) i := by
      rw [Bool.eq_iff_iff, decide_eq_true_eq, Bool.not_eq_true']
      unfold strG struckL
      rw [List.mem_filter, List.mem_range]
      constructor
      · intro h
        cases hb : struckB S (fun q => natI (G q)) i with
        | false => rfl
        | true => exact absurd ⟨hl i hi, hb⟩ h
      · rintro h ⟨-, h2⟩
        rw [h] at h2; cases h2
    rw [e1, decide_not]
    cases struckB S (fun q => natI (G q)) i <;> cases decide (i ∈ L) <;> rfl
  rw [hsame] at hcount
  obtain ⟨T', h1, h2, h3⟩ := hit_some (g := gS S) (T := l) (left := d.left) (m := d.m) (G := fun q => natI (G q)) (lie := fun i => decide (i ∈ L)) (fun q hq => by rw [natI_len]; exact hG q hq) hm (n := l.length - k.toNat + 1) (by omega)
  have h4 := hall T' (mem_combs.2 ⟨h1, h2⟩)
  rw [hitB_iff.2 h3] at h4
  cases h4
theorem filter_take_step {l : List Nat} {i : Nat} (p : Nat → Bool) (h : i < l.length) : ((l.take (i + 1)).filter p).length = ((l.take i).filter p).length + (if p l[i] = true then 1 else 0) := by
  rw [List.take_succ_eq_append_getElem h, List.filter_append, List.length_append]
  congr 1
  cases hp : p l[i] <;> simp [hp]
attribute [local irreducible] WC WL WX POp Then Again Fn NX W1 WA WO QL RP RA Yld LoopAt HC HL HX HN H1 HA HO HQ HB HP A.blk A.grow A.rd A.obj A.mp AgainH CutH
attribute [local irreducible] A.mq A.mit A.dfrs A.loop mapsA A.land A.pure chk best
theorem Mm.firstRd {w0 w : World} {H : List Atom} {a : Option Addr} {c n m : Nat} {x : Int} (hM : Mm w0 H w) (hm : A.grow 3 1 a c (somL x n).length (ints (natI (somL x n))) ∈ H) : Rd w (.slice a (min (somL x n).length m) c) (ints (natI (firstL x n m))) := by
  have h1 := hM.gr hm
  unfold firstL
  rw [natI_take]
  have h2 := Rd.ipre (l := natI (somL x n)) (a := a) (c := c) (k := min (somL x n).length m) (by rw [natI_len]; exact h1) (by rw [natI_len]; omega)
  exact h2
theorem Mm.firstFn {w0 w : World} {H : List Atom} {a : Option Addr} {c n : Nat} {x m : Int} (h0 : 0 ≤ m) (hn : n ≤ 9) (hM : Mm w0 H w) (hm : A.grow 3 1 a c (somL x n).length (ints (natI (somL x n))) ∈ H) :
    Fn Tryz.prog 16 #[.slice a (somL x n).length c, zv m] w fun u w' => u = .slice a (min (somL x n).length m.toNat) c ∧ w = w' := by
  have h1 := hM.gr hm
  have h2 := first_fn a c (natI (somL x n)) m h0 (by rw [natI_len]; have := somL_len x n; omega) w (by rw [natI_len]; exact h1)
  rw [natI_len] at h2
  exact h2
end Go.Sx


/- Chapter 27: a custodian: its state, and the small functions. -/
import Derived.Test.YtionfblneloaiaaGreatDoorYA
import Derived.Test.YtionfblneloaiaaGreatDoorJB
namespace Go.Sx
open Go Go.Proofs Go.RowKit
theorem hwYB {G G2 : Prop} (x : G2) (hwq : Hold G2 → G := by
    intro hQq
    repeat' (first | refine HL.pa ?_ (POp.pnil1 rfl rfl) | refine HL.pa ?_ (POp.pnil0 rfl rfl) | refine HL.pa ?_ (POp.nilCheck rfl) | apply HL.fold | apply HA.fold | apply HL.nil | apply HX.n_then | apply HC.seq | apply HC.region | refine HL.pa ?_ | refine HL.ga rfl ?_ | refine HL.na rfl ?_ | refine HL.nu rfl rfl ?_ | apply HC.block | apply HC.skip | apply HC.exit | apply HC.ret | apply HX.e_block | refine HX.e_other rfl ?_ | apply HX.e_then | apply HX.e_again | apply HX.n_block | apply HX.r_then | apply HX.r_block | apply HX.r_again | refine HC.cond_yes rfl ?_ | refine HC.cond_no rfl ?_ | refine HL.one (H1.ldb rfl memA rfl rfl ?_) | refine HC.cond rfl (fun hc => ?_) (fun hc => ?_) | refine HC.cond_b rfl (fun hc => ?_) (fun hc => ?_))
    exact hQq.get) : G := hwq ⟨x⟩
/-- A valid place. -/
def okP (p : PK) : Prop := 1 ≤ p.1 ∧ p.1 ≤ 1000000 ∧ 0 ≤ p.2 ∧ p.2 < 9
instance (p : PK) : Decidable (okP p) := by unfold okP; infer_instance
theorem pkV_cells (p : PK) : pkV p = .agg [zv p.1, zv p.2].toArray := rfl
/-- Numbers, written behind a string. -/
def putsB (s : ByteArray) : List Nat → ByteArray
  | [] => s
  | n :: l => putsB (s ++ strN n) l
def intsN (l : List Nat) : List Int := l.map fun n : Nat => (n : Int)
theorem intsN_get {l : List Nat} {i : Nat} (h : i < l.length) : (ints (intsN l))[i]? = some (zv ((l.getD i 0 : Nat) : Int)) := by
  simp [ints, intsN, h]
theorem putsB_snoc : ∀ (l : List Nat) (s : ByteArray) (n : Nat), putsB s (l ++ [n]) = putsB s l ++ strN n
  | [], _, _ => rfl
  | x :: l, s, n => putsB_snoc l (s ++ strN x) n
theorem putsB_size : ∀ (l : List Nat) (s : ByteArray), (∀ n ∈ l, n ≤ 1099511627776) → (putsB s l).size ≤ s.size + 9 * l.length
  | [], _, _ => Nat.le_refl _
  | x :: l, s, h => by
    have h1 := putsB_size l (s ++ strN x) fun n hn => h n (List.mem_cons_of_mem _ hn)
    have h2 := strN_size (h x (List.mem_cons_self ..))
    rw [ByteArray.size_append] at h1
    show (putsB (s ++ strN x) l).size ≤ s.size + 9 * (l.length + 1)
    omega
attribute [local irreducible] WC WL WX POp Then Again Fn NX W1 WA WO QL RP RA Yld LoopAt HC HL HX HN H1 HA HO HQ HB HP A.blk A.grow A.rd A.obj A.mp AgainH CutH
theorem isValid_fn (p : PK) (w : World) : Fn Tryz.prog 42 #[pkV p] w fun v w' => v = .bool (decide (okP p)) ∧ Ext w w' := by
  obtain ⟨o, f⟩ := p
  rw [pkV_cells]
  refine enterH (l := [_]) rfl Tryz.ntmps42 rfl ?_
  refine hwYB ?_
  refine HL.one (H1.boxAgg (cs := [zv o, zv f]) rfl rfl (fun b1 => ?_))
  by_cases h1 : 1 ≤ o
  · by_cases h2 : o ≤ 1000000
    · by_cases h3 : 0 ≤ f
      · by_cases h4 : f < 9
        · refine hwYB ?_
          exact HX.ret1 rfl rfl fun w' hM => ⟨by rw [decide_eq_true h4, decide_eq_true (p := okP (o, f)) ⟨h1, h2, h3, h4⟩], hM.ext⟩
        · refine hwYB ?_
          exact HX.ret1 rfl rfl fun w' hM => ⟨by rw [decide_eq_false h4, decide_eq_false (p := okP (o, f)) fun h => h4 h.2.2.2], hM.ext⟩
      · refine hwYB ?_
        exact HX.ret1 rfl rfl fun w' hM => ⟨by rw [decide_eq_false (p := okP (o, f)) fun h => h3 h.2.2.1], hM.ext⟩
    · refine hwYB ?_
      exact HX.ret1 rfl rfl fun w' hM => ⟨by rw [decide_eq_false (p := okP (o, f)) fun h => h2 h.2.1], hM.ext⟩
  · refine hwYB ?_
    exact HX.ret1 rfl rfl fun w' hM => ⟨by rw [decide_eq_false (p := okP (o, f)) fun h => h1 h.1], hM.ext⟩
theorem put27_fn (s : ByteArray) (l : List Nat) (v : Value) (hs : s.size ≤ 100000) (hn : ∀ n ∈ l, n ≤ 1099511627776) (hl : l.length ≤ 100) (w : World) (hR : Rd w v (ints (intsN l))) :
    Fn Tryz.prog 45 #[.string s, v] w fun v w' => v = .string (putsB s l) ∧ Ext w w' := by
  obtain ⟨a0, c0, rfl, hc0⟩ : ∃ a0 c0, v = .slice a0 l.length c0 ∧ l.length ≤ c0 := by
    obtain ⟨a, c, h1, h2, -⟩ := hR
    rw [ints_len] at h1 h2
    have : (intsN l).length = l.length := by simp [intsN]
    rw [this] at h1 h2
    exact ⟨a, c, h1, h2⟩
  refine enterH (l := [_, _]) rfl Tryz.ntmps45 rfl ?_
  refine hwYB ?_
  refine HC.loop (α := Nat) (fun i => [(0, .string (putsB s (l.take i))), (9, .slice a0 l.length c0), (10, zv (l.length : Int)), (11, zv (i : Int))]) (fun _ => []) (fun i => i ≤ l.length) (fun i => l.length - i) 0 (Nat.zero_le _) esA (Hs.refl _) ?_
  intro i hi
  by_cases hlt : i < l.length
  · obtain ⟨b, off, rfl⟩ : ∃ b off, a0 = some ⟨b, off, none⟩ := by
      obtain ⟨a, c, h1, h2, h3⟩ := hR
      have : (intsN l).length = l.length := by simp [intsN]
      rw [ints_len, this] at h1
      cases h1
      rcases h3 with h3 | ⟨b, off, h4, -⟩
      · have : l = [] := by simpa [ints, intsN] using h3
        subst this; cases hlt
      · exact ⟨b, off, h4⟩
    have hget := hR.cell (intsN_get hlt)
    have htk : l.take (i + 1) = l.take i ++ [l.getD i 0] := by
      rw [List.take_add_one, List.getElem?_eq_getElem hlt]
      simp [hlt]
    have hmem : l.getD i 0 ∈ l := by simp [hlt]
    have hnn := hn _ hmem
    have hsn := putsB_snoc (l.take i) s (l.getD i 0)
    rw [← htk] at hsn
    have hsz := putsB_size (l.take i) s fun n h => hn n (List.mem_of_mem_take h)
    rw [List.length_take] at hsz
    generalize l.getD i 0 = n at hget hnn hsn
    have hns := strN_size hnn
    refine hwYB ?_
    refine HL.one (H1.ld0 rfl hget rfl ?_)
    refine hwYB ?_
    refine HL.one (H1.callx (vs := [zv (n : Int)]) rfl rfl (fun w' _ => putInt_fn n hnn w') ?_)
    refine hwYB ?_
    rw [← hsn]
    refine hwYB ?_
    exact HX.again (i + 1) hlt (by show l.length - (i + 1) < l.length - i; omega) esA (Hs.refl _)
  · obtain rfl : i = l.length := by omega
    rw [List.take_length]
    refine hwYB ?_
    exact HX.ret1 rfl rfl fun w' hM => ⟨rfl, hM.ext⟩
end Go.Sx


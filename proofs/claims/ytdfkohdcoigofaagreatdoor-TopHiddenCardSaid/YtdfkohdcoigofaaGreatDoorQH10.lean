/- TopHidden: the documents that integers determine: the walk. -/
import Derived.Test.YtdfkohdcoigofaaGreatDoorQH09
import Derived.Test.YtdfkohdcoigofaaGreatDoorRows
import Derived.ProofKit
import Derived.OpenShut
import Derived.LaidMore
import Derived.Lay
import Derived.SevenTiedAt
import Derived.Stop.Joined
import Derived.Deep.Onto
import Derived.Laws.IdiomArrays
import Derived.Carry
import Derived.Test.YtdfkohdcoigofaaGreatDoorTie
import Derived.Lib.LaidTab
import Derived.Stop.LaidErr
namespace Go.Sx
open Go Go.Proofs Go.RowKit
theorem hwG6 {G G2 : Prop} (x : G2) (hwq : Hold G2 → G := by
    intro hQq
    repeat' (first | refine HL.pa ?_ (POp.nilCheck rfl) | apply HL.fold | apply HA.fold | apply HL.nil | apply HX.n_then | apply HC.seq | apply HC.region | refine HL.pa ?_ | refine HL.ga rfl ?_ | refine HL.na rfl ?_ | refine HL.nu rfl rfl ?_ | apply HC.block | apply HC.skip | apply HC.exit | apply HC.ret | apply HX.e_block | refine HX.e_other rfl ?_ | apply HX.e_then | apply HX.e_again | apply HX.n_block | apply HX.r_then | apply HX.r_block | apply HX.r_again | refine HC.cond_yes rfl ?_ | refine HC.cond_no rfl ?_ | refine HL.one (H1.ldb rfl memA rfl rfl ?_) | refine HC.cond rfl (fun hc => ?_) (fun hc => ?_) | refine HC.cond_b rfl (fun hc => ?_) (fun hc => ?_))
    exact hQq.get) : G := hwq ⟨x⟩
theorem hnG6 {G G2 : Prop} (x : G2) (hwq : Hold G2 → G := by
    intro hQq
    repeat' (first | refine HL.pa ?_ (POp.nilCheck rfl) | apply HL.fold | apply HA.fold | apply HL.nil | apply HX.n_then | apply HC.seq | apply HC.region | refine HL.pa ?_ | refine HL.ga rfl ?_ | refine HL.na rfl ?_ | refine HL.nu rfl rfl ?_ | apply HC.block | apply HC.skip | apply HC.exit | apply HC.ret | apply HX.e_block | refine HX.e_other rfl ?_ | apply HX.e_then | apply HX.e_again | apply HX.n_block | apply HX.r_then | apply HX.r_block | apply HX.r_again | refine HC.cond_yes rfl ?_ | refine HC.cond_no rfl ?_ | refine HL.one (H1.ldb rfl memA rfl rfl ?_))
    exact hQq.get) : G := hwq ⟨x⟩
theorem hbG6 {G G2 : Prop} (x : G2) (hwq : Hold G2 → G := by
    intro hQq
    repeat' (first | refine HL.pa ?_ (POp.nilCheck rfl) | apply HL.fold | apply HA.fold | apply HL.nil | apply HX.n_then | apply HC.seq | apply HC.region | refine HL.pa ?_ | refine HL.ga rfl ?_ | refine HL.na rfl ?_ | refine HL.nu rfl rfl ?_ | apply HC.skip | apply HC.exit | apply HC.ret | apply HX.e_block | refine HX.e_other rfl ?_ | apply HX.e_then | apply HX.e_again | apply HX.n_block | apply HX.r_then | apply HX.r_block | apply HX.r_again | refine HC.cond_yes rfl ?_ | refine HC.cond_no rfl ?_ | refine HL.one (H1.ldb rfl memA rfl rfl ?_) | refine HC.cond rfl (fun hc => ?_) (fun hc => ?_) | refine HC.cond_b rfl (fun hc => ?_) (fun hc => ?_))
    exact hQq.get) : G := hwq ⟨x⟩
theorem ab_sb (i : Nat) (h : i < 6) : ∃ b : UInt8, sb ⟨#[97, 66, 32, 99, 32, 68]⟩ i = b.toNat ∧ 32 ≤ b.toNat ∧ b.toNat ≤ 126 := by
  match i, h with
  | 0, _ => exact ⟨97, rfl, by decide, by decide⟩
  | 1, _ => exact ⟨66, rfl, by decide, by decide⟩
  | 2, _ => exact ⟨32, rfl, by decide, by decide⟩
  | 3, _ => exact ⟨99, rfl, by decide, by decide⟩
  | 4, _ => exact ⟨32, rfl, by decide, by decide⟩
  | 5, _ => exact ⟨68, rfl, by decide, by decide⟩
/-- A text while it is made: what is left of the number, and so many bytes. -/
structure TxI (s : ByteArray) (n : Nat) : Prop where
  ok : TxB s
  sz : ∃ m, s.size + m = 8 ∧ n < 6 ^ m
theorem TxI.zero {n : Nat} (h : n < 1000000) : TxI ⟨#[]⟩ n := ⟨TxB.nil, 8, rfl, Nat.lt_of_lt_of_le h (by decide)⟩
theorem TxI.step {s : ByteArray} {n : Nat} (h : TxI s n) (hn : 0 < n) {b : UInt8} (hb : 32 ≤ b.toNat ∧ b.toNat ≤ 126) : TxI (s ++ mkB b) (n / 6) := by
  obtain ⟨m, h1, h2⟩ := h.sz
  refine ⟨h.ok.cat fun c hc => ?_, ?_⟩
  · have : c = b := by simpa [mkB] using hc
    rw [this]; exact hb
  · cases m with
    | zero => rw [Nat.pow_zero] at h2; omega
    | succ m =>
      refine ⟨m, ?_, ?_⟩
      · have : (s ++ mkB b).size = s.size + 1 := ByteArray.size_append
        omega
      · rw [Nat.pow_succ] at h2
        exact Nat.div_lt_of_lt_mul (by rw [Nat.mul_comm]; exact h2)
theorem TxI.size {s : ByteArray} {n : Nat} (h : TxI s n) : s.size ≤ 8 := by obtain ⟨m, h1, -⟩ := h.sz; omega
theorem TxI.line {s : ByteArray} {n : Nat} (h : TxI s n) {m : Int} (hm : 0 ≤ m ∧ m ≤ 7) : LnOk (s, m) := ⟨Nat.le_trans h.size (by decide), h.ok.idx, hm⟩
theorem cellOk_sum {k : Int} (hk : 0 ≤ k ∧ k < 25) {t l : Int} (ht : 0 ≤ t ∧ t ≤ k / 5) (hl : 0 ≤ l ∧ l ≤ k % 5) : ClOk ⟨k / 5, k % 5, true, 0, t, l⟩ :=
  ⟨(by show 0 ≤ k / 5 ∧ k / 5 ≤ 31; omega), (by show 0 ≤ k % 5 ∧ k % 5 ≤ 31; omega), fun _ => ⟨rfl, ht, hl⟩, (fun h => by cases h)⟩
theorem cellOk_con {k : Int} (hk : 0 ≤ k ∧ k < 25) {v : Int} (hv : -100 ≤ v ∧ v ≤ 100) : ClOk ⟨k / 5, k % 5, false, v, 0, 0⟩ :=
  ⟨(by show 0 ≤ k / 5 ∧ k / 5 ≤ 31; omega), (by show 0 ≤ k % 5 ∧ k % 5 ≤ 31; omega), (fun h => by cases h), fun _ => ⟨(by show -1000000 ≤ v ∧ v ≤ 1000000; omega), rfl, rfl⟩⟩
/-- Bits of a raster while it is made. -/
def BinB (s : ByteArray) : Prop := ∀ b ∈ s.data.toList, b = 48 ∨ b = 49
theorem BinB.snoc {s : ByteArray} (h : BinB s) {b : UInt8} (hb : b = 48 ∨ b = 49) : BinB (s ++ mkB b) := fun c hc => by
  rw [ByteArray.data_append, Array.toList_append] at hc
  rcases List.mem_append.1 hc with hc | hc
  · exact h c hc
  · have : c = b := by simpa [mkB] using hc
    rw [this]; exact hb
/-- A document, as it lies. -/
def dcC (v1 v2 : Value) (wd : Int) (bits : ByteArray) : List Value := [v1, v2, zv wd, .string bits]
def dcZ : List Value := dcC (.slice none 0 0) (.slice none 0 0) 0 ⟨#[]⟩
def clZ : Cl := ⟨0, 0, false, 0, 0, 0⟩
theorem two06 {y : List Int} (h : y.length = 2) : ∃ a b, y = [a, b] := by
  match y, h with
  | [a, b], _ => exact ⟨a, b, rfl⟩
theorem three06 {y : List Int} (h : y.length = 3) : ∃ a b c, y = [a, b, c] := by
  match y, h with
  | [a, b, c], _ => exact ⟨a, b, c, rfl⟩
/-- A document that was made: where it lies, and what it holds. -/
structure DcZ where
  al : Option Addr
  cl : Nat
  ac : Option Addr
  cc : Nat
  nl : Nat
  nc : Nat
  wd : Nat
  bits : ByteArray
  L : Nat → ByteArray × Int
  C : Nat → Cl
def dcL (z : DcZ) : List Value := dcC (.slice z.al z.nl z.cl) (.slice z.ac z.nc z.cc) (z.wd : Int) z.bits
theorem dcL_one (z : DcZ) : ∀ v ∈ dcL z, v.oneCell' = true := by
  intro v hv
  simp only [dcL, dcC, List.mem_cons, List.not_mem_nil, or_false] at hv
  rcases hv with rfl | rfl | rfl | rfl <;> rfl
def dcA (z : DcZ) : List Atom := [A.grow 72 6 z.ac z.cc z.nc (flatC (fun j => clC (z.C j)) z.nc), A.grow 66 2 z.al z.cl z.nl (flatC (fun j => lnC (z.L j)) z.nl)]
structure DcOk (z : DcZ) : Prop where
  nlle : z.nl ≤ 6
  ncle : z.nc ≤ 25
  ln : ∀ i, i < z.nl → LnOk (z.L i)
  cl : ∀ i, i < z.nc → ClOk (z.C i)
  asc : ClAsc z.C z.nc
  ra : RaOk z.wd z.bits
attribute [local irreducible] WC WL WX POp Then Again Fn NX W1 WA WO QL RP RA Yld LoopAt HC HL HX HN H1 HA HO HQ HB HP A.blk A.grow A.rd A.obj A.mp AgainH CutH
attribute [local irreducible] A.mq A.mit A.dfr A.loop
theorem pick06_fn (c n : Int) (h1 : -9223372036854775808 ≤ c) (h2 : c ≤ 9223372036854775807) (hn : 0 < n) (w : World) : Fn Tryz.prog 99 #[zv c, zv n] w fun v w' => v = zv (pickI21 c n) ∧ w = w' := by
  refine enter (l := [_, _]) rfl Tryz.ntmps99 rfl ?_
  by_cases h : c < 0
  · repeat' (first | apply WL.fold | apply WA.fold | apply WL.nil | apply WX.n_then | apply WC.seq | apply WC.region | refine WL.pa ?_ | refine WL.ga rfl ?_ | refine WL.na rfl ?_ | refine WL.nu rfl rfl ?_ | apply WC.block | apply WC.skip | apply WC.exit | apply WC.ret | apply WX.e_block | refine WX.e_other rfl ?_ | apply WX.e_then | apply WX.e_again | apply WX.n_block | apply WX.r_then | apply WX.r_block | apply WX.r_again | refine WC.cond_yes rfl ?_ | refine WC.cond_no rfl ?_ | refine WC.cond rfl (fun hc => ?_) (fun hc => ?_) | refine WC.cond_b rfl (fun hc => ?_) (fun hc => ?_))
    exact WX.ret1 rfl rfl ⟨by rw [pickI21, if_pos h], rfl⟩
  · repeat' (first | apply WL.fold | apply WA.fold | apply WL.nil | apply WX.n_then | apply WC.seq | apply WC.region | refine WL.pa ?_ | refine WL.ga rfl ?_ | refine WL.na rfl ?_ | refine WL.nu rfl rfl ?_ | apply WC.block | apply WC.skip | apply WC.exit | apply WC.ret | apply WX.e_block | refine WX.e_other rfl ?_ | apply WX.e_then | apply WX.e_again | apply WX.n_block | apply WX.r_then | apply WX.r_block | apply WX.r_again | refine WC.cond_yes rfl ?_ | refine WC.cond_no rfl ?_ | refine WC.cond rfl (fun hc => ?_) (fun hc => ?_) | refine WC.cond_b rfl (fun hc => ?_) (fun hc => ?_))
    exact WX.ret1 rfl rfl ⟨by rw [pickI21, if_neg h], rfl⟩
set_option maxHeartbeats 16000000 in
theorem made06_fn (vl vx : Value) (ls xs : List (List Int)) (r0 r1 : Int) (w0 : i64W r0) (w1 : i64W r1) (hls : ∀ y ∈ ls, y.length = 2 ∧ ∀ z ∈ y, i64W z) (hxs : ∀ y ∈ xs, y.length = 3 ∧ ∀ z ∈ y, i64W z) (w : World) (hRl : RdA 2 w vl ls) (hRx : RdA 3 w vx xs) :
    Fn Tryz.prog 43 #[vl, vx, .agg #[zv r0, zv r1]] w fun u w' => ∃ z : DcZ, DcOk z ∧ u = .agg (dcL z).toArray ∧ Mm w (dcA z) w' := by
  obtain ⟨al, cl, rfl, -⟩ := hRl.shape
  obtain ⟨ax, cx, rfl, -⟩ := hRx.shape
  refine enterH (l := [_, _, _]) rfl Tryz.ntmps43 rfl ?_
  refine hbG6 ?_
  refine HL.one (H1.boxAgg (cs := ints [r0, r1]) rfl rfl (fun b5 => ?_))
  refine hbG6 ?_
  refine HL.one (H1.alloc (cs := dcZ) rfl rfl (fun b6 => ?_))
  refine hbG6 ?_
  refine HL.build (parts := []) (pv := []) (cs := dcZ) rfl rfl rfl ?_
  refine hbG6 ?_
  refine HL.one (H1.alloc (cs := dcZ) rfl rfl (fun b7 => ?_))
  refine hbG6 ?_
  refine HL.one (H1.stAgg (b := b7) (cs := dcZ) (vs := dcZ) rfl rfl rfl (by intro v hv; simp only [dcZ, dcC, List.mem_cons, List.not_mem_nil, or_false] at hv; rcases hv with rfl | rfl | rfl | rfl <;> rfl) rplA rfl ?_)
  refine hbG6 ?_
  refine HC.cut (α := Nat × (Nat → ByteArray × Int) × Option Addr × Nat) (fun q => [(1, .slice ax xs.length cx), (5, .pointer (some ⟨b5, 0, none⟩)), (6, .pointer (some ⟨b6, 0, none⟩)), (7, .pointer (some ⟨b7, 0, none⟩))])
    (fun q => [A.grow 66 2 q.2.2.1 q.2.2.2 q.1 (flatC (fun j => lnC (q.2.1 j)) q.1), A.blk b7 (dcC (.slice q.2.2.1 q.1 q.2.2.2) (.slice none 0 0) 0 ⟨#[]⟩) 54, A.blk b6 dcZ 54, A.blk b5 (ints [r0, r1]) 48]) (fun q => q.1 ≤ 6 ∧ ∀ j, j < q.1 → LnOk (q.2.1 j)) ?_ ?_
  · refine hwG6 ?_
    refine HC.grow0 66 2 ?_
    refine HC.loop (α := Nat × (Nat → ByteArray × Int) × Option Addr × Nat) (fun q => [(0, .slice al ls.length cl), (1, .slice ax xs.length cx), (5, .pointer (some ⟨b5, 0, none⟩)), (6, .pointer (some ⟨b6, 0, none⟩)), (7, .pointer (some ⟨b7, 0, none⟩)), (8, zv (q.1 : Int))])
      (fun q => [A.grow 66 2 q.2.2.1 q.2.2.2 q.1 (flatC (fun j => lnC (q.2.1 j)) q.1), A.blk b7 (dcC (.slice q.2.2.1 q.1 q.2.2.2) (.slice none 0 0) 0 ⟨#[]⟩) 54, A.blk b6 dcZ 54, A.blk b5 (ints [r0, r1]) 48]) (fun q => q.1 ≤ ls.length ∧ q.1 ≤ 6 ∧ ∀ j, j < q.1 → LnOk (q.2.1 j)) (fun q => 6 - q.1) (0, (fun _ => (⟨#[]⟩, 0)), none, 0) ⟨Nat.zero_le _, Nat.zero_le _, fun j hj => absurd hj (Nat.not_lt_zero _)⟩ esA (by repeat (first | exact Hs.nil _ | (refine Hs.cons pickA ?_))) ?_
    rintro ⟨i, L, a, c⟩ ⟨hi1, hi2, hok⟩
    dsimp only at hi1 hi2 hok ⊢
    by_cases hlt : i < ls.length
    rotate_left
    · have h1 : ¬ (i : Int) < (ls.length : Int) := by omega
      refine hwG6 ?_
      exact HX.cut (i, L, a, c) ⟨hi2, hok⟩ esA (by repeat (first | exact Hs.nil _ | (refine Hs.cons pickA ?_)))
    have h1 : (i : Int) < (ls.length : Int) := by omega
    by_cases h6 : i < 6
    rotate_left
    · have h2 : ¬ (i : Int) < 6 := by omega
      refine hwG6 ?_
      exact HX.cut (i, L, a, c) ⟨hi2, hok⟩ esA (by repeat (first | exact Hs.nil _ | (refine Hs.cons pickA ?_)))
    have h2 : (i : Int) < 6 := by omega
    obtain ⟨y, hy⟩ : ∃ y, ls[i]? = some y := ⟨_, List.getElem?_eq_getElem hlt⟩
    have hy2 := hls y (List.mem_of_getElem? hy)
    obtain ⟨bl, off, rfl, -, hcell⟩ := hRl.at (fun e => by rw [e] at hlt; exact absurd hlt (Nat.not_lt_zero _))
    have hcl := hcell i y hy
    clear hcell
    obtain ⟨y0, y1, rfl⟩ := two06 hy2.1
    have u0 := hy2.2 y0 (by simp)
    have u1 := hy2.2 y1 (by simp)
    have hc0 : w.cell? ⟨bl, off + i * 2, none⟩ = some (zv y0) := hcl 0 _ rfl
    have hc1 : w.cell? ⟨bl, off + i * 2 + 1, none⟩ = some (zv y1) := hcl 1 _ rfl
    clear hcl hy hy2
    have q0 := pickI21_lt y0 (n := 1000000) (by decide)
    have q1 := pickI21_lt y1 (n := 8) (by decide)
    refine hwG6 ?_
    refine HL.one (H1.ld0 rfl hc0 rfl ?_)
    refine hwG6 ?_
    refine HL.one (H1.call0 (vs := [zv y0, zv 1000000]) rfl rfl (fun w' _ => pick06_fn y0 1000000 u0.1 u0.2 (by decide) w') ?_)
    obtain ⟨n0, hn0⟩ : ∃ n : Nat, pickI21 y0 1000000 = (n : Int) := ⟨_, (Int.toNat_of_nonneg q0.1).symm⟩
    rw [hn0] at q0 ⊢
    clear hn0
    refine hbG6 ?_
    refine HC.cut (α := ByteArray × Nat) (fun q => [(0, .slice (some ⟨bl, off, none⟩) ls.length cl), (1, .slice ax xs.length cx), (5, .pointer (some ⟨b5, 0, none⟩)), (6, .pointer (some ⟨b6, 0, none⟩)), (7, .pointer (some ⟨b7, 0, none⟩)), (8, zv (i : Int)), (10, .string q.1)])
      (fun q => [A.grow 66 2 a c i (flatC (fun j => lnC (L j)) i), A.blk b7 (dcC (.slice a i c) (.slice none 0 0) 0 ⟨#[]⟩) 54, A.blk b6 dcZ 54, A.blk b5 (ints [r0, r1]) 48]) (fun q => TxI q.1 q.2) ?_ ?_
    · refine hwG6 ?_
      refine HC.loop (α := ByteArray × Nat) (fun q => [(0, .slice (some ⟨bl, off, none⟩) ls.length cl), (1, .slice ax xs.length cx), (5, .pointer (some ⟨b5, 0, none⟩)), (6, .pointer (some ⟨b6, 0, none⟩)), (7, .pointer (some ⟨b7, 0, none⟩)), (8, zv (i : Int)), (9, zv (q.2 : Int)), (10, .string q.1)])
        (fun q => [A.grow 66 2 a c i (flatC (fun j => lnC (L j)) i), A.blk b7 (dcC (.slice a i c) (.slice none 0 0) 0 ⟨#[]⟩) 54, A.blk b6 dcZ 54, A.blk b5 (ints [r0, r1]) 48]) (fun q => TxI q.1 q.2) (fun q => q.2) (⟨#[]⟩, n0) (TxI.zero (by omega)) esA (by repeat (first | exact Hs.nil _ | (refine Hs.cons pickA ?_))) ?_
      rintro ⟨s, n⟩ hI
      dsimp only at hI ⊢
      by_cases hn : 0 < n
      rotate_left
      · have hn' : ¬ ((n : Nat) : Int) > 0 := by omega
        refine hwG6 ?_
        exact HX.cut (s, n) hI esA (by repeat (first | exact Hs.nil _ | (refine Hs.cons pickA ?_)))
      have hn' : ((n : Nat) : Int) > 0 := by omega
      have hn0 : (0 : Int) ≤ (n : Int) := by omega
      have hsz := hI.size
      have hnb : n < 1679616 := by
        obtain ⟨m, h1, h2⟩ := hI.sz
        exact Nat.lt_of_lt_of_le h2 (Nat.pow_le_pow_right (by decide) (show m ≤ 8 by omega))
      have hmod : ((n : Nat) : Int) % 6 = ((n % 6 : Nat) : Int) := by omega
      have hdiv : ((n : Nat) : Int) / 6 = ((n / 6 : Nat) : Int) := by omega
      obtain ⟨b, hb, hb1⟩ := ab_sb (n % 6) (Nat.mod_lt _ (by decide))
      have h6s : n % 6 < (ByteArray.mk #[97, 66, 32, 99, 32, 68]).size := Nat.mod_lt _ (by decide)
      have hst := hI.step hn hb1
      have hbs : (mkB b).size = 1 := rfl
      refine hnG6 ?_
      rw [hmod]
      refine HL.pa ?_ ((POp.index_string rfl rfl rfl h6s).of (congrArg (fun k : Nat => Value.int .u8 (k : Int)) hb))
      refine hnG6 ?_
      refine HL.one (H1.lit (cs := ub [b]) rfl rfl rfl rfl rfl rfl (fun b9 => ?_))
      refine hnG6 ?_
      refine HL.one (H1.bstrB (ys := [b]) (b := b9) (c := 1) rfl memA rfl ?_)
      refine hnG6 ?_
      refine HL.pa (v := .string (s ++ mkB b)) ?_ (POp.cat rfl rfl (by show s.size + 1 ≤ _; omega))
      refine hnG6 ?_
      rw [hdiv]
      refine hwG6 ?_
      exact HX.again (s ++ mkB b, n / 6) hst (by show n / 6 < n; omega) esA (by repeat (first | exact Hs.nil _ | (refine Hs.cons pickA ?_)))
    rintro ⟨s, n⟩ hI
    dsimp only at hI ⊢
    have hupd := flatC_upd lnC L i (s, pickI21 y1 8)
    have hokS : ∀ j, j < i + 1 → LnOk (updF L i (s, pickI21 y1 8) j) := fun j hj => by
      by_cases e : j = i
      · rw [e, updF_same]; exact hI.line (by omega)
      · rw [updF_ne L _ e]; exact hok j (by omega)
    refine hwG6 ?_
    refine HC.anyU ([(13, ⟨b7, 0, none⟩, .slice a i c), (13, ⟨bl, off + i * 2 + 1, none⟩, zv y1)]) rfl ?_
    refine HU.pa 0 rfl ?_
    refine HU.ld 1 rfl rfl memD ?_
    refine HU.pa 2 rfl ?_
    refine HU.pa 3 rfl ?_
    refine HU.pa 4 rfl ?_
    refine HU.pa 5 rfl ?_
    refine HU.pa 6 rfl ?_
    refine HU.ld 7 rfl rfl memD ?_
    refine HU.all (by (first | refine KeepU.blk (by (repeat (first | exact List.Mem.head _ | apply List.Mem.tail)); done) rfl ?_ | refine KeepU.grow (by (repeat (first | exact List.Mem.head _ | apply List.Mem.tail)); done) (by assumption) ?_ | refine KeepU.base (by assumption) ?_); (first | refine KeepU.blk (by (repeat (first | exact List.Mem.head _ | apply List.Mem.tail)); done) rfl ?_ | refine KeepU.grow (by (repeat (first | exact List.Mem.head _ | apply List.Mem.tail)); done) (by assumption) ?_ | refine KeepU.base (by assumption) ?_); exact KeepU.nil) [8] (by kernel_rfl) rfl ⟨⟨_, rfl, ?_⟩, trivial⟩
    refine HV.one ?_
    refine H1.call0 (vs := [zv y1, zv 8]) rfl rfl (fun w' _ => pick06_fn y1 8 u1.1 u1.2 (by decide) w') ?_
    apply HU.fold
    refine HU.pa 9 rfl ?_ (POp.build (cs := lnC (s, pickI21 y1 8)) rfl rfl)
    refine HU.all (by (first | refine KeepU.blk (by (repeat (first | exact List.Mem.head _ | apply List.Mem.tail)); done) rfl ?_ | refine KeepU.grow (by (repeat (first | exact List.Mem.head _ | apply List.Mem.tail)); done) (by assumption) ?_ | refine KeepU.base (by assumption) ?_); (first | refine KeepU.blk (by (repeat (first | exact List.Mem.head _ | apply List.Mem.tail)); done) rfl ?_ | refine KeepU.grow (by (repeat (first | exact List.Mem.head _ | apply List.Mem.tail)); done) (by assumption) ?_ | refine KeepU.base (by assumption) ?_); exact KeepU.nil) [10] (by kernel_rfl) rfl ⟨⟨_, rfl, ?_⟩, trivial⟩
    refine HV.one ?_
    refine H1.lit (cs := lnC (s, pickI21 y1 8)) rfl rfl rfl rfl rfl rfl (fun b9 => ?_)
    apply HU.fold
    refine HU.all (by (first | refine KeepU.blk (by (repeat (first | exact List.Mem.head _ | apply List.Mem.tail)); done) rfl ?_ | refine KeepU.grow (by (repeat (first | exact List.Mem.head _ | apply List.Mem.tail)); done) (by assumption) ?_ | refine KeepU.base (by assumption) ?_); (first | refine KeepU.blk (by (repeat (first | exact List.Mem.head _ | apply List.Mem.tail)); done) rfl ?_ | refine KeepU.grow (by (repeat (first | exact List.Mem.head _ | apply List.Mem.tail)); done) (by assumption) ?_ | refine KeepU.base (by assumption) ?_); exact KeepU.nil) [11] (by kernel_rfl) rfl ⟨⟨_, rfl, ?_⟩, trivial⟩
    refine HV.one ?_
    refine H1.appK (sz := 2) (bs := b9) (news := lnC (s, pickI21 y1 8)) (by rfl) (by decide) rfl rfl (fun _ _ => by first | ((repeat (first | with_reducible exact Rpl.here | with_reducible apply Rpl.there)); done) | (repeat (first | exact Rpl.here | apply Rpl.there))) memA rfl (lnC_one _) (by omega) (by decide) rfl (fun a' c' => ?_)
    rw [← hupd]
    apply HU.fold
    refine HU.pa 12 rfl ?_
    refine HU.all (by (first | refine KeepU.blk (by (repeat (first | exact List.Mem.head _ | apply List.Mem.tail)); done) rfl ?_ | refine KeepU.grow (by (repeat (first | exact List.Mem.head _ | apply List.Mem.tail)); done) (by assumption) ?_ | refine KeepU.base (by assumption) ?_); (first | refine KeepU.blk (by (repeat (first | exact List.Mem.head _ | apply List.Mem.tail)); done) rfl ?_ | refine KeepU.grow (by (repeat (first | exact List.Mem.head _ | apply List.Mem.tail)); done) (by assumption) ?_ | refine KeepU.base (by assumption) ?_); exact KeepU.nil) [13] (by kernel_rfl) rfl ⟨⟨_, rfl, ?_⟩, trivial⟩
    refine HV.one ?_
    refine H1.st (b := b7) rfl rfl (by intro _ h; cases h) (by intro _ h; cases h) rplA (by show 0 < 4; decide) ?_
    apply HU.fold
    refine HU.done (by refine KeepU.skip (by kernel_rfl) ?_; refine KeepU.skip (by kernel_rfl) ?_; exact KeepU.nil) (by kernel_rfl) ?_
    refine hwG6 ?_
    exact HX.again (i + 1, updF L i (s, pickI21 y1 8), some ⟨a', 0, none⟩, c') ⟨hlt, by show i + 1 ≤ 6; omega, hokS⟩ (by show 6 - (i + 1) < 6 - i; omega) esA (by repeat (first | exact Hs.nil _ | (refine Hs.cons pickA ?_)))
  rintro ⟨nl, L, a, c⟩ ⟨hnl, hL⟩
  dsimp only at hnl hL ⊢
  refine hbG6 ?_
  refine HC.cut (α := Nat × (Nat → Cl) × Option Addr × Nat) (fun q => [(5, .pointer (some ⟨b5, 0, none⟩)), (6, .pointer (some ⟨b6, 0, none⟩)), (7, .pointer (some ⟨b7, 0, none⟩))])
    (fun q => [A.grow 72 6 q.2.2.1 q.2.2.2 q.1 (flatC (fun j => clC (q.2.1 j)) q.1), A.grow 66 2 a c nl (flatC (fun j => lnC (L j)) nl), A.blk b7 (dcC (.slice a nl c) (.slice q.2.2.1 q.1 q.2.2.2) 0 ⟨#[]⟩) 54, A.blk b6 dcZ 54, A.blk b5 (ints [r0, r1]) 48]) (fun q => q.1 ≤ 25 ∧ ∃ k, MadeC q.2.1 q.1 k) ?_ ?_
  · refine hwG6 ?_
    refine HC.grow0 72 6 ?_
    refine HC.loop (α := Nat × Int × (Nat → Cl) × Option Addr × Nat) (fun q => [(1, .slice ax xs.length cx), (5, .pointer (some ⟨b5, 0, none⟩)), (6, .pointer (some ⟨b6, 0, none⟩)), (7, .pointer (some ⟨b7, 0, none⟩)), (11, zv q.2.1), (12, zv (q.1 : Int))])
      (fun q => [A.grow 72 6 q.2.2.2.1 q.2.2.2.2 q.1 (flatC (fun j => clC (q.2.2.1 j)) q.1), A.grow 66 2 a c nl (flatC (fun j => lnC (L j)) nl), A.blk b7 (dcC (.slice a nl c) (.slice q.2.2.2.1 q.1 q.2.2.2.2) 0 ⟨#[]⟩) 54, A.blk b6 dcZ 54, A.blk b5 (ints [r0, r1]) 48])
      (fun q => q.1 ≤ xs.length ∧ q.2.1 ≤ 27 ∧ q.1 ≤ 25 ∧ MadeC q.2.2.1 q.1 q.2.1) (fun q => 25 - q.1) (0, 0, (fun _ => clZ), none, 0) ⟨Nat.zero_le _, by show (0 : Int) ≤ 27; decide, Nat.zero_le _, MadeC.zero _⟩ esA (by repeat (first | exact Hs.nil _ | (refine Hs.cons pickA ?_))) ?_
    rintro ⟨i, k, C, a2, c2⟩ ⟨hi1, hk27, hi25, hI⟩
    dsimp only at hi1 hk27 hi25 hI ⊢
    have hle := hI.le
    by_cases hlt : i < xs.length
    rotate_left
    · have h1 : ¬ (i : Int) < (xs.length : Int) := by omega
      refine hwG6 ?_
      exact HX.cut (i, C, a2, c2) ⟨hi25, k, hI⟩ esA (by repeat (first | exact Hs.nil _ | (refine Hs.cons pickA ?_)))
    have h1 : (i : Int) < (xs.length : Int) := by omega
    by_cases h25 : k < 25
    rotate_left
    · refine hwG6 ?_
      exact HX.cut (i, C, a2, c2) ⟨hi25, k, hI⟩ esA (by repeat (first | exact Hs.nil _ | (refine Hs.cons pickA ?_)))
    have hk0 : 0 ≤ k := by omega
    obtain ⟨y, hy⟩ : ∃ y, xs[i]? = some y := ⟨_, List.getElem?_eq_getElem hlt⟩
    have hy2 := hxs y (List.mem_of_getElem? hy)
    obtain ⟨bl, off, rfl, -, hcell⟩ := hRx.at (fun e => by rw [e] at hlt; exact absurd hlt (Nat.not_lt_zero _))
    have hcl := hcell i y hy
    clear hcell
    obtain ⟨y0, y1, y2, rfl⟩ := three06 hy2.1
    have u0 := hy2.2 y0 (by simp)
    have u1 := hy2.2 y1 (by simp)
    have u2 := hy2.2 y2 (by simp)
    have u3 := u0.tdiv (n := 3) (by decide)
    have hc0 : w.cell? ⟨bl, off + i * 3, none⟩ = some (zv y0) := hcl 0 _ rfl
    have hc1 : w.cell? ⟨bl, off + i * 3 + 1, none⟩ = some (zv y1) := hcl 1 _ rfl
    have hc2 : w.cell? ⟨bl, off + i * 3 + 2, none⟩ = some (zv y2) := hcl 2 _ rfl
    clear hcl hy hy2
    have q1 := pickI21_lt y1 (n := k / 5 + 1) (by omega)
    have q2 := pickI21_lt y2 (n := k % 5 + 1) (by omega)
    have q3 := pickI21_lt y1 (n := 201) (by decide)
    have q4 := pickI21_lt (y0.tdiv 3) (n := 3) (by decide)
    refine hwG6 ?_
    refine HL.build (cs := clC ⟨k / 5, k % 5, false, 0, 0, 0⟩) rfl rfl rfl ?_
    refine hwG6 ?_
    refine HL.one (H1.alloc (cs := clC clZ) rfl rfl (fun b13 => ?_))
    refine hwG6 ?_
    refine HL.one (H1.stAgg (b := b13) (cs := clC clZ) (vs := clC ⟨k / 5, k % 5, false, 0, 0, 0⟩) rfl rfl rfl (clC_one _) rplA rfl ?_)
    refine hwG6 ?_
    refine HL.one (H1.ld0 rfl hc0 rfl ?_)
    refine hwG6 ?_
    refine HL.one (H1.call0 (vs := [zv y0, zv 3]) rfl rfl (fun w' _ => pick06_fn y0 3 u0.1 u0.2 (by decide) w') ?_)
    refine hnG6 ?_
    refine HC.cut (α := Cl) (fun x => [(1, .slice (some ⟨bl, off, none⟩) xs.length cx), (5, .pointer (some ⟨b5, 0, none⟩)), (6, .pointer (some ⟨b6, 0, none⟩)), (7, .pointer (some ⟨b7, 0, none⟩)), (11, zv k), (12, zv (i : Int)), (13, .pointer (some ⟨b13, 0, none⟩))])
      (fun x => [A.blk b13 (clC x) 72, A.grow 72 6 a2 c2 i (flatC (fun j => clC (C j)) i), A.grow 66 2 a c nl (flatC (fun j => lnC (L j)) nl), A.blk b7 (dcC (.slice a nl c) (.slice a2 i c2) 0 ⟨#[]⟩) 54, A.blk b6 dcZ 54, A.blk b5 (ints [r0, r1]) 48]) (fun x => x.row * 5 + x.col = k ∧ 0 ≤ x.row ∧ (0 ≤ x.col ∧ x.col ≤ 4) ∧ ClOk x) ?_ ?_
    · by_cases he : pickI21 y0 3 = 0
      · refine hwG6 ?_
        refine HL.one (H1.st (b := b13) rfl rfl (by intro _ h; cases h) (by intro _ h; cases h) rplA (by show 2 < 6; decide) ?_)
        refine hwG6 ?_
        refine HC.cut (α := Unit) (fun _ => [(1, .slice (some ⟨bl, off, none⟩) xs.length cx), (5, .pointer (some ⟨b5, 0, none⟩)), (6, .pointer (some ⟨b6, 0, none⟩)), (7, .pointer (some ⟨b7, 0, none⟩)), (11, zv k), (12, zv (i : Int)), (13, .pointer (some ⟨b13, 0, none⟩))])
          (fun _ => [A.blk b13 [zv (k / 5), zv (k % 5), .bool true, zv 0, zv (pickI21 y1 (k / 5 + 1)), zv 0] 72, A.grow 72 6 a2 c2 i (flatC (fun j => clC (C j)) i), A.grow 66 2 a c nl (flatC (fun j => lnC (L j)) nl), A.blk b7 (dcC (.slice a nl c) (.slice a2 i c2) 0 ⟨#[]⟩) 54, A.blk b6 dcZ 54, A.blk b5 (ints [r0, r1]) 48]) (fun _ => True) ?_ ?_
        · refine HC.anyC ([(⟨bl, off + i * 3 + 1, none⟩, zv y1), (⟨b13, 0, none⟩, zv (k / 5))]) rfl ?_
          refine HB.pa 0 rfl ?_
          refine HB.pa 1 rfl ?_
          refine HB.pa 2 rfl ?_
          refine HB.pa 3 rfl ?_
          refine HB.ld 4 rfl rfl memD ?_
          refine HB.pa 5 rfl ?_
          refine HB.ld 6 rfl rfl memD ?_
          refine HB.pa 7 rfl ?_
          refine HB.all (by repeat (first | exact Keep.nil | refine Keep.blk (by (repeat (first | exact List.Mem.head _ | apply List.Mem.tail)); done) rfl ?_ | refine Keep.grow (by (repeat (first | exact List.Mem.head _ | apply List.Mem.tail)); done) (by assumption) ?_ | refine Keep.base (by assumption) ?_)) [8] (by kernel_rfl) rfl ⟨⟨_, rfl, ?_⟩, trivial⟩
          refine HP.one ?_
          refine H1.call0 (vs := [zv y1, zv (k / 5 + 1)]) rfl rfl (fun w' _ => pick06_fn y1 (k / 5 + 1) u1.1 u1.2 (by omega) w') ?_
          apply HB.fold
          refine HB.pa 9 rfl ?_
          refine HB.all (by repeat (first | exact Keep.nil | refine Keep.blk (by (repeat (first | exact List.Mem.head _ | apply List.Mem.tail)); done) rfl ?_ | refine Keep.grow (by (repeat (first | exact List.Mem.head _ | apply List.Mem.tail)); done) (by assumption) ?_ | refine Keep.base (by assumption) ?_)) [10] (by kernel_rfl) rfl ⟨⟨_, rfl, ?_⟩, trivial⟩
          refine HP.one ?_
          refine H1.st (b := b13) rfl rfl (by intro _ h; cases h) (by intro _ h; cases h) rplA (by show 4 < 6; decide) ?_
          apply HB.fold
          refine HB.done (by repeat (first | exact Keep.nil | refine Keep.blk (by (repeat (first | exact List.Mem.head _ | apply List.Mem.tail)); done) rfl ?_ | refine Keep.grow (by (repeat (first | exact List.Mem.head _ | apply List.Mem.tail)); done) (by assumption) ?_ | refine Keep.base (by assumption) ?_)) (by kernel_rfl) ?_
          exact HX.cut () trivial esA (by repeat (first | exact Hs.nil _ | (refine Hs.cons pickA ?_)))
        rintro - -
        refine hwG6 ?_
        refine HC.anyC ([(⟨bl, off + i * 3 + 2, none⟩, zv y2), (⟨b13, 1, none⟩, zv (k % 5))]) rfl ?_
        refine HB.pa 0 rfl ?_
        refine HB.pa 1 rfl ?_
        refine HB.pa 2 rfl ?_
        refine HB.pa 3 rfl ?_
        refine HB.ld 4 rfl rfl memD ?_
        refine HB.pa 5 rfl ?_
        refine HB.ld 6 rfl rfl memD ?_
        refine HB.pa 7 rfl ?_
        refine HB.all (by repeat (first | exact Keep.nil | refine Keep.blk (by (repeat (first | exact List.Mem.head _ | apply List.Mem.tail)); done) rfl ?_ | refine Keep.grow (by (repeat (first | exact List.Mem.head _ | apply List.Mem.tail)); done) (by assumption) ?_ | refine Keep.base (by assumption) ?_)) [8] (by kernel_rfl) rfl ⟨⟨_, rfl, ?_⟩, trivial⟩
        refine HP.one ?_
        refine H1.call0 (vs := [zv y2, zv (k % 5 + 1)]) rfl rfl (fun w' _ => pick06_fn y2 (k % 5 + 1) u2.1 u2.2 (by omega) w') ?_
        apply HB.fold
        refine HB.pa 9 rfl ?_
        refine HB.all (by repeat (first | exact Keep.nil | refine Keep.blk (by (repeat (first | exact List.Mem.head _ | apply List.Mem.tail)); done) rfl ?_ | refine Keep.grow (by (repeat (first | exact List.Mem.head _ | apply List.Mem.tail)); done) (by assumption) ?_ | refine Keep.base (by assumption) ?_)) [10] (by kernel_rfl) rfl ⟨⟨_, rfl, ?_⟩, trivial⟩
        refine HP.one ?_
        refine H1.st (b := b13) rfl rfl (by intro _ h; cases h) (by intro _ h; cases h) rplA (by show 5 < 6; decide) ?_
        apply HB.fold
        refine HB.done (by repeat (first | exact Keep.nil | refine Keep.blk (by (repeat (first | exact List.Mem.head _ | apply List.Mem.tail)); done) rfl ?_ | refine Keep.grow (by (repeat (first | exact List.Mem.head _ | apply List.Mem.tail)); done) (by assumption) ?_ | refine Keep.base (by assumption) ?_)) (by kernel_rfl) ?_
        refine hwG6 ?_
        exact HX.cut ⟨k / 5, k % 5, true, 0, pickI21 y1 (k / 5 + 1), pickI21 y2 (k % 5 + 1)⟩ ⟨by show k / 5 * 5 + k % 5 = k; omega, by show 0 ≤ k / 5; omega, by show 0 ≤ k % 5 ∧ k % 5 ≤ 4; omega, cellOk_sum ⟨hk0, h25⟩ (by omega) (by omega)⟩ esA (by repeat (first | exact Hs.nil _ | (refine Hs.cons pickA ?_)))
      · refine hwG6 ?_
        refine HL.one (H1.ld0 rfl hc1 rfl ?_)
        refine hwG6 ?_
        refine HL.one (H1.call0 (vs := [zv y1, zv 201]) rfl rfl (fun w' _ => pick06_fn y1 201 u1.1 u1.2 (by decide) w') ?_)
        refine hwG6 ?_
        refine HL.one (H1.st (b := b13) rfl rfl (by intro _ h; cases h) (by intro _ h; cases h) rplA (by show 3 < 6; decide) ?_)
        refine hwG6 ?_
        exact HX.cut ⟨k / 5, k % 5, false, pickI21 y1 201 - 100, 0, 0⟩ ⟨by show k / 5 * 5 + k % 5 = k; omega, by show 0 ≤ k / 5; omega, by show 0 ≤ k % 5 ∧ k % 5 ≤ 4; omega, cellOk_con ⟨hk0, h25⟩ (by omega)⟩ esA (by repeat (first | exact Hs.nil _ | (refine Hs.cons pickA ?_)))
    rintro x ⟨hp, hp1, hp2, hxo⟩
    have hupd := flatC_upd clC C i x
    refine hwG6 ?_
    refine HL.one (H1.ldAgg (b := b13) (vs := clC x) rfl memA rfl (fun j v hv => by rw [Nat.zero_add]; exact hv) rfl ?_)
    refine hwG6 ?_
    refine HL.one (H1.lit (cs := clC x) rfl rfl rfl rfl rfl rfl (fun b9 => ?_))
    refine hwG6 ?_
    refine HL.one (H1.appK (sz := 6) (bs := b9) (news := clC x) (by rfl) (by decide) rfl rfl (fun _ _ => by first | ((repeat (first | with_reducible exact Rpl.here | with_reducible apply Rpl.there)); done) | (repeat (first | exact Rpl.here | apply Rpl.there))) memA rfl (clC_one _) (by omega) (by decide) rfl (fun a' c' => ?_))
    rw [← hupd]
    refine hwG6 ?_
    refine HL.one (H1.st (b := b7) rfl rfl (by intro _ h; cases h) (by intro _ h; cases h) rplA (by show 1 < 4; decide) ?_)
    refine hwG6 ?_
    refine HL.one (H1.ld0 rfl hc0 rfl ?_)
    refine hwG6 ?_
    refine HL.pa (v := zv (y0.tdiv 3)) ?_ (POp.quoT rfl rfl u0.1 u0.2 (by decide))
    refine hwG6 ?_
    refine HL.one (H1.call0 (vs := [zv (y0.tdiv 3), zv 3]) rfl rfl (fun w' _ => pick06_fn (y0.tdiv 3) 3 u3.1 u3.2 (by decide) w') ?_)
    refine hwG6 ?_
    exact HX.again (i + 1, k + 1 + pickI21 (y0.tdiv 3) 3, updF C i x, some ⟨a', 0, none⟩, c') ⟨hlt, by show k + 1 + pickI21 (y0.tdiv 3) 3 ≤ 27; omega, by show i + 1 ≤ 25; omega, hI.step hp hp1 hp2 hxo (by show k + 1 ≤ k + 1 + pickI21 (y0.tdiv 3) 3; omega)⟩ (by show 25 - (i + 1) < 25 - i; omega) esA (by repeat (first | exact Hs.nil _ | (refine Hs.cons pickA ?_)))
  rintro ⟨nc, C, a2, c2⟩ ⟨hnc, k, hI⟩
  dsimp only at hnc hI ⊢
  have t0 := w0.tdiv (n := 6) (by decide)
  have q0 := pickI21_lt r0 (n := 6) (by decide)
  have q1 := pickI21_lt r1 (n := 1048576) (by decide)
  have q2 := pickI21_lt (r0.tdiv 6) (n := 4) (by decide)
  obtain ⟨wd, hwd⟩ : ∃ n : Nat, pickI21 r0 6 = (n : Int) := ⟨_, (Int.toNat_of_nonneg q0.1).symm⟩
  obtain ⟨n, hn⟩ : ∃ n : Nat, pickI21 r1 1048576 = (n : Int) := ⟨_, (Int.toNat_of_nonneg q1.1).symm⟩
  obtain ⟨hh, hhe⟩ : ∃ n : Nat, 1 + pickI21 (r0.tdiv 6) 4 = (n : Int) := ⟨(1 + pickI21 (r0.tdiv 6) 4).toNat, by omega⟩
  have hh4 : 1 ≤ hh ∧ hh ≤ 4 := by omega
  have hwd5 : wd ≤ 5 := by omega
  obtain ⟨T, hT⟩ : ∃ T, wd * hh = T := ⟨_, rfl⟩
  have hT20 : T ≤ 20 := by rw [← hT]; exact Nat.mul_le_mul hwd5 hh4.2
  have hTi : ((wd : Nat) : Int) * ((hh : Nat) : Int) = (T : Int) := by rw [← hT]; exact (Int.natCast_mul ..).symm
  refine hwG6 ?_
  refine HL.one (H1.call0 (vs := [zv r0, zv 6]) rfl rfl (fun w' _ => pick06_fn r0 6 w0.1 w0.2 (by decide) w') ?_)
  rw [hwd]
  refine hwG6 ?_
  refine HL.one (H1.st (b := b7) rfl rfl (by intro _ h; cases h) (by intro _ h; cases h) rplA (by show 2 < 4; decide) ?_)
  refine hwG6 ?_
  refine HL.one (H1.call0 (vs := [zv r1, zv 1048576]) rfl rfl (fun w' _ => pick06_fn r1 1048576 w1.1 w1.2 (by decide) w') ?_)
  rw [hn]
  refine hwG6 ?_
  refine HC.loop (α := Nat × ByteArray) (fun q => [(5, .pointer (some ⟨b5, 0, none⟩)), (6, .pointer (some ⟨b6, 0, none⟩)), (7, .pointer (some ⟨b7, 0, none⟩)), (14, zv (n : Int)), (15, zv (q.1 : Int))])
    (fun q => [A.blk b7 (dcC (.slice a nl c) (.slice a2 nc c2) (wd : Int) q.2) 54, A.grow 72 6 a2 c2 nc (flatC (fun j => clC (C j)) nc), A.grow 66 2 a c nl (flatC (fun j => lnC (L j)) nl), A.blk b6 dcZ 54, A.blk b5 (ints [r0, r1]) 48])
    (fun q => q.1 ≤ T ∧ q.2.size = q.1 ∧ BinB q.2) (fun q => T - q.1) (0, ⟨#[]⟩) ⟨Nat.zero_le _, rfl, fun b hb => by cases hb⟩ esA (by repeat (first | exact Hs.nil _ | (refine Hs.cons pickA ?_))) ?_
  rintro ⟨i, s⟩ ⟨hi, hsz, hbn⟩
  dsimp only at hi hsz hbn ⊢
  refine hwG6 ?_
  refine HC.cut (α := Unit) (fun _ => [(5, .pointer (some ⟨b5, 0, none⟩)), (6, .pointer (some ⟨b6, 0, none⟩)), (7, .pointer (some ⟨b7, 0, none⟩)), (14, zv (n : Int)), (15, zv (i : Int)), (140, .bool (decide ((i : Int) < (T : Int))))])
    (fun _ => [A.blk b7 (dcC (.slice a nl c) (.slice a2 nc c2) (wd : Int) s) 54, A.grow 72 6 a2 c2 nc (flatC (fun j => clC (C j)) nc), A.grow 66 2 a c nl (flatC (fun j => lnC (L j)) nl), A.blk b6 dcZ 54, A.blk b5 (ints [r0, r1]) 48]) (fun _ => True) ?_ ?_
  · refine HC.anyC ([(⟨b7, 2, none⟩, zv (wd : Int)), (⟨b5, 0, none⟩, zv r0)]) rfl ?_
    refine HB.pa 0 rfl ?_
    refine HB.pa 1 rfl ?_
    refine HB.ld 2 rfl rfl memD ?_
    refine HB.pa 3 rfl ?_
    refine HB.ld 4 rfl rfl memD ?_
    refine HB.pa (v := zv (r0.tdiv 6)) 5 rfl ?_ (POp.quoT rfl rfl w0.1 w0.2 (by decide))
    refine HB.all (by repeat (first | exact Keep.nil | refine Keep.blk (by (repeat (first | exact List.Mem.head _ | apply List.Mem.tail)); done) rfl ?_ | refine Keep.grow (by (repeat (first | exact List.Mem.head _ | apply List.Mem.tail)); done) (by assumption) ?_ | refine Keep.base (by assumption) ?_)) [6] (by kernel_rfl) rfl ⟨⟨_, rfl, ?_⟩, trivial⟩
    refine HP.one ?_
    refine H1.call0 (vs := [zv (r0.tdiv 6), zv 4]) rfl rfl (fun w' _ => pick06_fn (r0.tdiv 6) 4 t0.1 t0.2 (by decide) w') ?_
    apply HB.fold
    refine HB.pa (v := zv (hh : Int)) 7 rfl ?_ ((POp.add rfl rfl (by omega) (by omega)).of (congrArg zv hhe))
    refine HB.pa (v := zv (T : Int)) 8 rfl ?_ ((POp.mul rfl rfl (by rw [hTi]; omega) (by rw [hTi]; omega)).of (congrArg zv hTi))
    refine HB.pa 9 rfl ?_
    refine HB.done (by repeat (first | exact Keep.nil | refine Keep.blk (by (repeat (first | exact List.Mem.head _ | apply List.Mem.tail)); done) rfl ?_ | refine Keep.grow (by (repeat (first | exact List.Mem.head _ | apply List.Mem.tail)); done) (by assumption) ?_ | refine Keep.base (by assumption) ?_)) (by kernel_rfl) ?_
    exact HX.cut () trivial esA (by repeat (first | exact Hs.nil _ | (refine Hs.cons pickA ?_)))
  rintro - -
  by_cases hlt : i < T
  rotate_left
  · have hlt' : ¬ ((i : Nat) : Int) < (T : Int) := by omega
    refine hwG6 ?_
    refine HL.one (H1.ldAgg (b := b7) (vs := dcC (.slice a nl c) (.slice a2 nc c2) (wd : Int) s) rfl memA rfl (fun j v hv => by rw [Nat.zero_add]; exact hv) rfl ?_)
    refine hwG6 ?_
    refine HL.one (H1.stAgg (b := b6) (cs := dcZ) (vs := dcC (.slice a nl c) (.slice a2 nc c2) (wd : Int) s) rfl rfl rfl (by intro v hv; simp only [dcC, List.mem_cons, List.not_mem_nil, or_false] at hv; rcases hv with rfl | rfl | rfl | rfl <;> rfl) rplA rfl ?_)
    refine hwG6 ?_
    exact HX.retc1 (b := b6) (cs := dcC (.slice a nl c) (.slice a2 nc c2) (wd : Int) s) rfl rfl memA rfl fun w' hM => ⟨⟨a, c, a2, c2, nl, nc, wd, s, L, C⟩, ⟨hnl, hnc, hL, hI.ok, hI.asc, ⟨by show wd ≤ 32; omega, hbn, hh, by show s.size = wd * hh; omega, .inr (by omega)⟩⟩, rfl, show Mm w [A.grow 72 6 a2 c2 nc (flatC (fun j => clC (C j)) nc), A.grow 66 2 a c nl (flatC (fun j => lnC (L j)) nl)] w' from hM.sub (by repeat (first | exact Hs.nil _ | (refine Hs.cons pickA ?_)))⟩
  have hlt' : ((i : Nat) : Int) < (T : Int) := by omega
  obtain ⟨m, hm⟩ : ∃ m, (n >>> i) % 2 = m := ⟨_, rfl⟩
  have hm2 : m < 2 := by rw [← hm]; exact Nat.mod_lt _ (by decide)
  have hmi : ((n >>> i : Nat) : Int) % 2 = (m : Int) := by rw [← hm]; omega
  obtain ⟨b, hbm, hb2⟩ : ∃ b : UInt8, (48 + (m : Int)) = ((b.toNat : Nat) : Int) ∧ (b = 48 ∨ b = 49) := by
    have : m = 0 ∨ m = 1 := by omega
    rcases this with rfl | rfl
    · exact ⟨48, rfl, .inl rfl⟩
    · exact ⟨49, rfl, .inr rfl⟩
  have hss : (s ++ mkB b).size = s.size + 1 := ByteArray.size_append
  refine hwG6 ?_
  refine HC.anyU ([(12, ⟨b7, 3, none⟩, .string s)]) rfl ?_
  refine HU.pa 0 rfl ?_
  refine HU.ld 1 rfl rfl memD ?_
  refine HU.pa 2 rfl ?_
  refine HU.pa 3 rfl ?_
  refine HU.pa (v := zv ((n >>> i : Nat) : Int)) 4 rfl ?_ (POp.shr rfl rfl rfl rfl (by omega))
  refine HU.pa (v := zv (m : Int)) 5 rfl ?_ ((POp.rem rfl rfl (Int.natCast_nonneg _) (by decide)).of (congrArg zv hmi))
  refine HU.pa (v := zv (48 + (m : Int))) 6 rfl ?_ (POp.add rfl rfl (by omega) (by omega))
  refine HU.pa (v := .int .u8 ((b.toNat : Nat) : Int)) 7 rfl ?_ ((POp.conv_u8 rfl (by omega) (by omega)).of (congrArg (Value.int .u8) hbm))
  refine HU.all (by (first | refine KeepU.blk (by (repeat (first | exact List.Mem.head _ | apply List.Mem.tail)); done) rfl ?_ | refine KeepU.grow (by (repeat (first | exact List.Mem.head _ | apply List.Mem.tail)); done) (by assumption) ?_ | refine KeepU.base (by assumption) ?_); exact KeepU.nil) [8] (by kernel_rfl) rfl ⟨⟨_, rfl, ?_⟩, trivial⟩
  refine HV.one ?_
  refine H1.lit (cs := ub [b]) rfl rfl rfl rfl rfl rfl (fun b9 => ?_)
  apply HU.fold
  refine HU.all (by (first | refine KeepU.blk (by (repeat (first | exact List.Mem.head _ | apply List.Mem.tail)); done) rfl ?_ | refine KeepU.grow (by (repeat (first | exact List.Mem.head _ | apply List.Mem.tail)); done) (by assumption) ?_ | refine KeepU.base (by assumption) ?_); exact KeepU.nil) [9] (by kernel_rfl) rfl ⟨⟨_, rfl, ?_⟩, trivial⟩
  refine HV.one ?_
  refine H1.bstrB (ys := [b]) (b := b9) (c := 1) rfl memA rfl ?_
  apply HU.fold
  refine HU.pa (v := .string (s ++ mkB b)) 10 rfl ?_ (POp.cat rfl rfl (by show s.size + 1 ≤ _; omega))
  refine HU.pa 11 rfl ?_
  refine HU.all (by (first | refine KeepU.blk (by (repeat (first | exact List.Mem.head _ | apply List.Mem.tail)); done) rfl ?_ | refine KeepU.grow (by (repeat (first | exact List.Mem.head _ | apply List.Mem.tail)); done) (by assumption) ?_ | refine KeepU.base (by assumption) ?_); exact KeepU.nil) [12] (by kernel_rfl) rfl ⟨⟨_, rfl, ?_⟩, trivial⟩
  refine HV.one ?_
  refine H1.st (b := b7) rfl rfl (by intro _ h; cases h) (by intro _ h; cases h) rplA (by show 3 < 4; decide) ?_
  apply HU.fold
  refine HU.done (by refine KeepU.skip (by kernel_rfl) ?_; exact KeepU.nil) (by kernel_rfl) ?_
  refine hwG6 ?_
  exact HX.again (i + 1, s ++ mkB b) ⟨hlt, by show (s ++ mkB b).size = i + 1; omega, hbn.snoc hb2⟩ (by show T - (i + 1) < T - i; omega) esA (by repeat (first | exact Hs.nil _ | (refine Hs.cons pickA ?_)))
theorem made_fn (vl vx : Value) (hv1 : vl.oneCell' = true) (hv2 : vx.oneCell' = true) (ls xs : List (List Int)) (r0 r1 : Int) (w0 : i64W r0) (w1 : i64W r1) (hls : ∀ y ∈ ls, y.length = 2 ∧ ∀ z ∈ y, i64W z) (hxs : ∀ y ∈ xs, y.length = 3 ∧ ∀ z ∈ y, i64W z) (w : World) (hRl : RdA 2 w vl ls) (hRx : RdA 3 w vx xs) :
    Fn Tryz.prog 15 #[.agg #[vl, vx, zv r0, zv r1]] w fun u w' => ∃ z : DcZ, DcOk z ∧ u = .agg (dcL z).toArray ∧ Mm w (dcA z) w' := by
  refine enterH (l := [_]) rfl Tryz.ntmps15 rfl ?_
  refine hwG6 ?_
  refine HL.one (H1.boxAgg (cs := [vl, vx, zv r0, zv r1]) rfl rfl (fun b1 => ?_))
  refine hwG6 ?_
  refine HL.one (H1.alloc (cs := dcZ) rfl rfl (fun b2 => ?_))
  refine hwG6 ?_
  refine HL.one (H1.ldAgg (b := b1) (vs := ints [r0, r1]) rfl memA rfl (fun i v hv => by
    match i, hv with
    | 0, hv => exact hv
    | 1, hv => exact hv) rfl ?_)
  refine hwG6 ?_
  refine HL.one (H1.callz (vs := [vl, vx, .agg #[zv r0, zv r1]]) rfl rfl (fun w' hM => made06_fn vl vx ls xs r0 r1 w0 w1 hls hxs w' (hRl.ext hM.ext) (hRx.ext hM.ext)) ?_)
  intro z hz
  unfold dcA
  refine hwG6 ?_
  refine HL.one (H1.stAgg (b := b2) (cs := dcZ) (vs := dcL z) rfl rfl rfl (dcL_one z) rplA rfl ?_)
  refine hwG6 ?_
  exact HX.retc1 (b := b2) (cs := dcL z) rfl rfl memA rfl fun w' hM => ⟨z, hz, rfl, show Mm w [A.grow 72 6 z.ac z.cc z.nc (flatC (fun j => clC (z.C j)) z.nc), A.grow 66 2 z.al z.cl z.nl (flatC (fun j => lnC (z.L j)) z.nl)] w' from hM.sub (by repeat (first | exact Hs.nil _ | (refine Hs.cons pickA ?_)))⟩
end Go.Sx
/- TopHidden: the law. -/
namespace Go.Sx
open Go Go.Proofs Go.RowKit
theorem hwG7 {G G2 : Prop} (x : G2) (hwq : Hold G2 → G := by
    intro hQq
    repeat' (first | refine HL.pa ?_ (POp.bneF4 rfl rfl rfl) | refine HL.pa ?_ (POp.beqT4 rfl rfl rfl) | refine HL.pa ?_ (POp.nilCheck rfl) | apply HL.fold | apply HA.fold | apply HL.nil | apply HX.n_then | apply HC.seq | apply HC.region | refine HL.pa ?_ | refine HL.ga rfl ?_ | refine HL.na rfl ?_ | refine HL.nu rfl rfl ?_ | apply HC.block | apply HC.skip | apply HC.exit | apply HC.ret | apply HX.e_block | refine HX.e_other rfl ?_ | apply HX.e_then | apply HX.e_again | apply HX.n_block | apply HX.r_then | apply HX.r_block | apply HX.r_again | refine HC.cond_yes rfl ?_ | refine HC.cond_no rfl ?_ | refine HL.one (H1.ldb rfl memA rfl rfl ?_) | refine HC.cond rfl (fun hc => ?_) (fun hc => ?_) | refine HC.cond_b rfl (fun hc => ?_) (fun hc => ?_))
    exact hQq.get) : G := hwq ⟨x⟩
theorem hbG7 {G G2 : Prop} (x : G2) (hwq : Hold G2 → G := by
    intro hQq
    repeat' (first | refine HL.pa ?_ (POp.bneF4 rfl rfl rfl) | refine HL.pa ?_ (POp.beqT4 rfl rfl rfl) | refine HL.pa ?_ (POp.nilCheck rfl) | apply HL.fold | apply HA.fold | apply HL.nil | apply HX.n_then | apply HC.seq | apply HC.region | refine HL.pa ?_ | refine HL.ga rfl ?_ | refine HL.na rfl ?_ | refine HL.nu rfl rfl ?_ | apply HC.skip | apply HC.exit | apply HC.ret | apply HX.e_block | refine HX.e_other rfl ?_ | apply HX.e_then | apply HX.e_again | apply HX.n_block | apply HX.r_then | apply HX.r_block | apply HX.r_again | refine HC.cond_yes rfl ?_ | refine HC.cond_no rfl ?_ | refine HL.one (H1.ldb rfl memA rfl rfl ?_) | refine HC.cond rfl (fun hc => ?_) (fun hc => ?_) | refine HC.cond_b rfl (fun hc => ?_) (fun hc => ?_))
    exact hQq.get) : G := hwq ⟨x⟩
section
variable {P : Program} {r : Option Nat} {N : Nat} {ds : List Deferred} {ol rest : List Oper} {Q : Post} {E : Env} {w0 : World} {H : List Atom} {d : Nat} {t ty : TypeId} {pos : String} {af : Array Edge} {x : Operand}
/-- An aggregate that is loaded in a quiet region. -/
theorem HQ.ldAggH {b off : Nat} {vs : List Value} {z : Value} {n bb : Nat} [ha : ATy P t true] [hi : ITy P t z n bb] (hx : Env.ev E x = some (.pointer (some ⟨b, off, none⟩))) (hn : vs.length = n)
    (hc : ∀ w, Mm w0 H w → ∀ i v, vs[i]? = some v → w.cell? ⟨b, off + i, none⟩ = some v) (hd : Nat.blt d N = true) (h : HQ P r N ds ol rest Q ((d, .agg vs.toArray) :: E) w0 H) :
    HQ P r N ds ol (⟨some d, .load t x, ty, pos, af, none⟩ :: rest) Q E w0 H := fun w hM => QL.step hd (fun b' hb w' hw' => by
    have hc' := run_loadVarAgg (P := P) (w := w') (t := t) (b := b) (off := off) hn fun i v hv => hc w' (hM.more hw') i v hv
    have : (execOp b'.eval ⟨some d, .load t x, ty, pos, af, none⟩).run P w' = .ok (.value (.agg vs.toArray)) w' := by
      simp only [execOp, hb.ev hx, Instr.loadAt, Instr.sureAddr, Sem.run_bind, Sem.run_pure]
      simp [hc', Result.andThen]
    unfold Oper.quietAtIn; rw [this]; exact ⟨rfl, rfl⟩) (h w hM)
end
/-- What the copy shows. -/
def shX (hl : List Int) (L : Nat → Lf) (j : Nat) : Lf := hideX (decide ((j : Int) ∈ hl)) (L j)
theorem shX_in {hl : List Int} {L : Nat → Lf} {j : Nat} (h : (j : Int) ∈ hl) : shX hl L j = ⟨false, ⟨#[]⟩, 0, ⟨#[]⟩, valX (L j)⟩ := by unfold shX hideX; rw [decide_eq_true h]; rfl
theorem shX_out {hl : List Int} {L : Nat → Lf} {j : Nat} (h : ¬ (j : Int) ∈ hl) : shX hl L j = L j := by unfold shX hideX; rw [decide_eq_false h]; rfl
theorem lf_line2 (x : Lf) {y : ByteArray × Int} (h : (x.text, x.mark) = y) {w : World} {b o : Nat} (hc : ∀ (j : Nat) (v : Value), (lfC x)[j]? = some v → w.cell? ⟨b, o + j, none⟩ = some v) : ∀ (i : Nat) (v : Value), (lnC y)[i]? = some v → w.cell? ⟨b, o + 1 + i, none⟩ = some v := fun i v hv => by
  subst h
  rw [Nat.add_assoc]; exact hc (1 + i) v (lf_line x i v hv)
attribute [local irreducible] WC WL WX POp Then Again Fn NX W1 WA WO QL RP RA Yld LoopAt HC HL HX HN H1 HA HO HQ HB HP A.blk A.grow A.rd A.obj A.mp AgainH CutH
attribute [local irreducible] A.mq A.mit A.dfr A.loop bsA hidL sumS saltX rootX
theorem thas_fn (v : Value) (l : List Int) (n : Int) (hl : l.length ≤ 1000000) (w : World) (hR : Rd w v (ints l)) :
    Fn Tryz.prog 21 #[v, zv n] w fun v w' => v = .bool (decide (n ∈ l)) ∧ Ext w w' := by
  obtain ⟨a, c, rfl, hc⟩ := hR.isInts
  refine enterH (l := [_, _]) rfl Tryz.ntmps21 rfl ?_
  refine hwG7 ?_
  refine HC.loop (α := Nat) (fun j => [(0, .slice a l.length c), (1, zv n), (5, zv (j : Int))]) (fun _ => []) (fun j => j ≤ l.length ∧ n ∉ l.take j) (fun j => l.length - j) 0 ⟨Nat.zero_le _, by simp⟩ esA (Hs.refl _) ?_
  rintro j ⟨hj, hI⟩
  by_cases hlt : j < l.length
  · obtain ⟨b1, o1, rfl, -⟩ := hR.iat (fun e => by rw [e] at hlt; exact absurd hlt (Nat.not_lt_zero _))
    have hd1 := hR.cell (ints_get hlt)
    have h1 := take_at hlt
    by_cases e : at' l j = n
    · have hm : n ∈ l := e ▸ at_mem hlt
      refine hwG7 ?_
      refine HL.one (H1.ld0 rfl hd1 rfl ?_)
      refine hwG7 ?_
      exact HX.ret1 rfl rfl fun w' hM => ⟨by rw [decide_eq_true hm], hM.ext⟩
    · refine hwG7 ?_
      refine HL.one (H1.ld0 rfl hd1 rfl ?_)
      refine hwG7 ?_
      exact HX.again (j + 1) ⟨hlt, by rw [h1, List.mem_append, List.mem_singleton]; exact fun h => h.elim hI fun h => e h.symm⟩ (by omega) esA (Hs.refl _)
  obtain rfl : j = l.length := by omega
  rw [List.take_length] at hI
  refine hwG7 ?_
  exact HX.ret1 rfl rfl fun w' hM => ⟨by rw [decide_eq_false hI], hM.ext⟩
theorem hideS_fn {v vh : Value} {n : Nat} {L : Nat → Lf} {l : List Int} (hn : n ≤ 64) (hok : ∀ i, i < n → LfOk (L i)) (hl : l.length ≤ 1000000) (w : World) (hG : RoundG w) (hR : RdK w v n 5 fun i => lfC (L i)) (hH : Rd w vh (ints l)) :
    Fn Tryz.prog 19 #[v, vh] w fun u w' => ∃ z : Option Addr × Nat, True ∧ u = .slice z.1 n z.2 ∧ Mm w [A.grow 68 5 z.1 z.2 n (flatC (fun j => lfC (shX l L j)) n)] w' := hide_fn hn hok hl w hG hR hH
set_option maxHeartbeats 16000000 in
theorem topHidden_fn (vl vx vy : Value) (ls xs recs : List (List Int)) (r0 r1 : Int) (secret : ByteArray) (pack pur day late : Int) (hsec : secret.size ≤ maxLen) (w0 : i64W r0) (w1 : i64W r1) (h1 : i64W pack) (h2 : i64W pur) (h3 : i64W day) (h4 : i64W late)
    (hls : ∀ y ∈ ls, y.length = 2 ∧ ∀ z ∈ y, i64W z) (hxs : ∀ y ∈ xs, y.length = 3 ∧ ∀ z ∈ y, i64W z) (hrec : ∀ y ∈ recs, y.length = 6 ∧ ∀ z ∈ y, i64W z) (w : World) (hG : RoundG w) (hX : RdA 2 w vl ls) (hZ : RdA 3 w vx xs) (hY : RdA 6 w vy recs) :
    Fn Tryz.prog 4 #[.agg #[vl, vx, zv r0, zv r1], .string secret, vy, zv pack, zv pur, zv day, zv late] w fun u w' => u = .bool true ∧ Ext w w' := by
  have hv1 : vl.oneCell' = true := by obtain ⟨a, c, rfl, -⟩ := hX.shape; rfl
  have hv2 : vx.oneCell' = true := by obtain ⟨a, c, rfl, -⟩ := hZ.shape; rfl
  refine enterH (l := [_, _, _, _, _, _, _]) rfl Tryz.ntmps4 rfl ?_
  refine hwG7 ?_
  refine HL.one (H1.boxAgg (cs := [vl, vx, zv r0, zv r1]) rfl rfl (fun b7 => ?_))
  refine hwG7 ?_
  refine HL.one (H1.callx (u := .bool true) (vs := []) rfl rfl (fun w' _ => awake_fn w') ?_)
  refine hwG7 ?_
  refine HL.one (H1.ldAgg (b := b7) (vs := [vl, vx, zv r0, zv r1]) rfl memA rfl (fun i v hv => by rw [Nat.zero_add]; exact hv) rfl ?_)
  refine hwG7 ?_
  refine HL.one (H1.callr (vs := [_]) rfl rfl (fun w' hM => made_fn vl vx hv1 hv2 ls xs r0 r1 w0 w1 hls hxs w' (hX.ext hM.ext) (hZ.ext hM.ext)) ?_)
  rintro wa u wb hMa ⟨z, hz, rfl, hMz⟩
  have hx1 : Ext w wb := hMa.ext.trans hMz.ext
  have hRl : RdK wb (.slice z.al z.nl z.cl) z.nl 2 (fun i => lnC (z.L i)) := hMz.rdK (.tail _ (.head _)) (fun _ => rfl)
  have hRc : RdK wb (.slice z.ac z.nc z.cc) z.nc 6 (fun i => clC (z.C i)) := hMz.rdK (.head _) (fun _ => rfl)
  have hY1 := hY.ext hx1
  have hG1 := hG.ext hx1
  clear hMa hMz
  have hnl := hz.nlle
  have hnc := hz.ncle
  refine hwG7 ?_
  refine HL.one (H1.alloc (cs := dcZ) rfl rfl (fun b16 => ?_))
  refine hwG7 ?_
  refine HL.one (H1.stAgg (b := b16) (cs := dcZ) (vs := dcL z) rfl rfl rfl (dcL_one z) rplA rfl ?_)
  have hmx : secret.size ≤ 9223372036854775807 := by simp only [maxLen] at hsec; omega
  refine hwG7 ?_
  have hs50 : (secret.extract 0 (min (secret.size : Int) 50).toNat).size ≤ 50 := by rw [ByteArray.size_extract]; omega
  generalize secret.extract 0 (min (secret.size : Int) 50).toNat = sec at hs50 ⊢
  refine HL.one (H1.callz1 (α := (Option Addr × Nat) × List Rc) (V := fun z => .slice z.1.1 z.2.length z.1.2) (An := fun z => A.grow 36 15 z.1.1 z.1.2 z.2.length (rcl z.2)) (I := fun z => z.2.length ≤ 30 ∧ ∀ r ∈ z.2, SomeOk r) (vs := [vy]) rfl rfl (fun w' hM => Some_fn vy recs hrec w' (hY1.ext hM.ext)) ?_)
  rintro ⟨⟨ar, cr⟩, R⟩ ⟨hL30, hLok⟩
  dsimp only at hL30 hLok ⊢
  have hvL : ∀ r ∈ R, ValidR r := fun r hr => (hLok r hr).valid
  clear hLok
  refine hwG7 ?_
  refine HL.one (H1.callr (vs := [.slice ar R.length cr, zv 50]) rfl rfl (fun w' hM => of_fn ar cr R (by omega) (fun r hr => RcOk.of_validT (hvL r hr)) 50 w' (hM.recs (l := R) memA)) ?_)
  rintro wc vb wd hMb ⟨q, hq, rfl, hMq⟩
  have hB2 : BaseV wd (bsV q) (bsL q) := hMq.base (.head _)
  have hx2 : Ext wb wd := hMb.ext.trans hMq.ext
  have hc16 : ∀ (i : Nat) (v : Value), (dcL z)[i]? = some v → wd.cell? ⟨b16, i, none⟩ = some v := fun i v hv => cell_ext hMq.ext ((hMb.blk (b := b16) (cs := dcL z) (e := 54) memA).cell hv)
  have hl6 : (bsL q 6).length ≤ 30 := Nat.le_trans (of_lenT (hq 6 (by decide))) hL30
  have hRl2 := hRl.ext hx2
  have hRc2 := hRc.ext hx2
  have hG2 := hG1.ext hx2
  have hxw2 := hx1.trans hx2
  clear hMb hMq hq hRl hRc hG1 hY1 hx1 hx2
  refine hwG7 ?_
  refine HL.one (H1.alloc (cs := row 8 fun _ => .slice none 0 0) rfl rfl (fun b17 => ?_))
  refine hwG7 ?_
  refine HL.one (H1.stAgg (b := b17) (cs := row 8 fun _ => .slice none 0 0) (vs := row 8 fun i => slot (q i)) rfl rfl (row_len 8 _) rowSlot_one rplA rfl ?_)
  refine hwG7 ?_
  refine HL.one (H1.call0 (vs := [zv pack, zv 4]) rfl rfl (fun w' _ => tpick_fn pack 4 h1.1 h1.2 (by decide) w') ?_)
  have p1 := pickI21_lt pack (n := 4) (by decide)
  generalize pickI21 pack 4 = P0 at p1 ⊢
  refine hwG7 ?_
  refine HL.one (H1.call0 (vs := [zv pur, zv 4]) rfl rfl (fun w' _ => tpick_fn pur 4 h2.1 h2.2 (by decide) w') ?_)
  generalize pickI21 pur 4 = pp
  refine hwG7 ?_
  refine HL.one (H1.ldAggw (b := b16) (vs := dcL z) rfl rfl (fun w' hM i v hv => by rw [Nat.zero_add]; exact cell_ext hM.ext (hc16 i v hv)) rfl ?_)
  refine hwG7 ?_
  refine HL.one (H1.callz (vs := [_, _]) rfl rfl (fun w' hM => leaves_fn (vl := .slice z.al z.nl z.cl) (vc := .slice z.ac z.nc z.cc) (L := z.L) (C := z.C) (s := sec) hz.ra hs50 (by omega) (by omega) hz.ln hz.cl hz.asc w' (hG2.ext hM.ext) (hRl2.ext hM.ext) (hRc2.ext hM.ext)) ?_)
  rintro ⟨a18, c18⟩ -
  dsimp only
  have hokL : ∀ i, i < z.nl → LfOk (leafX z.L sec i) := fun i hi => leafX_ok (hz.ln i hi)
  refine hwG7 ?_
  refine HL.one (H1.callx (vs := [_]) rfl rfl (fun w' hM => rootX_fn (n := z.nl) (L := leafX z.L sec) (by omega) hokL w' (hG2.ext hM.ext) (hM.rdK memA (lfC_len _))) ?_)
  refine hwG7 ?_
  refine HL.one (H1.ld0 rfl (hc16 0 _ rfl) rfl ?_)
  refine hwG7 ?_
  refine HL.one (H1.call0 (vs := [zv day, zv 70]) rfl rfl (fun w' _ => tpick_fn day 70 h3.1 h3.2 (by decide) w') ?_)
  have p3 := pickI21_lt day (n := 70) (by decide)
  refine hwG7 ?_
  refine HL.one (H1.call0 (vs := [zv day, zv 70]) rfl rfl (fun w' _ => tpick_fn day 70 h3.1 h3.2 (by decide) w') ?_)
  generalize pickI21 day 70 = d1 at p3 ⊢
  refine hwG7 ?_
  refine HL.one (H1.call0 (vs := [zv late, zv 30]) rfl rfl (fun w' _ => tpick_fn late 30 h4.1 h4.2 (by decide) w') ?_)
  have p4 := pickI21_lt late (n := 30) (by decide)
  generalize pickI21 late 30 = l1 at p4 ⊢
  refine hwG7 ?_
  refine HL.one (H1.lit (cs := ints [d1, d1 + l1]) rfl rfl rfl rfl rfl rfl (fun b69 => ?_))
  refine hbG7 ?_
  refine HC.ofW fun w5 hM5 => ?_
  have hR5 : RdK w5 (.slice a18 z.nl c18) z.nl 5 (fun i => lfC (leafX z.L sec i)) := hM5.rdK memA (lfC_len _)
  have hc17 : ∀ (i : Nat) (v : Value), (row 8 fun i => slot (q i))[i]? = some v → w5.cell? ⟨b17, i, none⟩ = some v := fun i v hv => (hM5.blk (b := b17) (e := 38) memA).cell hv
  have hc69 : ∀ k, k < 2 → ∃ d, w5.cell? ⟨b69, k, none⟩ = some (zv d) := fun k hk => by
    have hb := hM5.blk (b := b69) (cs := ints [d1, d1 + l1]) (e := 3) memA
    match k, hk with
    | 0, _ => exact ⟨_, hb.cell rfl⟩
    | 1, _ => exact ⟨_, hb.cell rfl⟩
  have hc16' := fun (i : Nat) (v : Value) (hv : (dcL z)[i]? = some v) => cell_ext hM5.ext (hc16 i v hv)
  have hB5 := hB2.ext hM5.ext
  have hG5 := hG2.ext hM5.ext
  have hRl5 := hRl2.ext hM5.ext
  have hxw5 := hxw2.trans hM5.ext
  clear hM5 hc16 hB2 hG2 hRl2 hRc2 hxw2
  refine WC.ofH ?_
  have hroot : ∀ hl, rootX (leafX z.L sec) z.nl = rootX (shX hl (leafX z.L sec)) z.nl := fun hl => rootX_congr fun i _ => (hideX_val (g := decide ((i : Int) ∈ hl)) (x := leafX z.L sec i)).symm
  generalize rootX (leafX z.L sec) z.nl = root at hroot ⊢
  refine hwG7 ?_
  refine HC.loop (α := Nat) (fun k => [(3, zv (1 + P0)), (4, zv pp), (15, .bool true), (16, .pointer (some ⟨b16, 0, none⟩)), (17, .pointer (some ⟨b17, 0, none⟩)), (18, .slice a18 z.nl c18), (20, .string root), (69, .slice (some ⟨b69, 0, none⟩) 2 2), (70, zv 2), (71, zv (k : Int))]) (fun _ => []) (fun k => k ≤ 2) (fun k => 2 - k) 0 (Nat.zero_le _) esA (by repeat (first | exact Hs.nil _ | (refine Hs.cons pickA ?_))) ?_
  intro k hk
  by_cases hlt : k < 2
  rotate_left
  · have hn : ¬ ((k : Nat) : Int) < 2 := by omega
    refine hwG7 ?_
    exact HX.ret1 rfl rfl fun w' hM => ⟨rfl, hxw5.trans hM.ext⟩
  have hn : ((k : Nat) : Int) < 2 := by omega
  obtain ⟨d, hd⟩ := hc69 k hlt
  refine hwG7 ?_
  refine HL.one (H1.ld0 rfl hd rfl ?_)
  refine hwG7 ?_
  refine HL.one (H1.ldAggw (b := b17) (vs := row 8 fun i => slot (q i)) rfl (row_len 8 _) (fun w' hM i v hv => by rw [Nat.zero_add]; exact cell_ext hM.ext (hc17 i v hv)) rfl ?_)
  have hll : (hidL (bsL q 6) (1 + P0) pp d).length ≤ 30 := by
    unfold hidL
    refine Nat.le_trans (numL_len _) ?_
    rw [List.length_map]
    exact Nat.le_trans (List.length_filter_le _ _) hl6
  refine hwG7 ?_
  refine HL.one (H1.callz1 (α := Option Addr × Nat) (V := fun z => .slice z.1 (hidL (bsL q 6) (1 + P0) pp d).length z.2) (An := fun z => A.grow 3 1 z.1 z.2 (hidL (bsL q 6) (1 + P0) pp d).length (ints (hidL (bsL q 6) (1 + P0) pp d))) (I := fun _ => True) (vs := [bsV q, zv (1 + P0), zv pp, zv d]) rfl rfl (fun w' hM => Hidden_fn (B := bsL q) (vb := bsV q) (1 + P0) pp d w' (hB5.ext hM.ext) (by omega)) ?_)
  rintro ⟨ah, ch⟩ -
  dsimp only
  generalize hidL (bsL q 6) (1 + P0) pp d = hl at hll ⊢
  have hroot' := hroot hl
  have hokS : ∀ i, i < z.nl → LfOk (shX hl (leafX z.L sec) i) := fun i hi => hideX_ok (hokL i hi)
  refine hwG7 ?_
  refine HL.one (H1.callz (vs := [_, _]) rfl rfl (fun w' hM => hideS_fn (n := z.nl) (L := leafX z.L sec) (l := hl) (by omega) hokL (by omega) w' (hG5.ext hM.ext) (hR5.ext hM.ext) (by have h := hM.gr (e := 3) (a := ah) (c := ch) (n := hl.length) (xs := ints hl) memA; exact h)) ?_)
  rintro ⟨a24, c24⟩ -
  dsimp only
  refine hwG7 ?_
  refine HL.one (H1.callx (vs := [_, _]) rfl rfl (fun w' hM => check_fn23 (n := z.nl) (L := shX hl (leafX z.L sec)) hroot' (by omega) hokS w' (hG5.ext hM.ext) (hM.rdK memA (fun _ => rfl))) ?_)
  refine hbG7 ?_
  refine HC.ofW fun w6 hM6 => ?_
  have hS6 : RdK w6 (.slice a24 z.nl c24) z.nl 5 (fun i => lfC (shX hl (leafX z.L sec) i)) := hM6.rdK memA (fun _ => rfl)
  have hH6 : Rd w6 (.slice ah hl.length ch) (ints hl) := by have h := hM6.gr (e := 3) (a := ah) (c := ch) (n := hl.length) (xs := ints hl) memA; exact h
  have hx6 := hM6.ext
  clear hM6
  refine WC.ofH ?_
  obtain ⟨S, hS⟩ : ∃ S, shX hl (leafX z.L sec) = S := ⟨_, rfl⟩
  have hin : ∀ i : Nat, (i : Int) ∈ hl → S i = ⟨false, ⟨#[]⟩, 0, ⟨#[]⟩, valX (leafX z.L sec i)⟩ := fun i hi => by rw [← hS]; exact shX_in hi
  have hout : ∀ i : Nat, ¬ (i : Int) ∈ hl → S i = leafX z.L sec i := fun i hi => by rw [← hS]; exact shX_out hi
  rw [hS] at hS6 hokS
  clear hS hroot' hroot
  refine hwG7 ?_
  refine HC.loop (α := Nat) (fun i => [(3, zv (1 + P0)), (4, zv pp), (15, .bool true), (16, .pointer (some ⟨b16, 0, none⟩)), (17, .pointer (some ⟨b17, 0, none⟩)), (18, .slice a18 z.nl c18), (20, .string root), (23, .slice ah hl.length ch), (24, .slice a24 z.nl c24), (25, zv (shownN S i : Int)), (26, zv (i : Int)), (69, .slice (some ⟨b69, 0, none⟩) 2 2), (70, zv 2), (71, zv (k : Int))]) (fun _ => []) (fun i => i ≤ z.nl) (fun i => z.nl - i) 0 (Nat.zero_le _) esA (by repeat (first | exact Hs.nil _ | (refine Hs.cons pickA ?_))) ?_
  intro i hi
  have hsn := shownN_le S i
  by_cases hlt2 : i < z.nl
  rotate_left
  · obtain rfl : i = z.nl := by omega
    have hn2 : ¬ ((z.nl : Nat) : Int) < (z.nl : Int) := by omega
    refine hwG7 ?_
    refine HL.one (H1.callz (vs := [_]) rfl rfl (fun w' hM => lines_fn (n := z.nl) (L := S) (by omega) hokS w' (hS6.ext hM.ext)) ?_)
    rintro ⟨a9, c9⟩ -
    dsimp only
    refine hwG7 ?_
    exact HX.rebase (w1 := w5) (H1 := []) (fun w' hM => Mm.nil (hx6.trans hM.ext)) (HX.again (k + 1) (by show k + 1 ≤ 2; omega) (by show 2 - (k + 1) < 2 - k; omega) esA (by repeat (first | exact Hs.nil _ | (refine Hs.cons pickA ?_))))
  have hn2 : ((i : Nat) : Int) < (z.nl : Int) := by omega
  obtain ⟨b24, o24, rfl, hb24⟩ := hS6.cell hlt2
  have hc24 := hb24 i hlt2
  obtain ⟨bl, ol, hal, hbl⟩ := hRl5.cell hlt2
  have hcl := fun (j : Nat) (v : Value) (hv : (lnC (z.L i))[j]? = some v) => cell_ext hx6 (hbl i hlt2 j v hv)
  have hc16'' : w6.cell? ⟨b16, 0, none⟩ = some (.slice (some ⟨bl, ol, none⟩) z.nl z.cl) := by rw [← hal]; exact cell_ext hx6 (hc16' 0 _ rfl)
  clear hb24 hbl
  have hlo := hz.ln i hlt2
  refine hwG7 ?_
  refine HL.one (H1.callx (vs := [_, _]) rfl rfl (fun w' hM => thas_fn (.slice ah hl.length ch) hl i (by omega) w' (hH6.ext hM.ext)) ?_)
  by_cases hm : (i : Int) ∈ hl
  · rw [decide_eq_true hm]
    have hSi := hin i hm
    have hno : shownN S (i + 1) = shownN S i := (lnsX_no (by rw [hSi])).2
    rw [hSi] at hc24
    refine hwG7 ?_
    refine HC.quietS [(some 103, [27], []), (some 104, [103], [0]), (some 105, [24, 104], [1]), (some 106, [26, 104], [1]), (some 107, [105, 106, 104], [2, 3, 1]), (some 108, [107, 104], [4, 1]), (some 109, [108, 104], [5, 1]), (some 110, [109, 104], [6, 1, 1]), (some 111, [24, 110], [7]), (some 112, [26, 110], [7]), (some 113, [111, 112, 110], [8, 9, 7]), (some 114, [113, 110], [10, 7]), (some 115, [114, 110], [11, 7]), (some 116, [110], [7]), (some 117, [115, 116, 110], [12, 13, 7]), (some 118, [110, 117, 104], [7, 14, 1]), (some 119, [118, 104], [15, 7, 1]), (some 120, [24, 119], [16]), (some 121, [26, 119], [16]), (some 122, [120, 121, 119], [17, 18, 16]), (some 123, [122, 119], [19, 16]), (some 124, [123, 119], [20, 16]), (some 125, [124, 119], [21, 16]), (some 126, [119, 125, 104], [16, 22, 1]), (some 127, [104, 126], [1, 23]), (some 128, [127], [24, 16]), (some 129, [27, 128], [25]), (some 130, [129, 128], [26, 25]), (some 131, [130, 128], [27, 25, 25]), (some 132, [24, 131], [28]), (some 133, [26, 131], [28]), (some 134, [132, 133, 131], [29, 30, 28]), (some 135, [134, 131], [31, 28]), (some 136, [135, 131], [32, 28]), (some 137, [16, 131], [28]), (some 138, [137, 131], [34, 28]), (some 139, [26, 131], [28]), (some 140, [138, 139, 131], [35, 36, 28]), (some 141, [140, 131], [37, 28]), (some 142, [136, 141, 131], [33, 38, 28]), (some 143, [131, 142, 128], [28, 39, 25]), (some 144, [128, 143], [25, 40])] (by kernel_rfl) (by kernel_rfl) (by kernel_rfl) ?_
    repeat' (first | refine HQ.pa ?_ | refine HQ.ga rfl ?_ | refine HQ.na rfl ?_ | refine HQ.nu rfl ?_ | refine HQ.ldb rfl memA rfl rfl ?_)
    refine HQ.ld rfl (fun w' hM => cell_ext hM.ext (hc24 0 _ rfl)) rfl ?_
    repeat' (first | refine HQ.pa ?_ | refine HQ.ga rfl ?_ | refine HQ.na rfl ?_ | refine HQ.nu rfl ?_ | refine HQ.ldb rfl memA rfl rfl ?_)
    refine HQ.ldAggH (b := b24) (off := o24 + i * 5 + 1) (vs := lnC (⟨#[]⟩, 0)) rfl rfl (fun w' hM j v hv => cell_ext hM.ext (lf_line2 _ rfl hc24 j v hv)) rfl ?_
    repeat' (first | refine HQ.pa ?_ | refine HQ.ga rfl ?_ | refine HQ.na rfl ?_ | refine HQ.nu rfl ?_ | refine HQ.ldb rfl memA rfl rfl ?_)
    refine HQ.pa (v := .agg (lnC (⟨#[]⟩, 0)).toArray) ?_ (POp.build (parts := []) (pv := []) (cs := lnC (⟨#[]⟩, 0)) rfl rfl)
    repeat' (first | refine HQ.pa ?_ | refine HQ.ga rfl ?_ | refine HQ.na rfl ?_ | refine HQ.nu rfl ?_ | refine HQ.ldb rfl memA rfl rfl ?_)
    refine HQ.pa ?_ (POp.neLn (l := (⟨#[]⟩, 0)) rfl rfl (show i64W 0 by unfold i64W; decide) (show (ByteArray.mk #[]).size ≤ maxLen by decide))
    repeat' (first | refine HQ.pa ?_ | refine HQ.ga rfl ?_ | refine HQ.na rfl ?_ | refine HQ.nu rfl ?_ | refine HQ.ldb rfl memA rfl rfl ?_)
    refine HQ.ld rfl (fun w' hM => cell_ext hM.ext (hc24 3 _ rfl)) rfl ?_
    repeat' (first | refine HQ.pa ?_ | refine HQ.ga rfl ?_ | refine HQ.na rfl ?_ | refine HQ.nu rfl ?_ | refine HQ.ldb rfl memA rfl rfl ?_)
    refine HQ.nil ?_
    refine hwG7 ?_
    exact HX.again (i + 1) hlt2 (by show z.nl - (i + 1) < z.nl - i; omega) (by rw [hno]; repeat (first | exact trivial | refine ⟨rfl, ?_⟩)) (by repeat (first | exact Hs.nil _ | (refine Hs.cons pickA ?_)))
  · rw [decide_eq_false hm]
    have hSi := hout i hm
    have hyes : shownN S (i + 1) = shownN S i + 1 := (lnsX_yes (by rw [hSi]; rfl)).2
    rw [hSi] at hc24
    obtain ⟨hw1, hw2⟩ := hlo.w
    refine hwG7 ?_
    refine HC.quietS [(some 103, [27], []), (some 104, [103], [0]), (some 105, [24, 104], [1]), (some 106, [26, 104], [1]), (some 107, [105, 106, 104], [2, 3, 1]), (some 108, [107, 104], [4, 1]), (some 109, [108, 104], [5, 1]), (some 110, [109, 104], [6, 1, 1]), (some 111, [24, 110], [7]), (some 112, [26, 110], [7]), (some 113, [111, 112, 110], [8, 9, 7]), (some 114, [113, 110], [10, 7]), (some 115, [114, 110], [11, 7]), (some 116, [110], [7]), (some 117, [115, 116, 110], [12, 13, 7]), (some 118, [110, 117, 104], [7, 14, 1]), (some 119, [118, 104], [15, 7, 1]), (some 120, [24, 119], [16]), (some 121, [26, 119], [16]), (some 122, [120, 121, 119], [17, 18, 16]), (some 123, [122, 119], [19, 16]), (some 124, [123, 119], [20, 16]), (some 125, [124, 119], [21, 16]), (some 126, [119, 125, 104], [16, 22, 1]), (some 127, [104, 126], [1, 23]), (some 128, [127], [24, 16]), (some 129, [27, 128], [25]), (some 130, [129, 128], [26, 25]), (some 131, [130, 128], [27, 25, 25]), (some 132, [24, 131], [28]), (some 133, [26, 131], [28]), (some 134, [132, 133, 131], [29, 30, 28]), (some 135, [134, 131], [31, 28]), (some 136, [135, 131], [32, 28]), (some 137, [16, 131], [28]), (some 138, [137, 131], [34, 28]), (some 139, [26, 131], [28]), (some 140, [138, 139, 131], [35, 36, 28]), (some 141, [140, 131], [37, 28]), (some 142, [136, 141, 131], [33, 38, 28]), (some 143, [131, 142, 128], [28, 39, 25]), (some 144, [128, 143], [25, 40])] (by kernel_rfl) (by kernel_rfl) (by kernel_rfl) ?_
    repeat' (first | refine HQ.pa ?_ | refine HQ.ga rfl ?_ | refine HQ.na rfl ?_ | refine HQ.nu rfl ?_ | refine HQ.ldb rfl memA rfl rfl ?_)
    refine HQ.ldAggH (b := b24) (off := o24 + i * 5 + 1) (vs := lnC (z.L i)) rfl rfl (fun w' hM j v hv => cell_ext hM.ext (lf_line2 (leafX z.L sec i) rfl hc24 j v hv)) rfl ?_
    repeat' (first | refine HQ.pa ?_ | refine HQ.ga rfl ?_ | refine HQ.na rfl ?_ | refine HQ.nu rfl ?_ | refine HQ.ldb rfl memA rfl rfl ?_)
    refine HQ.ld rfl (fun w' hM => cell_ext hM.ext hc16'') rfl ?_
    repeat' (first | refine HQ.pa ?_ | refine HQ.ga rfl ?_ | refine HQ.na rfl ?_ | refine HQ.nu rfl ?_ | refine HQ.ldb rfl memA rfl rfl ?_)
    refine HQ.ldAggH (b := bl) (off := ol + i * 2) (vs := lnC (z.L i)) rfl rfl (fun w' hM j v hv => cell_ext hM.ext (hcl j v hv)) rfl ?_
    repeat' (first | refine HQ.pa ?_ | refine HQ.ga rfl ?_ | refine HQ.na rfl ?_ | refine HQ.nu rfl ?_ | refine HQ.ldb rfl memA rfl rfl ?_)
    refine HQ.pa ?_ (POp.neLn (l := z.L i) rfl rfl hw1 hw2)
    repeat' (first | refine HQ.pa ?_ | refine HQ.ga rfl ?_ | refine HQ.na rfl ?_ | refine HQ.nu rfl ?_ | refine HQ.ldb rfl memA rfl rfl ?_)
    refine HQ.nil ?_
    refine hwG7 ?_
    exact HX.again (i + 1) hlt2 (by show z.nl - (i + 1) < z.nl - i; omega) (by rw [hyes]; repeat (first | exact trivial | refine ⟨rfl, ?_⟩)) (by repeat (first | exact Hs.nil _ | (refine Hs.cons pickA ?_)))
end Go.Sx
/- From a function's contract to a row's statement: arguments that are numbers, arrays of numbers, slices of arrays of numbers, records. -/
namespace Go.Sx
open Go Go.ChangeShapes Go.WideShapes Go.ChangeAt Go.RowKit
section
variable {H : Type} {enc : TypeId × Value → H} {P : Program} {w : World} {b : Nat} {sp : Nat → Bool} {hd : Bool}
theorem args_cons {t : TypeId} {ts : List TypeId} {vs : List Value} {ds : List (DataW H)} {ps : List MemPlace} (h : DataW.TrodAll enc P w b sp hd (t :: ts) vs ds ps) :
    ∃ v vs' d ds' p q, vs = v :: vs' ∧ ds = d :: ds' ∧ ps = p ++ q ∧ DataW.Trod enc P w b sp hd t v d p ∧ DataW.TrodAll enc P w b sp hd ts vs' ds' q := by
  cases vs with
  | nil => exact h.elim
  | cons v vs =>
    cases ds with
    | nil => exact h.elim
    | cons d ds =>
      obtain ⟨p, q, h1, h2, h3⟩ := h
      exact ⟨v, vs, d, ds, p, q, rfl, rfl, h3, h1, h2⟩
theorem args_nil {vs : List Value} {ds : List (DataW H)} {ps : List MemPlace} (h : DataW.TrodAll enc P w b sp hd [] vs ds ps) : vs = [] ∧ ds = [] ∧ ps = [] := by
  cases vs with
  | cons v vs => exact h.elim
  | nil => cases ds with
    | cons d ds => exact h.elim
    | nil => exact ⟨rfl, rfl, h⟩
theorem trodAll_ext (hl : laidOutB P = true) {W W' : World} (hx : Below W.heap.size W W') : ∀ {ts : List TypeId} {vs : List Value} {ds : List (DataW H)} {ps : List MemPlace}, (ts.all fun t => P.readableRec t && decide (t < P.types.size)) = true →
    DataW.TrodAll enc P W 0 (fun _ => true) true ts vs ds ps → (∀ p ∈ ps, p.block < W.heap.size) → ∀ sp : Nat → Bool, (∀ p ∈ ps, sp p.block = true) → DataW.TrodAll enc P W' 0 sp true ts vs ds ps
  | [], [], [], _, _, h, _, _, _ => h
  | [], [], _ :: _, _, _, h, _, _, _ => h.elim
  | [], _ :: _, _, _, _, h, _, _, _ => h.elim
  | _ :: _, [], _, _, _, h, _, _, _ => h.elim
  | _ :: _, _ :: _, [], _, _, h, _, _, _ => h.elim
  | t :: ts, v :: vs, d :: ds, ps, ht, h, hlt, sp, hsp => by
    obtain ⟨p, q, h1, h2, rfl⟩ := h
    simp only [List.all_cons, Bool.and_eq_true, decide_eq_true_eq] at ht
    refine ⟨p, q, ?_, trodAll_ext hl hx ht.2 h2 (fun x hx => hlt x (by simp [hx])) sp (fun x hx => hsp x (by simp [hx])), rfl⟩
    exact WideElems.Trod_stays hl ht.1.1 ht.1.2 h1 (fun x hx' => hx.same (hlt x (by simp [hx']))) (fun x hx' => hsp x (by simp [hx']))
end
end Go.Sx
namespace Go.Sx
open Go Go.Proofs Go.ChangeShapes Go.WideShapes Go.ChangeAt Go.RowKit
theorem ints_rowK (f : Nat → Int) (n : Nat) : ints ((List.range n).map f) = row n fun q => zv (f q) := by
  unfold ints row
  rw [List.map_map]; rfl
/-- The call has laid new blocks, and turned no old one. -/
theorem post_ext {H : Type} {enc : TypeId × Value → H} {P : Program} {f : Func} {s : ChangeSpec} {apart fresh handsOn again : Bool} {W W' : World} {args : Array Value} {v : Value} {ds gs : List (DataW H)} {before pa pv : List MemPlace} (hx : Ext W W')
    (hW : DataW.Whole enc P f.params.toList s.vars apart W args.toList ds gs before)
    (hres : ∀ (b : Nat) (sp : Nat → Bool) (hd : Bool), DataW.TrodAll enc P W' b sp hd f.resultTypes.toList (v.resultList f.resultTypes.size) (s.fn H (ds ++ gs)).results [])
    (hargs : ∀ sp : Nat → Bool, (∀ p ∈ before, sp p.block = true) → DataW.TrodAll enc P W' 0 sp true f.params.toList args.toList (s.fn H (ds ++ gs)).args pa)
    (hvars : ∀ sp : Nat → Bool, (∀ p ∈ before, sp p.block = true) → DataW.TrodVars enc P W' sp s.vars (s.fn H (ds ++ gs)).vars pv)
    (hps : before = pa ++ pv)
    (hok : ∀ (j : Nat) (t : TypeId) (r : Value), f.resultTypes[j]? = some t → (v.resultList f.resultTypes.size)[j]? = some r → Value.okWide P W' .any 0 t r) :
    s.post enc P f apart fresh handsOn again W args v W' := by
  have hlt : ∀ p ∈ before, p.block < W.heap.size := fun p hp => hW.lt p hp
  have hold : ∀ p ∈ before, (fun b => decide (b < W.heap.size)) p.block = true := fun p hp => by simpa using hW.lt p hp
  refine ⟨ds, gs, before, [], pa, pv, hW, hres _ _ _, hargs _ hold, hvars _ hold, (World.keptBut_refl W _).congr hx.os hx.output hx.block, fun _ => ?_⟩
  obtain ⟨_, _, _, _, _, hz, hn⟩ := hW
  refine ⟨hok, _, _, ([] ++ pa) ++ pv, ⟨[] ++ pa, pv, trodAll_append (hargs _ (fun _ _ => rfl)) (hres _ _ _), hvars _ (fun _ _ => rfl), rfl, ?_, ?_⟩, ?_⟩
  · intro b off hp
    have hp' : MemPlace.cell b off ∈ before := by rw [hps]; simpa using hp
    rw [World.frozen?_of_block (hx.block b (hlt _ hp'))]
    exact hz b off hp'
  · intro ha
    have := hn ha
    rw [hps] at this
    simpa using this
  · intro p hp _
    rw [hps]
    simpa using hp
theorem i64_of {x : Int} (h : (Lit.int .i64 x).wf = true) : i64W x := by
  simp only [Lit.wf, Bool.and_eq_true, decide_eq_true_eq] at h
  have e1 : IntKind.i64.min = -9223372036854775808 := rfl
  have e2 : IntKind.i64.max = 9223372036854775807 := rfl
  rw [e1, e2] at h
  exact h
theorem ownK : ownKnob Tryz.prog.godebug = none := by kernel_rfl
section
variable {H : Type} {enc : TypeId × Value → H} {P : Program} {W : World} {r : Reach} {b0 b : Nat} {sp : Nat → Bool} {hd : Bool} {v : Value} {d : DataW H} {p : List MemPlace}
theorem spot_none {W : World} {a : Addr} {v : Value} (h : W.cell? a = some v) : a = ⟨a.block, a.off, none⟩ ∧ a.block < W.heap.size := by
  unfold World.cell? at h
  split at h
  · rename_i c e f hc
    split at h
    · cases h
    · rename_i hs
      refine ⟨?_, (Array.getElem?_eq_some_iff.1 hc).1⟩
      cases a with
      | mk b o s => cases s <;> simp_all
  · cases h
def cellInt (W : World) (a : Addr) : Int := match W.cell? a with | some (.int _ z) => z | _ => 0

/-- All cells of a type are numbers. -/
def intCellsB (P : Program) : Nat → TypeId → Bool
  | 0, _ => false
  | n + 1, t => match P.underlying t with
    | some (.int .i64) => Nat.beq (P.cellsOf t) 1
    | some (.array k e) => intCellsB P n e && Nat.beq (P.cellsOf t) (k * P.cellsOf e) && Nat.ble 1 (P.cellsOf e)
    | some (.struct fs) => (fs.toList.all fun f => intCellsB P n f.type) && (List.range (P.cellsOf t)).all fun j => (List.range fs.size).any fun i => match fs[i]? with | some f => Nat.ble f.offset j && Nat.blt j (f.offset + P.cellsOf f.type) | none => false
    | _ => false
theorem intCells : ∀ (n : Nat) (t : TypeId) (cs : List Value) (fuel : Nat) (x : DataW H × List MemPlace), intCellsB P n t = true → DataW.trod enc P W b sp hd fuel t cs = some x → cs.length = P.cellsOf t ∧ ∀ j, j < cs.length → ∃ z, cs[j]? = some (zv z) ∧ i64W z := by
  intro n
  induction n with
  | zero => intro t cs fuel x h; cases h
  | succ n ih =>
    intro t cs fuel x h hf
    simp only [intCellsB] at h
    split at h
    · rename_i ht
      have h1 : P.cellsOf t = 1 := Nat.eq_of_beq_eq_true h
      obtain ⟨z, e, -, hw⟩ := DataW.trod_int ht hf
      subst e
      refine ⟨by rw [h1]; rfl, fun j hj => ?_⟩
      have : j = 0 := by simpa using hj
      subst this
      exact ⟨z, rfl, i64_of hw⟩
    · rename_i k e ht
      rw [Bool.and_eq_true, Bool.and_eq_true] at h
      obtain ⟨⟨h1, h2⟩, h3⟩ := h
      have h2' : P.cellsOf t = k * P.cellsOf e := Nat.eq_of_beq_eq_true h2
      have h3' : 1 ≤ P.cellsOf e := Nat.le_of_ble_eq_true h3
      obtain ⟨xs, m, -, -, hl, hxl, hel⟩ := DataW.trod_array ht hf
      refine ⟨hl, fun j hj => ?_⟩
      rw [h2'] at hl
      have hi : j / P.cellsOf e < k := by
        rw [Nat.div_lt_iff_lt_mul h3']; omega
      have h4 := hel (j / P.cellsOf e) hi
      rw [List.getElem?_eq_getElem (by omega)] at h4
      obtain ⟨hlen, hz⟩ := ih e _ _ _ h1 h4
      have hm := Nat.mod_lt j h3'
      obtain ⟨z, hz, hw⟩ := hz (j % P.cellsOf e) (by rw [hlen]; exact hm)
      refine ⟨z, ?_, hw⟩
      rw [List.getElem?_take, if_pos hm, List.getElem?_drop] at hz
      rw [← hz]
      congr 1
      have := Nat.div_add_mod j (P.cellsOf e)
      rw [Nat.mul_comm] at this
      omega
    · rename_i fs ht
      rw [Bool.and_eq_true, List.all_eq_true, List.all_eq_true] at h
      obtain ⟨h1, h2⟩ := h
      obtain ⟨xs, m, -, -, hl, hxl, hel⟩ := DataW.trod_struct ht hf
      refine ⟨hl, fun j hj => ?_⟩
      have h3 := h2 j (List.mem_range.2 (by omega))
      rw [List.any_eq_true] at h3
      obtain ⟨i, hi, h4⟩ := h3
      have hi' := List.mem_range.1 hi
      cases hfi : fs[i]? with
      | none => rw [hfi] at h4; cases h4
      | some f =>
        rw [hfi] at h4
        simp only [Bool.and_eq_true] at h4
        have h5 : f.offset ≤ j := Nat.le_of_ble_eq_true h4.1
        have h6 : j < f.offset + P.cellsOf f.type := by simpa [Nat.blt_eq] using h4.2
        have h7 := hel i f hfi
        rw [List.getElem?_eq_getElem (by omega)] at h7
        have hmem : f ∈ fs.toList := by
          rw [← Array.getElem?_toList] at hfi
          exact List.mem_of_getElem? hfi
        obtain ⟨hlen, hz⟩ := ih f.type _ _ _ (h1 f hmem) h7
        obtain ⟨z, hz, hw⟩ := hz (j - f.offset) (by rw [hlen]; omega)
        refine ⟨z, ?_, hw⟩
        rw [List.getElem?_take, if_pos (by omega), List.getElem?_drop, show f.offset + (j - f.offset) = j by omega] at hz
        exact hz
    · cases h
/-- A row of numbers. -/
theorem intRow {n : Nat} {t : TypeId} {cs : List Value} {fuel : Nat} {x : DataW H × List MemPlace} (h : intCellsB P n t = true) (hf : DataW.trod enc P W b sp hd fuel t cs = some x) : ∃ zs : List Int, cs = ints zs ∧ zs.length = P.cellsOf t ∧ ∀ z ∈ zs, i64W z := by
  obtain ⟨hl, hz⟩ := intCells n t cs fuel x h hf
  have hch : ∃ g : Nat → Int, ∀ j, j < cs.length → cs[j]? = some (zv (g j)) ∧ i64W (g j) := by
    refine ⟨fun j => if h : j < cs.length then Classical.choose (hz j h) else 0, fun j hj => ?_⟩
    simp only [dif_pos hj]
    exact Classical.choose_spec (hz j hj)
  obtain ⟨g, hg⟩ := hch
  refine ⟨(List.range cs.length).map g, ?_, by simpa using hl, fun z hz => ?_⟩
  · rw [ints_rowK]
    apply List.ext_getElem?
    intro j
    by_cases hj : j < cs.length
    · rw [(hg j hj).1, row_get _ hj]
    · rw [List.getElem?_eq_none (by omega), List.getElem?_eq_none (by rw [row_len]; omega)]
  · obtain ⟨j, hj, rfl⟩ := List.mem_map.1 hz
    exact (hg j (List.mem_range.1 hj)).2
/-- A slice of structs (or arrays) of numbers, read in place: one cell. -/
theorem sl_rows {t e n fuel sz : Nat} {x : DataW H × List MemPlace} (ht : P.underlying t = some (.slice e)) (he : intCellsB P n e = true) (hce : P.cellsOf e = sz) (hsz : 0 < sz) (hf : DataW.trod enc P W b sp hd fuel t [v] = some x) :
    ∃ rows : List (List Int), (∃ (a : Option Addr) (c : Nat), v = .slice a rows.length c ∧ rows.length ≤ c ∧ (rows = [] ∨ ∃ b off, a = some ⟨b, off, none⟩ ∧ b < W.heap.size ∧ ∀ i rw j u, (rows.map ints)[i]? = some rw → rw[j]? = some u → W.cell? ⟨b, off + i * sz + j, none⟩ = some u)) ∧ (∀ r ∈ rows, r.length = sz ∧ ∀ z ∈ r, i64W z) ∧ rows.length ≤ maxLen := by
  rcases DataW.trod_slice ht hf with ⟨h0, -⟩ | ⟨a', n', c, elems, rest, m, -, hcs, -, hb, hlc, hm, hlen, hel, -, -⟩
  · cases h0
    exact ⟨[], ⟨_, _, rfl, Nat.le_refl _, .inl rfl⟩, by simp, Nat.zero_le _⟩
  · cases hcs
    have key : ∀ q, q < n' → ∃ zs : List Int, zs.length = sz ∧ (∀ z ∈ zs, i64W z) ∧ ∀ j u, (ints zs)[j]? = some u → W.cell? ((a'.add (q * sz)).add j) = some u := fun q hq => by
      have h1 := hel q hq
      rw [hce, List.getElem?_eq_getElem (by omega)] at h1
      cases hcl : W.cells? b (a'.add (q * sz)) sz with
      | none => rw [hcl] at h1; cases h1
      | some cs =>
        rw [hcl] at h1
        simp only [Option.bind_some] at h1
        obtain ⟨-, h5, h6⟩ := World.cells?_some hcl
        obtain ⟨zs, rfl, hl, hz⟩ := intRow he h1
        refine ⟨zs, by rw [hl, hce], hz, fun j u hu => ?_⟩
        have hj : j < sz := by
          have := (List.getElem?_eq_some_iff.1 hu).1
          rw [ints_len, hl, hce] at this; exact this
        rw [h6 j hj]; exact hu
    by_cases hn0 : n' = 0
    · subst hn0
      exact ⟨[], ⟨_, _, rfl, Nat.zero_le _, .inl rfl⟩, by simp, Nat.zero_le _⟩
    · have hch : ∃ Z : Nat → List Int, ∀ q, q < n' → (Z q).length = sz ∧ (∀ z ∈ Z q, i64W z) ∧ ∀ j u, (ints (Z q))[j]? = some u → W.cell? ((a'.add (q * sz)).add j) = some u := by
        refine ⟨fun q => if h : q < n' then Classical.choose (key q h) else [], fun q hq => ?_⟩
        simp only [dif_pos hq]
        exact Classical.choose_spec (key q hq)
      obtain ⟨Z, hZ⟩ := hch
      have h0 := hZ 0 (by omega)
      have hz0 := h0.2.2 0 _ (ints_get (by rw [h0.1]; exact hsz))
      rw [Nat.zero_mul, show (a'.add 0).add 0 = a' by simp [Addr.add]] at hz0
      obtain ⟨ha, hblk⟩ := spot_none hz0
      have hadd : ∀ q j, (a'.add (q * sz)).add j = ⟨a'.block, a'.off + q * sz + j, none⟩ := fun q j => by rw [ha, add_lit, add_lit]
      refine ⟨(List.range n').map Z, ⟨some a', c, by simp, by simpa using hlc, .inr ⟨a'.block, a'.off, congrArg some ha, hblk, fun i rw' j u hi hu => ?_⟩⟩, fun r hr => ?_, by simpa using (by omega : n' ≤ maxLen)⟩
      · rw [List.getElem?_map, List.getElem?_map] at hi
        have hin : i < n' := by
          refine Classical.byContradiction fun hn => ?_
          rw [List.getElem?_eq_none (by rw [List.length_range]; omega)] at hi
          cases hi
        rw [List.getElem?_range hin] at hi
        simp only [Option.map_some, Option.some.injEq] at hi
        subst hi
        have := (hZ i hin).2.2 j u hu
        rwa [hadd] at this
      · obtain ⟨q, hq, rfl⟩ := List.mem_map.1 hr
        have := hZ q (List.mem_range.1 hq)
        exact ⟨this.1, this.2.1⟩
end
end Go.Sx
namespace Go.Sx
open Go Go.Proofs Go.ChangeShapes Go.WideShapes Go.ChangeAt Go.RowKit
section
variable {H : Type} {enc : TypeId × Value → H} {W : World} {r : Reach} {b0 b : Nat} {sp : Nat → Bool} {hd : Bool} {v : Value} {d : DataW H} {p : List MemPlace}
theorem agg_cells {t : TypeId} {P : Program} {n : Nat} (ha : ∃ cs, v = .agg cs ∧ cs.size = P.cellsOf t) (hn : P.cellsOf t = n) : ∃ l : List Value, v = .agg l.toArray ∧ l.length = n ∧ v.cells.toList = l := by
  obtain ⟨cs, rfl, h⟩ := ha
  exact ⟨cs.toList, by simp, by simp [h, hn], rfl⟩
theorem okWide_struct {P : Program} {t : TypeId} {fs : Array Field} (ht : P.underlying t = some (.struct fs)) (h : Value.okWide P W r b0 t v) : ∃ cs, v = .agg cs ∧ cs.size = P.cellsOf t := by
  simp only [Value.okWide, ht] at h
  obtain ⟨cs, h1, h2, _⟩ := h
  exact ⟨cs, h1, h2⟩
theorem open_intK {t : TypeId} {P : Program} (ht : P.underlying t = some (.int .i64)) (hv : Value.okWide P W r b0 t v) (h : DataW.Trod enc P W b sp hd t v d p) : ∃ x : Int, v = zv x ∧ i64W x := by
  obtain ⟨z, rfl⟩ := okWide_int ht hv
  obtain ⟨fuel, hf⟩ := h
  have hf' : DataW.trod enc P W b sp hd fuel t [.int .i64 z] = some (d, p) := hf
  obtain ⟨z', e, -, hw⟩ := DataW.trod_int ht hf'
  cases e
  exact ⟨z, rfl, i64_of hw⟩
set_option maxRecDepth 100000 in
theorem open_rowsK {t e sz : TypeId} (ht : Tryz.prog.underlying t = some (.slice e)) (hi : intCellsB Tryz.prog 3 e = true) (hc : Tryz.prog.cellsOf e = sz) (hsz : 0 < sz) (hv : Value.okWide Tryz.prog W r b0 t v) (h : DataW.Trod enc Tryz.prog W b sp hd t v d p) :
    ∃ rows : List (List Int), RdA sz W v rows ∧ (∀ r ∈ rows, r.length = sz ∧ ∀ z ∈ r, i64W z) ∧ rows.length ≤ maxLen := by
  obtain ⟨fuel, hf⟩ := h
  obtain ⟨a, n, c, rfl⟩ := okWide_slice ht hv
  have hcells : (Value.slice a n c).cells.toList = [Value.slice a n c] := rfl
  rw [hcells] at hf
  exact sl_rows ht hi hc hsz hf
end
theorem two {y : List Int} (h : y.length = 2) : ∃ a b, y = [a, b] := by
  match y, h with
  | [a, b], _ => exact ⟨a, b, rfl⟩
end Go.Sx
/- Chapter 24: the laid variables. -/
namespace Go.Sx
open Go Go.Proofs Go.ChangeShapes Go.WideShapes Go.ChangeAt Go.RowKit
def kZ : List Int := kL.map fun x => ((x.toNat : Nat) : Int)
theorem kZ_data : (YtdfkohdcoigofaaGreatDoor.Rows.laid_evergreen_digest_round : DataW Unit) = Lib.tabData .u32 kZ := by kernel_rfl
def laid1 : List (String × DataW Unit) := [("evergreen/digest.round", YtdfkohdcoigofaaGreatDoor.Rows.laid_evergreen_digest_round)]
end Go.Sx
/- TopLawful: the laid variables. -/
namespace Go.Sx
open Go Go.Proofs Go.ChangeShapes Go.WideShapes Go.ChangeAt Go.RowKit
def laidT : List (String × DataW Unit) := [("unicode/utf8.acceptRanges", YtdfkohdcoigofaaGreatDoor.Rows.laid_unicode_utf8_acceptRanges), ("evergreen/digest.round", YtdfkohdcoigofaaGreatDoor.Rows.laid_evergreen_digest_round), ("unicode.CaseRanges", YtdfkohdcoigofaaGreatDoor.Rows.laid_unicode_CaseRanges), ("unicode/utf8.first", YtdfkohdcoigofaaGreatDoor.Rows.laid_unicode_utf8_first)]
theorem laidT_plain {W : World} (h : laidMetH Tryz.prog laidT W) : laidMet Tryz.prog laidT W := by
  rwa [MakeChecks.laidMetH_plain _ _ _ (by kernel_rfl)] at h
theorem round_of_laidT {W : World} (h : laidMetH Tryz.prog laidT W) : RoundG W := by
  have h1 := (laidT_plain h).tail
  have h2 : laidMet Tryz.prog (("evergreen/digest.round", Lib.tabData .u32 kZ) :: [("unicode.CaseRanges", YtdfkohdcoigofaaGreatDoor.Rows.laid_unicode_CaseRanges), ("unicode/utf8.first", YtdfkohdcoigofaaGreatDoor.Rows.laid_unicode_utf8_first)]) W := by
    rw [← kZ_data]; exact h1
  have hT := Lib.tabIs_of_head (g := 0) (by kernel_rfl) (by kernel_rfl) Tryz.underlying308 Tryz.underlying242 (by kernel_rfl) (by kernel_rfl) h2
  intro i v hv
  have hlen : kZ.length = 64 := by kernel_rfl
  have hi : i < 64 := by
    have := (List.getElem?_eq_some_iff.1 hv).1
    unfold ws at this
    rw [List.length_map] at this
    exact this
  have hc := hT.cell (g := 0) (by kernel_rfl) i (by rw [hlen]; exact hi)
  rw [hc]
  unfold ws at hv
  rw [List.getElem?_map, List.getElem?_eq_getElem (by exact hi)] at hv
  rw [← hv]
  have hk : i < kL.length := hi
  have : kZ.getD i 0 = ((kL[i].toNat : Nat) : Int) := by unfold kZ; simp [hk]
  rw [this]; rfl
end Go.Sx
/- TopHidden: its arguments. -/
namespace Go.Sx
open Go Go.Proofs Go.ChangeShapes Go.WideShapes Go.ChangeAt Go.RowKit
section
variable {H : Type} {enc : TypeId × Value → H} {W : World} {r : Reach} {b0 b : Nat} {sp : Nat → Bool} {hd : Bool} {v : Value} {d : DataW H} {p : List MemPlace}
theorem open_strH {t : TypeId} {P : Program} (ht : P.underlying t = some .string) (hv : Value.okWide P W r b0 t v) (h : DataW.Trod enc P W b sp hd t v d p) : ∃ s : ByteArray, v = .string s ∧ s.size ≤ maxLen := by
  obtain ⟨s, rfl⟩ := okWide_string ht hv
  obtain ⟨fuel, hf⟩ := h
  have hf' : DataW.trod enc P W b sp hd fuel t [.string s] = some (d, p) := hf
  obtain ⟨z', e, -, hw⟩ := DataW.trod_string ht hf'
  cases e
  exact ⟨s, rfl, hw⟩
set_option maxRecDepth 100000 in
theorem open_caseH (hv : Value.okWide Tryz.prog W r b0 50 v) (h : DataW.Trod enc Tryz.prog W b sp hd 50 v d p) :
    ∃ (c0 c1 : Value) (ls xs : List (List Int)) (r0 r1 : Int), v = .agg #[c0, c1, zv r0, zv r1] ∧ RdA 2 W c0 ls ∧ (∀ y ∈ ls, y.length = 2 ∧ ∀ z ∈ y, i64W z) ∧ RdA 3 W c1 xs ∧ (∀ y ∈ xs, y.length = 3 ∧ ∀ z ∈ y, i64W z) ∧ i64W r0 ∧ i64W r1 := by
  obtain ⟨l, rfl, hl, hc⟩ := agg_cells (okWide_struct Tryz.underlying50 hv) (show Tryz.prog.cellsOf 50 = 4 by kernel_rfl)
  obtain ⟨fuel, hf⟩ := h
  rw [hc] at hf
  obtain ⟨xs, k, -, -, -, hxl, hfd⟩ := DataW.trod_struct Tryz.underlying50 hf
  match l, hl with
  | [c0, c1, c2, c3], _ =>
    have hx3 : xs.length = 3 := hxl
    have f0 := hfd 0 _ rfl
    have f1 := hfd 1 _ rfl
    have f2 := hfd 2 _ rfl
    rw [List.getElem?_eq_getElem (by omega)] at f0 f1 f2
    have g0 : DataW.trod enc Tryz.prog W b sp hd k 46 [c0] = some xs[0] := f0
    have g1 : DataW.trod enc Tryz.prog W b sp hd k 47 [c1] = some xs[1] := f1
    have g2 : DataW.trod enc Tryz.prog W b sp hd k 48 [c2, c3] = some xs[2] := f2
    obtain ⟨L, hL, hL1, -⟩ := sl_rows (n := 3) (sz := 2) Tryz.underlying46 (by kernel_rfl) (by kernel_rfl) (by decide) g0
    obtain ⟨X, hX, hX1, -⟩ := sl_rows (n := 3) (sz := 3) Tryz.underlying47 (by kernel_rfl) (by kernel_rfl) (by decide) g1
    obtain ⟨zs, e1, h1, h2⟩ := intRow (n := 3) (by kernel_rfl) g2
    have h5 : zs.length = 2 := by rw [h1]; kernel_rfl
    obtain ⟨a, b', rfl⟩ := two h5
    have e2 : c2 = zv a ∧ c3 = zv b' := by
      have := e1
      simp only [ints, List.map_cons, List.map_nil, List.cons.injEq, and_true] at this
      exact this
    obtain ⟨rfl, rfl⟩ := e2
    exact ⟨c0, c1, L, X, a, b', rfl, hL, hL1, hX, hX1, h2 a (by simp), h2 b' (by simp)⟩
end
end Go.Sx

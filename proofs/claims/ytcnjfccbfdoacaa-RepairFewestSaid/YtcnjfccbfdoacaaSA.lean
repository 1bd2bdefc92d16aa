/- sources of the law: some custodians; what they send is counted. -/
import Derived.Test.YtcnjfccbfdoacaaRZ
import Derived.Test.YtcnjfccbfdoacaaHw
namespace Go.Sx
open Go Go.Proofs
attribute [local irreducible] WC WL WX POp Then Again Fn NX W1 WA WO QL RP RA Yld LoopAt HC HL HX HN H1 HA HO HQ HB HP A.blk A.grow A.rd A.obj A.mp AgainH CutH
attribute [local irreducible] A.all A.ts planB planR planD planAt lastD
set_option maxHeartbeats 2000000 in
theorem sources_fn {w0 w : World} {K : List Atom} {bs : Nat} {sent : List Int} {B : Int} (c : CaseP) (zh zl zt : Option Addr × Nat) (v : Value) (has : List Int) (from_ : Nat) (hM : Mm w0 (A.blk bs (ints sent) 3 :: K) w) (hsl : sent.length = 9) (hsb : ∀ x ∈ sent, 0 ≤ x ∧ x ≤ B) (hB : B ≤ 1000000)
    (hR : ∀ w', Mm w0 K w' → Rd w' v (ints has)) (hhb : ∀ x ∈ has, 0 ≤ x ∧ x ≤ 8) (hhl : has.length ≤ 1000) (hh0 : 0 < has.length) (hf : from_ < has.length) (hk : 1 ≤ c.k ∧ c.k ≤ 9) :
    Fn Try.prog 37 #[v, .slice (some ⟨bs, 0, none⟩) 9 9, .agg (caseV c zh zl zt).toArray, .int .i64 (from_ : Int)] w fun u w' => ∃ z : List Int × List Int × (Option Addr × Nat) × Bool, (z.1.length ≤ 9 ∧ z.2.1.length = 9 ∧ ∀ x ∈ z.2.1, 0 ≤ x ∧ x ≤ B + 1) ∧
      u = .tuple #[.slice z.2.2.1.1 z.1.length z.2.2.1.2, .bool z.2.2.2] ∧ Mm w0 (A.grow 3 1 z.2.2.1.1 z.2.2.1.2 z.1.length (ints z.1) :: A.blk bs (ints z.2.1) 3 :: K) w' := by
  obtain ⟨a, ca, rfl, hca⟩ := (hR w hM.tail).isInts
  obtain ⟨bh, off, rfl, -⟩ := (hR w hM.tail).iat (by intro e; rw [e] at hh0; simp at hh0)
  refine enterK (l := [_, _, _, _]) hM rfl Try.ntmps37 rfl ?_
  repeat' (first | apply HL.fold | apply HA.fold | apply HL.nil | apply HX.n_then | apply HC.seq | apply HC.region | refine HL.pa ?_ | refine HL.ga rfl ?_ | refine HL.na rfl ?_ | refine HL.nu rfl rfl ?_ | apply HC.block | apply HC.skip | apply HC.exit | apply HC.ret | apply HX.e_block | refine HX.e_other rfl ?_ | apply HX.e_then | apply HX.e_again | apply HX.n_block | apply HX.r_then | apply HX.r_block | apply HX.r_again | refine HC.cond_yes rfl ?_ | refine HC.cond_no rfl ?_ | refine HL.one (H1.ldb rfl (by repeat (first | with_reducible exact mem_hd | with_reducible apply mem_tl)) rfl rfl ?_) | refine HC.cond rfl (fun hc => ?_) (fun hc => ?_) | refine HC.cond_b rfl (fun hc => ?_) (fun hc => ?_))
  refine HL.one (H1.boxAgg (cs := caseV c zh zl zt) rfl rfl (fun b6 => ?_))
  repeat' (first | apply HL.fold | apply HA.fold | apply HL.nil | apply HX.n_then | apply HC.seq | apply HC.region | refine HL.pa ?_ | refine HL.ga rfl ?_ | refine HL.na rfl ?_ | refine HL.nu rfl rfl ?_ | apply HC.block | apply HC.skip | apply HC.exit | apply HC.ret | apply HX.e_block | refine HX.e_other rfl ?_ | apply HX.e_then | apply HX.e_again | apply HX.n_block | apply HX.r_then | apply HX.r_block | apply HX.r_again | refine HC.cond_yes rfl ?_ | refine HC.cond_no rfl ?_ | refine HL.one (H1.ldb rfl (by repeat (first | with_reducible exact mem_hd | with_reducible apply mem_tl)) rfl rfl ?_) | refine HC.cond rfl (fun hc => ?_) (fun hc => ?_) | refine HC.cond_b rfl (fun hc => ?_) (fun hc => ?_))
  refine HL.one (H1.make (l := 9) (c := 9) rfl rfl rfl rfl rfl (by decide) (by decide) (by decide) rfl (fun bc => ?_))
  repeat' (first | apply HL.fold | apply HA.fold | apply HL.nil | apply HX.n_then | apply HC.seq | apply HC.region | refine HL.pa ?_ | refine HL.ga rfl ?_ | refine HL.na rfl ?_ | refine HL.nu rfl rfl ?_ | apply HC.skip | apply HC.exit | apply HC.ret | apply HX.e_block | refine HX.e_other rfl ?_ | apply HX.e_then | apply HX.e_again | apply HX.n_block | apply HX.r_then | apply HX.r_block | apply HX.r_again | refine HC.cond_yes rfl ?_ | refine HC.cond_no rfl ?_ | refine HL.one (H1.ldb rfl (by repeat (first | with_reducible exact mem_hd | with_reducible apply mem_tl)) rfl rfl ?_) | refine HC.cond rfl (fun hc => ?_) (fun hc => ?_) | refine HC.cond_b rfl (fun hc => ?_) (fun hc => ?_))
  simp only [caseV]
  refine HC.cut (α := Nat × (Nat → Bool)) (fun z => [(1, .slice (some ⟨bs, 0, none⟩) 9 9), (6, .pointer (some ⟨b6, 0, none⟩)), (10, .slice (some ⟨bc, 0, none⟩) 9 9), (11, .int .i64 (z.1 : Int))]) (fun z => A.blk bc (row 9 fun j => .bool (z.2 j)) 4 :: A.blk b6 [.slice zh.1 c.holders.length zh.2, .slice zl.1 c.lost.length zl.2, .slice zt.1 c.to.length zt.2, .int .i64 c.width, .int .i64 c.k, .int .i64 c.deadline] 28 :: A.blk bs (ints sent) 3 :: K) (fun z => z.1 ≤ has.length) ?_ ?_
  · repeat' (first | apply HL.fold | apply HA.fold | apply HL.nil | apply HX.n_then | apply HC.seq | apply HC.region | refine HL.pa ?_ | refine HL.ga rfl ?_ | refine HL.na rfl ?_ | refine HL.nu rfl rfl ?_ | apply HC.block | apply HC.skip | apply HC.exit | apply HC.ret | apply HX.e_block | refine HX.e_other rfl ?_ | apply HX.e_then | apply HX.e_again | apply HX.n_block | apply HX.r_then | apply HX.r_block | apply HX.r_again | refine HC.cond_yes rfl ?_ | refine HC.cond_no rfl ?_ | refine HL.one (H1.ldb rfl (by repeat (first | with_reducible exact mem_hd | with_reducible apply mem_tl)) rfl rfl ?_) | refine HC.cond rfl (fun hc => ?_) (fun hc => ?_) | refine HC.cond_b rfl (fun hc => ?_) (fun hc => ?_))
    refine HC.loop (α := Nat × Nat × (Nat → Bool)) (fun z => [(0, .slice (some ⟨bh, off, none⟩) has.length ca), (3, .int .i64 (from_ : Int)), (1, .slice (some ⟨bs, 0, none⟩) 9 9), (6, .pointer (some ⟨b6, 0, none⟩)), (10, .slice (some ⟨bc, 0, none⟩) 9 9), (11, .int .i64 (z.2.1 : Int)), (12, .int .i64 (z.1 : Int))])
      (fun z => A.blk bc (row 9 fun j => .bool (z.2.2 j)) 4 :: A.blk b6 [.slice zh.1 c.holders.length zh.2, .slice zl.1 c.lost.length zl.2, .slice zt.1 c.to.length zt.2, .int .i64 c.width, .int .i64 c.k, .int .i64 c.deadline] 28 :: A.blk bs (ints sent) 3 :: K) (fun z => z.1 ≤ has.length ∧ z.2.1 ≤ z.1) (fun z => has.length - z.1) (0, 0, fun _ => false) ⟨Nat.zero_le _, Nat.le_refl _⟩ (by repeat (first | exact trivial | refine ⟨rfl, ?_⟩)) (Hs.refl _) ?_
    rintro ⟨i, n, f⟩ ⟨hi, hni⟩
    dsimp only at hi hni ⊢
    by_cases hlt : i < has.length
    rotate_left
    · repeat' (first | apply HL.fold | apply HA.fold | apply HL.nil | apply HX.n_then | apply HC.seq | apply HC.region | refine HL.pa ?_ | refine HL.ga rfl ?_ | refine HL.na rfl ?_ | refine HL.nu rfl rfl ?_ | apply HC.block | apply HC.skip | apply HC.exit | apply HC.ret | apply HX.e_block | refine HX.e_other rfl ?_ | apply HX.e_then | apply HX.e_again | apply HX.n_block | apply HX.r_then | apply HX.r_block | apply HX.r_again | refine HC.cond_yes rfl ?_ | refine HC.cond_no rfl ?_ | refine HL.one (H1.ldb rfl (by repeat (first | with_reducible exact mem_hd | with_reducible apply mem_tl)) rfl rfl ?_) | refine HC.cond rfl (fun hc => ?_) (fun hc => ?_) | refine HC.cond_b rfl (fun hc => ?_) (fun hc => ?_))
      exact HX.cut (n, f) (by show n ≤ _; omega) (by repeat (first | exact trivial | refine ⟨rfl, ?_⟩)) (Hs.refl _)
    by_cases hnk : (n : Int) < c.k
    rotate_left
    · repeat' (first | apply HL.fold | apply HA.fold | apply HL.nil | apply HX.n_then | apply HC.seq | apply HC.region | refine HL.pa ?_ | refine HL.ga rfl ?_ | refine HL.na rfl ?_ | refine HL.nu rfl rfl ?_ | apply HC.block | apply HC.skip | apply HC.exit | apply HC.ret | apply HX.e_block | refine HX.e_other rfl ?_ | apply HX.e_then | apply HX.e_again | apply HX.n_block | apply HX.r_then | apply HX.r_block | apply HX.r_again | refine HC.cond_yes rfl ?_ | refine HC.cond_no rfl ?_ | refine HL.one (H1.ldb rfl (by repeat (first | with_reducible exact mem_hd | with_reducible apply mem_tl)) rfl rfl ?_) | refine HC.cond rfl (fun hc => ?_) (fun hc => ?_) | refine HC.cond_b rfl (fun hc => ?_) (fun hc => ?_))
      exact HX.cut (n, f) (by show n ≤ _; omega) (by repeat (first | exact trivial | refine ⟨rfl, ?_⟩)) (Hs.refl _)
    obtain ⟨q, hq⟩ : ∃ q, q = (from_ + i) % has.length := ⟨_, rfl⟩
    have hql : q < has.length := by rw [hq]; exact Nat.mod_lt _ hh0
    have hqi : ((from_ : Int) + (i : Int)) % (has.length : Int) = (q : Int) := by rw [hq]; push_cast; rfl
    obtain ⟨x, hx⟩ : ∃ x : Nat, at' has q = (x : Int) := ⟨(at' has q).toNat, by have := hhb _ (at_mem hql); omega⟩
    have hx8 : x ≤ 8 := by have := hhb _ (at_mem hql); omega
    have hgq : (ints has)[q]? = some (.int .i64 (x : Int)) := by rw [ints_get hql, hx]
    have hgs := ints_get (show x < sent.length by omega)
    repeat' (first | apply HL.fold | apply HA.fold | apply HL.nil | apply HX.n_then | apply HC.seq | apply HC.region | refine HL.pa ?_ | refine HL.ga rfl ?_ | refine HL.na rfl ?_ | refine HL.nu rfl rfl ?_ | apply HC.block | apply HC.skip | apply HC.exit | apply HC.ret | apply HX.e_block | refine HX.e_other rfl ?_ | apply HX.e_then | apply HX.e_again | apply HX.n_block | apply HX.r_then | apply HX.r_block | apply HX.r_again | refine HC.cond_yes rfl ?_ | refine HC.cond_no rfl ?_ | refine HL.one (H1.ldb rfl (by repeat (first | with_reducible exact mem_hd | with_reducible apply mem_tl)) rfl rfl ?_) | refine HC.cond rfl (fun hc => ?_) (fun hc => ?_) | refine HC.cond_b rfl (fun hc => ?_) (fun hc => ?_))
    rw [hqi]
    repeat' (first | apply HL.fold | apply HA.fold | apply HL.nil | apply HX.n_then | apply HC.seq | apply HC.region | refine HL.pa ?_ | refine HL.ga rfl ?_ | refine HL.na rfl ?_ | refine HL.nu rfl rfl ?_ | apply HC.block | apply HC.skip | apply HC.exit | apply HC.ret | apply HX.e_block | refine HX.e_other rfl ?_ | apply HX.e_then | apply HX.e_again | apply HX.n_block | apply HX.r_then | apply HX.r_block | apply HX.r_again | refine HC.cond_yes rfl ?_ | refine HC.cond_no rfl ?_ | refine HL.one (H1.ldb rfl (by repeat (first | with_reducible exact mem_hd | with_reducible apply mem_tl)) rfl rfl ?_) | refine HC.cond rfl (fun hc => ?_) (fun hc => ?_) | refine HC.cond_b rfl (fun hc => ?_) (fun hc => ?_))
    refine HL.one (H1.ldw rfl (fun w hM => (hR w hM.tail.tail.tail).cell hgq) rfl ?_)
    repeat' (first | apply HL.fold | apply HA.fold | apply HL.nil | apply HX.n_then | apply HC.seq | apply HC.region | refine HL.pa ?_ | refine HL.ga rfl ?_ | refine HL.na rfl ?_ | refine HL.nu rfl rfl ?_ | apply HC.block | apply HC.skip | apply HC.exit | apply HC.ret | apply HX.e_block | refine HX.e_other rfl ?_ | apply HX.e_then | apply HX.e_again | apply HX.n_block | apply HX.r_then | apply HX.r_block | apply HX.r_again | refine HC.cond_yes rfl ?_ | refine HC.cond_no rfl ?_ | refine HL.one (H1.ldb rfl (by repeat (first | with_reducible exact mem_hd | with_reducible apply mem_tl)) rfl rfl ?_) | refine HC.cond rfl (fun hc => ?_) (fun hc => ?_) | refine HC.cond_b rfl (fun hc => ?_) (fun hc => ?_))
    by_cases hsw : at' sent x < c.width
    · refine HC.anyC ([(⟨bs, x, none⟩, zv (at' sent x)), (⟨b6, 3, none⟩, .int .i64 c.width)]) rfl ?_
      refine HB.pa 0 rfl ?_
      refine HB.pa 1 rfl ?_
      refine HB.pa 2 rfl ?_
      refine HB.ld 3 rfl rfl (by repeat (first | exact List.Mem.head _ | apply List.Mem.tail)) ?_
      refine HB.pa 4 rfl ?_
      refine HB.ld 5 rfl rfl (by repeat (first | exact List.Mem.head _ | apply List.Mem.tail)) ?_
      refine HB.pa 6 rfl ?_
      refine HB.done (by refine Keep.blk (.tail _ (.tail _ (.head _))) hgs (Keep.blk (.tail _ (.head _)) rfl Keep.nil)) (by kernel_rfl) ?_
      repeat' (first | apply HL.fold | apply HA.fold | apply HL.nil | apply HX.n_then | apply HC.seq | apply HC.region | refine HL.pa ?_ | refine HL.ga rfl ?_ | refine HL.na rfl ?_ | refine HL.nu rfl rfl ?_ | apply HC.block | apply HC.skip | apply HC.exit | apply HC.ret | apply HX.e_block | refine HX.e_other rfl ?_ | apply HX.e_then | apply HX.e_again | apply HX.n_block | apply HX.r_then | apply HX.r_block | apply HX.r_again | refine HC.cond_yes rfl ?_ | refine HC.cond_no rfl ?_ | refine HL.one (H1.ldb rfl (by repeat (first | with_reducible exact mem_hd | with_reducible apply mem_tl)) rfl rfl ?_) | refine HC.cond rfl (fun hc => ?_) (fun hc => ?_) | refine HC.cond_b rfl (fun hc => ?_) (fun hc => ?_))
      refine HL.one (H1.st rfl rfl (by intro _ h; cases h) (by intro _ h; cases h) (by repeat (first | exact Rpl.here | apply Rpl.there)) (by rw [row_len]; omega) ?_)
      rw [row_set]
      repeat' (first | apply HL.fold | apply HA.fold | apply HL.nil | apply HX.n_then | apply HC.seq | apply HC.region | refine HL.pa ?_ | refine HL.ga rfl ?_ | refine HL.na rfl ?_ | refine HL.nu rfl rfl ?_ | apply HC.block | apply HC.skip | apply HC.exit | apply HC.ret | apply HX.e_block | refine HX.e_other rfl ?_ | apply HX.e_then | apply HX.e_again | apply HX.n_block | apply HX.r_then | apply HX.r_block | apply HX.r_again | refine HC.cond_yes rfl ?_ | refine HC.cond_no rfl ?_ | refine HL.one (H1.ldb rfl (by repeat (first | with_reducible exact mem_hd | with_reducible apply mem_tl)) rfl rfl ?_) | refine HC.cond rfl (fun hc => ?_) (fun hc => ?_) | refine HC.cond_b rfl (fun hc => ?_) (fun hc => ?_))
      refine HX.again (i + 1, n + 1, fun j => if j = x then true else f j) ⟨by show i + 1 ≤ _; omega, by show n + 1 ≤ i + 1; omega⟩ (by show has.length - (i + 1) < has.length - i; omega) (by repeat (first | exact trivial | refine ⟨rfl, ?_⟩)) ?_
      dsimp only
      rw [show (row 9 fun j => if j = x then Value.bool true else .bool (f j)) = row 9 fun j => .bool (if j = x then true else f j) from row_congr fun j _ => by split <;> rfl]
      exact Hs.refl _
    · skip
      refine HC.anyC ([(⟨bs, x, none⟩, zv (at' sent x)), (⟨b6, 3, none⟩, .int .i64 c.width)]) rfl ?_
      refine HB.pa 0 rfl ?_
      refine HB.pa 1 rfl ?_
      refine HB.pa 2 rfl ?_
      refine HB.ld 3 rfl rfl (by repeat (first | exact List.Mem.head _ | apply List.Mem.tail)) ?_
      refine HB.pa 4 rfl ?_
      refine HB.ld 5 rfl rfl (by repeat (first | exact List.Mem.head _ | apply List.Mem.tail)) ?_
      refine HB.pa 6 rfl ?_
      refine HB.done (by refine Keep.blk (.tail _ (.tail _ (.head _))) hgs (Keep.blk (.tail _ (.head _)) rfl Keep.nil)) (by kernel_rfl) ?_
      repeat' (first | apply HL.fold | apply HA.fold | apply HL.nil | apply HX.n_then | apply HC.seq | apply HC.region | refine HL.pa ?_ | refine HL.ga rfl ?_ | refine HL.na rfl ?_ | refine HL.nu rfl rfl ?_ | apply HC.block | apply HC.skip | apply HC.exit | apply HC.ret | apply HX.e_block | refine HX.e_other rfl ?_ | apply HX.e_then | apply HX.e_again | apply HX.n_block | apply HX.r_then | apply HX.r_block | apply HX.r_again | refine HC.cond_yes rfl ?_ | refine HC.cond_no rfl ?_ | refine HL.one (H1.ldb rfl (by repeat (first | with_reducible exact mem_hd | with_reducible apply mem_tl)) rfl rfl ?_) | refine HC.cond rfl (fun hc => ?_) (fun hc => ?_) | refine HC.cond_b rfl (fun hc => ?_) (fun hc => ?_))
      exact HX.again (i + 1, n, f) ⟨by show i + 1 ≤ _; omega, by show n ≤ i + 1; omega⟩ (by show has.length - (i + 1) < has.length - i; omega) (by repeat (first | exact trivial | refine ⟨rfl, ?_⟩)) (Hs.refl _)
  rintro ⟨n, f⟩ hn
  dsimp only at hn ⊢
  repeat' (first | apply HL.fold | apply HA.fold | apply HL.nil | apply HX.n_then | apply HC.seq | apply HC.region | refine HL.pa ?_ | refine HL.ga rfl ?_ | refine HL.na rfl ?_ | refine HL.nu rfl rfl ?_ | apply HC.skip | apply HC.exit | apply HC.ret | apply HX.e_block | refine HX.e_other rfl ?_ | apply HX.e_then | apply HX.e_again | apply HX.n_block | apply HX.r_then | apply HX.r_block | apply HX.r_again | refine HC.cond_yes rfl ?_ | refine HC.cond_no rfl ?_ | refine HL.one (H1.ldb rfl (by repeat (first | with_reducible exact mem_hd | with_reducible apply mem_tl)) rfl rfl ?_) | refine HC.cond rfl (fun hc => ?_) (fun hc => ?_) | refine HC.cond_b rfl (fun hc => ?_) (fun hc => ?_))
  refine HC.grow0 3 1 ?_
  refine HC.cut (α := List Int × List Int × (Option Addr × Nat)) (fun z => [(6, .pointer (some ⟨b6, 0, none⟩)), (11, .int .i64 (n : Int)), (14, .slice z.2.2.1 z.1.length z.2.2.2)])
    (fun z => A.grow 3 1 z.2.2.1 z.2.2.2 z.1.length (ints z.1) :: A.blk bs (ints z.2.1) 3 :: A.blk b6 [.slice zh.1 c.holders.length zh.2, .slice zl.1 c.lost.length zl.2, .slice zt.1 c.to.length zt.2, .int .i64 c.width, .int .i64 c.k, .int .i64 c.deadline] 28 :: K) (fun z => z.1.length ≤ 9 ∧ z.2.1.length = 9 ∧ ∀ x ∈ z.2.1, 0 ≤ x ∧ x ≤ B + 1) ?_ ?_
  · have fin : ∀ (i : Nat) (s' : List Int), s'.length = 9 → (∀ j, j < 9 → 0 ≤ at' s' j ∧ at' s' j ≤ B + (if j < i then 1 else 0)) → ∀ x ∈ s', 0 ≤ x ∧ x ≤ B + 1 := fun i s' h1 h2 x hx => by
      obtain ⟨j, hj, rfl⟩ := mem_at hx
      have := h2 j (by omega)
      split at this <;> omega
    repeat' (first | apply HL.fold | apply HA.fold | apply HL.nil | apply HX.n_then | apply HC.seq | apply HC.region | refine HL.pa ?_ | refine HL.ga rfl ?_ | refine HL.na rfl ?_ | refine HL.nu rfl rfl ?_ | apply HC.block | apply HC.skip | apply HC.exit | apply HC.ret | apply HX.e_block | refine HX.e_other rfl ?_ | apply HX.e_then | apply HX.e_again | apply HX.n_block | apply HX.r_then | apply HX.r_block | apply HX.r_again | refine HC.cond_yes rfl ?_ | refine HC.cond_no rfl ?_ | refine HL.one (H1.ldb rfl (by repeat (first | with_reducible exact mem_hd | with_reducible apply mem_tl)) rfl rfl ?_) | refine HC.cond rfl (fun hc => ?_) (fun hc => ?_) | refine HC.cond_b rfl (fun hc => ?_) (fun hc => ?_))
    refine HC.loop (α := Nat × List Int × List Int × (Option Addr × Nat)) (fun z => [(1, .slice (some ⟨bs, 0, none⟩) 9 9), (6, .pointer (some ⟨b6, 0, none⟩)), (10, .slice (some ⟨bc, 0, none⟩) 9 9), (11, .int .i64 (n : Int)), (14, .slice z.2.2.2.1 z.2.1.length z.2.2.2.2), (15, .int .i64 (z.1 : Int))])
      (fun z => A.grow 3 1 z.2.2.2.1 z.2.2.2.2 z.2.1.length (ints z.2.1) :: A.blk bc (row 9 fun j => .bool (f j)) 4 :: A.blk b6 [.slice zh.1 c.holders.length zh.2, .slice zl.1 c.lost.length zl.2, .slice zt.1 c.to.length zt.2, .int .i64 c.width, .int .i64 c.k, .int .i64 c.deadline] 28 :: A.blk bs (ints z.2.2.1) 3 :: K)
      (fun z => z.1 ≤ 9 ∧ z.2.1.length ≤ z.1 ∧ z.2.2.1.length = 9 ∧ ∀ j, j < 9 → 0 ≤ at' z.2.2.1 j ∧ at' z.2.2.1 j ≤ B + (if j < z.1 then 1 else 0)) (fun z => 9 - z.1) (0, [], sent, (none, 0)) ⟨Nat.zero_le _, Nat.le_refl _, hsl, fun j hj => by
        have := hsb _ (at_mem (show j < sent.length by omega))
        dsimp only; rw [if_neg (Nat.not_lt_zero j)]; omega⟩ (by repeat (first | exact trivial | refine ⟨rfl, ?_⟩)) (Hs.refl _) ?_
    rintro ⟨i, l, s', ⟨aL, cL⟩⟩ ⟨hi, hll, hs9, hsj⟩
    dsimp only at hi hll hs9 hsj ⊢
    by_cases hlt : i < 9
    rotate_left
    · repeat' (first | apply HL.fold | apply HA.fold | apply HL.nil | apply HX.n_then | apply HC.seq | apply HC.region | refine HL.pa ?_ | refine HL.ga rfl ?_ | refine HL.na rfl ?_ | refine HL.nu rfl rfl ?_ | apply HC.block | apply HC.skip | apply HC.exit | apply HC.ret | apply HX.e_block | refine HX.e_other rfl ?_ | apply HX.e_then | apply HX.e_again | apply HX.n_block | apply HX.r_then | apply HX.r_block | apply HX.r_again | refine HC.cond_yes rfl ?_ | refine HC.cond_no rfl ?_ | refine HL.one (H1.ldb rfl (by repeat (first | with_reducible exact mem_hd | with_reducible apply mem_tl)) rfl rfl ?_) | refine HC.cond rfl (fun hc => ?_) (fun hc => ?_) | refine HC.cond_b rfl (fun hc => ?_) (fun hc => ?_))
      refine HX.cut (l, s', (aL, cL)) ⟨by show l.length ≤ 9; omega, hs9, fin i s' hs9 hsj⟩ (by repeat (first | exact trivial | refine ⟨rfl, ?_⟩)) (Hs.cons Pick.here (Hs.cons (Pick.there (Pick.there Pick.here)) (Hs.cons (Pick.there Pick.here) Hs.skip)))
    by_cases hnk : (n : Int) = c.k
    rotate_left
    · repeat' (first | apply HL.fold | apply HA.fold | apply HL.nil | apply HX.n_then | apply HC.seq | apply HC.region | refine HL.pa ?_ | refine HL.ga rfl ?_ | refine HL.na rfl ?_ | refine HL.nu rfl rfl ?_ | apply HC.block | apply HC.skip | apply HC.exit | apply HC.ret | apply HX.e_block | refine HX.e_other rfl ?_ | apply HX.e_then | apply HX.e_again | apply HX.n_block | apply HX.r_then | apply HX.r_block | apply HX.r_again | refine HC.cond_yes rfl ?_ | refine HC.cond_no rfl ?_ | refine HL.one (H1.ldb rfl (by repeat (first | with_reducible exact mem_hd | with_reducible apply mem_tl)) rfl rfl ?_) | refine HC.cond rfl (fun hc => ?_) (fun hc => ?_) | refine HC.cond_b rfl (fun hc => ?_) (fun hc => ?_))
      refine HX.cut (l, s', (aL, cL)) ⟨by show l.length ≤ 9; omega, hs9, fin i s' hs9 hsj⟩ (by repeat (first | exact trivial | refine ⟨rfl, ?_⟩)) (Hs.cons Pick.here (Hs.cons (Pick.there (Pick.there Pick.here)) (Hs.cons (Pick.there Pick.here) Hs.skip)))
    have hgf := row_get (fun j => Value.bool (f j)) hlt
    have hgs := ints_get (show i < s'.length by omega)
    have hsi := hsj i hlt
    rw [if_neg (Nat.lt_irrefl i)] at hsi
    cases hfi : f i with
    | false =>
      rw [hfi] at hgf
      repeat' (first | apply HL.fold | apply HA.fold | apply HL.nil | apply HX.n_then | apply HC.seq | apply HC.region | refine HL.pa ?_ | refine HL.ga rfl ?_ | refine HL.na rfl ?_ | refine HL.nu rfl rfl ?_ | apply HC.block | apply HC.skip | apply HC.exit | apply HC.ret | apply HX.e_block | refine HX.e_other rfl ?_ | apply HX.e_then | apply HX.e_again | apply HX.n_block | apply HX.r_then | apply HX.r_block | apply HX.r_again | refine HC.cond_yes rfl ?_ | refine HC.cond_no rfl ?_ | refine HL.one (H1.ldb rfl (by repeat (first | with_reducible exact mem_hd | with_reducible apply mem_tl)) rfl rfl ?_) | refine HC.cond rfl (fun hc => ?_) (fun hc => ?_) | refine HC.cond_b rfl (fun hc => ?_) (fun hc => ?_))
      refine HL.one (H1.ldb rfl (.tail _ (.head _)) hgf rfl ?_)
      repeat' (first | apply HL.fold | apply HA.fold | apply HL.nil | apply HX.n_then | apply HC.seq | apply HC.region | refine HL.pa ?_ | refine HL.ga rfl ?_ | refine HL.na rfl ?_ | refine HL.nu rfl rfl ?_ | apply HC.block | apply HC.skip | apply HC.exit | apply HC.ret | apply HX.e_block | refine HX.e_other rfl ?_ | apply HX.e_then | apply HX.e_again | apply HX.n_block | apply HX.r_then | apply HX.r_block | apply HX.r_again | refine HC.cond_yes rfl ?_ | refine HC.cond_no rfl ?_ | refine HL.one (H1.ldb rfl (by repeat (first | with_reducible exact mem_hd | with_reducible apply mem_tl)) rfl rfl ?_) | refine HC.cond rfl (fun hc => ?_) (fun hc => ?_) | refine HC.cond_b rfl (fun hc => ?_) (fun hc => ?_))
      refine HX.again (i + 1, l, s', (aL, cL)) ⟨by show i + 1 ≤ 9; omega, by show l.length ≤ i + 1; omega, hs9, fun j hj => ?_⟩ (by show 9 - (i + 1) < 9 - i; omega) (by repeat (first | exact trivial | refine ⟨rfl, ?_⟩)) (Hs.refl _)
      have := hsj j hj
      dsimp only
      split at this <;> split <;> omega
    | true =>
      rw [hfi] at hgf
      repeat' (first | apply HL.fold | apply HA.fold | apply HL.nil | apply HX.n_then | apply HC.seq | apply HC.region | refine HL.pa ?_ | refine HL.ga rfl ?_ | refine HL.na rfl ?_ | refine HL.nu rfl rfl ?_ | apply HC.block | apply HC.skip | apply HC.exit | apply HC.ret | apply HX.e_block | refine HX.e_other rfl ?_ | apply HX.e_then | apply HX.e_again | apply HX.n_block | apply HX.r_then | apply HX.r_block | apply HX.r_again | refine HC.cond_yes rfl ?_ | refine HC.cond_no rfl ?_ | refine HL.one (H1.ldb rfl (by repeat (first | with_reducible exact mem_hd | with_reducible apply mem_tl)) rfl rfl ?_) | refine HC.cond rfl (fun hc => ?_) (fun hc => ?_) | refine HC.cond_b rfl (fun hc => ?_) (fun hc => ?_))
      refine HL.one (H1.ldb rfl (.tail _ (.head _)) hgf rfl ?_)
      repeat' (first | apply HL.fold | apply HA.fold | apply HL.nil | apply HX.n_then | apply HC.seq | apply HC.region | refine HL.pa ?_ | refine HL.ga rfl ?_ | refine HL.na rfl ?_ | refine HL.nu rfl rfl ?_ | apply HC.block | apply HC.skip | apply HC.exit | apply HC.ret | apply HX.e_block | refine HX.e_other rfl ?_ | apply HX.e_then | apply HX.e_again | apply HX.n_block | apply HX.r_then | apply HX.r_block | apply HX.r_again | refine HC.cond_yes rfl ?_ | refine HC.cond_no rfl ?_ | refine HL.one (H1.ldb rfl (by repeat (first | with_reducible exact mem_hd | with_reducible apply mem_tl)) rfl rfl ?_) | refine HC.cond rfl (fun hc => ?_) (fun hc => ?_) | refine HC.cond_b rfl (fun hc => ?_) (fun hc => ?_))
      refine HL.one (H1.lit (cs := [.int .i64 (i : Int)]) rfl rfl rfl rfl rfl rfl (fun b3 => ?_))
      repeat' (first | apply HL.fold | apply HA.fold | apply HL.nil | apply HX.n_then | apply HC.seq | apply HC.region | refine HL.pa ?_ | refine HL.ga rfl ?_ | refine HL.na rfl ?_ | refine HL.nu rfl rfl ?_ | apply HC.block | apply HC.skip | apply HC.exit | apply HC.ret | apply HX.e_block | refine HX.e_other rfl ?_ | apply HX.e_then | apply HX.e_again | apply HX.n_block | apply HX.r_then | apply HX.r_block | apply HX.r_again | refine HC.cond_yes rfl ?_ | refine HC.cond_no rfl ?_ | refine HL.one (H1.ldb rfl (by repeat (first | with_reducible exact mem_hd | with_reducible apply mem_tl)) rfl rfl ?_) | refine HC.cond rfl (fun hc => ?_) (fun hc => ?_) | refine HC.cond_b rfl (fun hc => ?_) (fun hc => ?_))
      refine HL.one (H1.app1 (u := .int .i64 (i : Int)) rfl rfl (fun _ _ => by repeat (first | exact Rpl.here | apply Rpl.there)) (by repeat (first | exact mem_hd | apply mem_tl)) rfl rfl (by omega) rfl rfl (fun a4 c4 => ?_))
      repeat' (first | apply HL.fold | apply HA.fold | apply HL.nil | apply HX.n_then | apply HC.seq | apply HC.region | refine HL.pa ?_ | refine HL.ga rfl ?_ | refine HL.na rfl ?_ | refine HL.nu rfl rfl ?_ | apply HC.block | apply HC.skip | apply HC.exit | apply HC.ret | apply HX.e_block | refine HX.e_other rfl ?_ | apply HX.e_then | apply HX.e_again | apply HX.n_block | apply HX.r_then | apply HX.r_block | apply HX.r_again | refine HC.cond_yes rfl ?_ | refine HC.cond_no rfl ?_ | refine HL.one (H1.ldb rfl (by repeat (first | with_reducible exact mem_hd | with_reducible apply mem_tl)) rfl rfl ?_) | refine HC.cond rfl (fun hc => ?_) (fun hc => ?_) | refine HC.cond_b rfl (fun hc => ?_) (fun hc => ?_))
      refine HL.one (H1.ldb rfl (.tail _ (.tail _ (.tail _ (.tail _ (.head _))))) hgs rfl ?_)
      repeat' (first | apply HL.fold | apply HA.fold | apply HL.nil | apply HX.n_then | apply HC.seq | apply HC.region | refine HL.pa ?_ | refine HL.ga rfl ?_ | refine HL.na rfl ?_ | refine HL.nu rfl rfl ?_ | apply HC.block | apply HC.skip | apply HC.exit | apply HC.ret | apply HX.e_block | refine HX.e_other rfl ?_ | apply HX.e_then | apply HX.e_again | apply HX.n_block | apply HX.r_then | apply HX.r_block | apply HX.r_again | refine HC.cond_yes rfl ?_ | refine HC.cond_no rfl ?_ | refine HL.one (H1.ldb rfl (by repeat (first | with_reducible exact mem_hd | with_reducible apply mem_tl)) rfl rfl ?_) | refine HC.cond rfl (fun hc => ?_) (fun hc => ?_) | refine HC.cond_b rfl (fun hc => ?_) (fun hc => ?_))
      refine HL.one (H1.st rfl rfl (by intro _ h; cases h) (by intro _ h; cases h) (by repeat (first | exact Rpl.here | apply Rpl.there)) (by rw [ints_len]; omega) ?_)
      rw [ints_set]
      repeat' (first | apply HL.fold | apply HA.fold | apply HL.nil | apply HX.n_then | apply HC.seq | apply HC.region | refine HL.pa ?_ | refine HL.ga rfl ?_ | refine HL.na rfl ?_ | refine HL.nu rfl rfl ?_ | apply HC.block | apply HC.skip | apply HC.exit | apply HC.ret | apply HX.e_block | refine HX.e_other rfl ?_ | apply HX.e_then | apply HX.e_again | apply HX.n_block | apply HX.r_then | apply HX.r_block | apply HX.r_again | refine HC.cond_yes rfl ?_ | refine HC.cond_no rfl ?_ | refine HL.one (H1.ldb rfl (by repeat (first | with_reducible exact mem_hd | with_reducible apply mem_tl)) rfl rfl ?_) | refine HC.cond rfl (fun hc => ?_) (fun hc => ?_) | refine HC.cond_b rfl (fun hc => ?_) (fun hc => ?_))
      refine HX.again (i + 1, l ++ [(i : Int)], s'.set i (at' s' i + 1), (some ⟨a4, 0, none⟩, c4)) ⟨by show i + 1 ≤ 9; omega, by show (l ++ [(i : Int)]).length ≤ i + 1; rw [List.length_append]; simp; omega, by show (s'.set i _).length = 9; simpa using hs9, fun j hj => ?_⟩ (by show 9 - (i + 1) < 9 - i; omega) (by dsimp only; rw [List.length_append]; repeat (first | exact trivial | refine ⟨rfl, ?_⟩)) (by dsimp only; rw [List.length_append, ints_app]; exact Hs.cons (Pick.there Pick.here) (Hs.cons (Pick.there Pick.here) (Hs.cons (Pick.there Pick.here) (Hs.cons (Pick.there Pick.here) Hs.skip))))
      dsimp only
      rw [at_set (by omega)]
      by_cases e : j = i
      · rw [if_pos e, if_pos (by omega)]; omega
      · rw [if_neg e]
        have := hsj j hj
        split at this <;> split <;> omega
  rintro ⟨l, s', ⟨aL, cL⟩⟩ ⟨h1, h2, h3⟩
  dsimp only at h1 h2 h3 ⊢
  repeat' (first | apply HL.fold | apply HA.fold | apply HL.nil | apply HX.n_then | apply HC.seq | apply HC.region | refine HL.pa ?_ | refine HL.ga rfl ?_ | refine HL.na rfl ?_ | refine HL.nu rfl rfl ?_ | apply HC.block | apply HC.skip | apply HC.exit | apply HC.ret | apply HX.e_block | refine HX.e_other rfl ?_ | apply HX.e_then | apply HX.e_again | apply HX.n_block | apply HX.r_then | apply HX.r_block | apply HX.r_again | refine HC.cond_yes rfl ?_ | refine HC.cond_no rfl ?_ | refine HL.one (H1.ldb rfl (by repeat (first | with_reducible exact mem_hd | with_reducible apply mem_tl)) rfl rfl ?_) | refine HC.cond rfl (fun hc => ?_) (fun hc => ?_) | refine HC.cond_b rfl (fun hc => ?_) (fun hc => ?_))
  by_cases hnk : (n : Int) = c.k
  · refine HC.anyC ([(⟨b6, 4, none⟩, .int .i64 c.k)]) rfl ?_
    refine HB.pa 0 rfl ?_
    refine HB.pa 1 rfl ?_
    refine HB.pa 2 rfl ?_
    refine HB.ld 3 rfl rfl (by repeat (first | exact List.Mem.head _ | apply List.Mem.tail)) ?_
    refine HB.pa 4 rfl ?_
    refine HB.pa 5 rfl ?_
    refine HB.pa 6 rfl ?_
    refine HB.done (by refine Keep.blk (.tail _ (.tail _ (.head _))) rfl Keep.nil) (by kernel_rfl) ?_
    repeat' (first | apply HL.fold | apply HA.fold | apply HL.nil | apply HX.n_then | apply HC.seq | apply HC.region | refine HL.pa ?_ | refine HL.ga rfl ?_ | refine HL.na rfl ?_ | refine HL.nu rfl rfl ?_ | apply HC.block | apply HC.skip | apply HC.exit | apply HC.ret | apply HX.e_block | refine HX.e_other rfl ?_ | apply HX.e_then | apply HX.e_again | apply HX.n_block | apply HX.r_then | apply HX.r_block | apply HX.r_again | refine HC.cond_yes rfl ?_ | refine HC.cond_no rfl ?_ | refine HL.one (H1.ldb rfl (by repeat (first | with_reducible exact mem_hd | with_reducible apply mem_tl)) rfl rfl ?_) | refine HC.cond rfl (fun hc => ?_) (fun hc => ?_) | refine HC.cond_b rfl (fun hc => ?_) (fun hc => ?_))
    exact HX.ret2 rfl rfl rfl fun w' hM => ⟨(l, s', (aL, cL), decide ((n : Int) = c.k)), ⟨h1, h2, h3⟩, rfl, hM.sub (Hs.cons Pick.here (Hs.cons Pick.here Hs.skip))⟩
  · skip
    refine HC.anyC ([(⟨b6, 4, none⟩, .int .i64 c.k)]) rfl ?_
    refine HB.pa 0 rfl ?_
    refine HB.pa 1 rfl ?_
    refine HB.pa 2 rfl ?_
    refine HB.ld 3 rfl rfl (by repeat (first | exact List.Mem.head _ | apply List.Mem.tail)) ?_
    refine HB.pa 4 rfl ?_
    refine HB.pa 5 rfl ?_
    refine HB.pa 6 rfl ?_
    refine HB.done (by refine Keep.blk (.tail _ (.tail _ (.head _))) rfl Keep.nil) (by kernel_rfl) ?_
    repeat' (first | apply HL.fold | apply HA.fold | apply HL.nil | apply HX.n_then | apply HC.seq | apply HC.region | refine HL.pa ?_ | refine HL.ga rfl ?_ | refine HL.na rfl ?_ | refine HL.nu rfl rfl ?_ | apply HC.block | apply HC.skip | apply HC.exit | apply HC.ret | apply HX.e_block | refine HX.e_other rfl ?_ | apply HX.e_then | apply HX.e_again | apply HX.n_block | apply HX.r_then | apply HX.r_block | apply HX.r_again | refine HC.cond_yes rfl ?_ | refine HC.cond_no rfl ?_ | refine HL.one (H1.ldb rfl (by repeat (first | with_reducible exact mem_hd | with_reducible apply mem_tl)) rfl rfl ?_) | refine HC.cond rfl (fun hc => ?_) (fun hc => ?_) | refine HC.cond_b rfl (fun hc => ?_) (fun hc => ?_))
    exact HX.ret2 rfl rfl rfl fun w' hM => ⟨(l, s', (aL, cL), decide ((n : Int) = c.k)), ⟨h1, h2, h3⟩, rfl, hM.sub (Hs.cons Pick.here (Hs.cons Pick.here Hs.skip))⟩
end Go.Sx


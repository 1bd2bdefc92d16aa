/- Chapter 27: Store, Fetch, Expected, Answer: the walks. -/
import Derived.Test.YtionfblneloaiaaGreatDoorYB
namespace Go.Sx
open Go Go.Proofs Go.RowKit
theorem hwYC {G G2 : Prop} (x : G2) (hwq : Hold G2 → G := by
    intro hQq
    repeat' (first | refine HL.pa ?_ (POp.pnil1 rfl rfl) | refine HL.pa ?_ (POp.pnil0 rfl rfl) | refine HL.pa ?_ (POp.nilCheck rfl) | apply HL.fold | apply HA.fold | apply HL.nil | apply HX.n_then | apply HC.seq | apply HC.region | refine HL.pa ?_ | refine HL.ga rfl ?_ | refine HL.na rfl ?_ | refine HL.nu rfl rfl ?_ | apply HC.block | apply HC.skip | apply HC.exit | apply HC.ret | apply HX.e_block | refine HX.e_other rfl ?_ | apply HX.e_then | apply HX.e_again | apply HX.n_block | apply HX.r_then | apply HX.r_block | apply HX.r_again | refine HC.cond_yes rfl ?_ | refine HC.cond_no rfl ?_ | refine HL.one (H1.ldb rfl memA rfl rfl ?_) | refine HC.cond rfl (fun hc => ?_) (fun hc => ?_) | refine HC.cond_b rfl (fun hc => ?_) (fun hc => ?_))
    exact hQq.get) : G := hwq ⟨x⟩
abbrev PM := List (PK × ByteArray)
def liftP (m : PM) : List (PK × Value) := m.map fun p => (p.1, .string p.2)
def getM : PM → PK → Option ByteArray
  | [], _ => none
  | (y, u) :: l, x => if x = y then some u else getM l x
def setM : PM → PK → ByteArray → PM
  | [], x, v => [(x, v)]
  | (y, u) :: l, x, v => if x = y then (x, v) :: l else (y, u) :: setM l x v
theorem mgetP_lift (m : PM) (k : PK) : mgetP (liftP m) k = (getM m k).map Value.string := by
  induction m with
  | nil => rfl
  | cons p m ih =>
    obtain ⟨y, u⟩ := p
    show (if k = y then some (Value.string u) else mgetP (liftP m) k) = Option.map Value.string (if k = y then some u else getM m k)
    split
    · rfl
    · exact ih
theorem msetP_lift (m : PM) (k : PK) (s : ByteArray) : msetP (liftP m) k (.string s) = liftP (setM m k s) := by
  induction m with
  | nil => rfl
  | cons p m ih =>
    obtain ⟨y, u⟩ := p
    show (if k = y then (k, Value.string s) :: liftP m else (y, Value.string u) :: msetP (liftP m) k (.string s)) = liftP (if k = y then (k, s) :: m else (y, u) :: setM m k s)
    split
    · rfl
    · rw [ih]; rfl
/-- The cells of a custodian. -/
def cuC (bm bj : Nat) : List Value := [.map (some bm), .pointer (some ⟨bj, 0, none⟩)]
abbrev cuH (bx bm bj bd b1 b2 : Nat) (a : Option Addr) (c : Nat) (pa : Option Addr) (pc : Nat) (m : PM) (j : Jn) (H : List Atom) : List Atom :=
  A.blk bx (cuC bm bj) 84 :: A.pm bm (liftP m) :: jnlH bj bd b1 b2 a c pa pc j H
/-- A fragment's record. -/
def recS (p : PK) (s : ByteArray) : ByteArray := putsB (mkB 115) [p.1.toNat, p.2.toNat] ++ (strN s.size ++ s)
def recD (o : Int) : ByteArray := putsB (mkB 100) [o.toNat]
theorem recS_size {p : PK} {s : ByteArray} (hp : okP p) (hs : s.size ≤ 4096) : (recS p s).size ≤ 4200 := by
  obtain ⟨h1, h2, h3, h4⟩ := hp
  have h5 := putsB_size [p.1.toNat, p.2.toNat] (mkB 115) (by
    intro n hn
    rcases List.mem_cons.1 hn with rfl | hn
    · omega
    rcases List.mem_cons.1 hn with rfl | hn
    · omega
    · cases hn)
  have h6 := strN_size (n := s.size) (by omega)
  have h7 : (mkB 115).size = 1 := rfl
  unfold recS
  rw [ByteArray.size_append, ByteArray.size_append]
  simp only [List.length_cons, List.length_nil] at h5
  omega
theorem recD_size {o : Int} (h2 : o ≤ 1000000) : (recD o).size ≤ 10 := by
  have h5 := putsB_size [o.toNat] (mkB 100) (by
    intro n hn
    rcases List.mem_cons.1 hn with rfl | hn
    · omega
    · cases hn)
  have h7 : (mkB 100).size = 1 := rfl
  unfold recD
  simp only [List.length_cons, List.length_nil] at h5
  omega
/-- Store: the error, the fragments, the journal. -/
def storeF (m : PM) (j : Jn) (p : PK) (s : ByteArray) : Int × PM × Jn :=
  if ¬ okP p ∨ 4096 < s.size then (270, m, j) else ((j.append [recS p s]).1, if (j.append [recS p s]).1 = 0 then setM m p s else m, (j.append [recS p s]).2)
def fetchV (m : PM) (p : PK) : Value := match getM m p with
  | some s => .tuple #[.string s, zv 0]
  | none => .tuple #[.string (ByteArray.mk #[]), zv 271]
/-- The answer to an audit. -/
def expB (s ch : ByteArray) : ByteArray := if 65536 < ch.size then ByteArray.mk #[] else sumS ((strN ch.size ++ ch) ++ s)
attribute [local irreducible] WC WL WX POp Then Again Fn NX W1 WA WO QL RP RA Yld LoopAt HC HL HX HN H1 HA HO HQ HB HP A.blk A.grow A.rd A.obj A.mp AgainH CutH
attribute [local irreducible] A.pm sumS
theorem cappend_fn {w0 w : World} {H : List Atom} {bx bm bj bd b1 b2 c pc : Nat} {a pa : Option Addr} {m : PM} {j : Jn} {s : ByteArray} {r : Int × Jn} (hr : j.append [s] = r) (hG : RoundG w0) (hM : Mm w0 (cuH bx bm bj bd b1 b2 a c pa pc m j H) w) (hj : JOk j) (hs : s.size ≤ 65536) :
    Fn Tryz.prog 44 #[.pointer (some ⟨bx, 0, none⟩), .string s] w fun v w' => ∃ q : (Option Addr × Nat) × (Option Addr × Nat), True ∧ v = zv r.1 ∧ Mm w0 (cuH bx bm bj bd b1 b2 q.1.1 q.1.2 q.2.1 q.2.2 m r.2 H) w' := by
  refine enterK (l := [_, _]) hM rfl Tryz.ntmps44 rfl ?_
  refine hwYC ?_
  refine HL.one (H1.lit (cs := strs [s]) rfl rfl rfl rfl rfl rfl (fun b9 => ?_))
  refine hwYC ?_
  refine HL.one (H1.callk (α := (Option Addr × Nat) × (Option Addr × Nat)) (V := fun _ => zv r.1) (I := fun _ => True) (H' := fun q => jnlH bj bd b1 b2 q.1.1 q.1.2 q.2.1 q.2.2 r.2 (A.blk bx (cuC bm bj) 84 :: A.pm bm (liftP m) :: H)) (vs := [_, .slice (some ⟨b9, 0, none⟩) 1 1]) rfl rfl
    (fun w' hM => appendB_fn (g := [s]) hr hG (hM.sub (Hs.cons Pick.here (Hs.cons (Pick.there (Pick.there Pick.here)) (Hs.cons (Pick.there (Pick.there Pick.here)) (Hs.cons (Pick.there (Pick.there Pick.here)) (Hs.cons (Pick.there (Pick.there Pick.here)) (Hs.cons (Pick.there (Pick.there Pick.here)) (Hs.cons (Pick.there (Pick.there Pick.here)) (Hs.refl _))))))))) hj (by show 1 ≤ 1000; decide) (fun _ => by
      show (outL j.t.head s ++ []).length ≤ _
      have h1 := outL_len j.t.head s
      have h2 := strN_size (n := s.size) (by omega)
      rw [List.append_nil]; omega)) ?_)
  rintro ⟨⟨a2, c2⟩, ⟨pa2, pc2⟩⟩ -
  dsimp only
  refine hwYC ?_
  exact HX.ret1 rfl rfl fun w' hM => ⟨((a2, c2), (pa2, pc2)), trivial, rfl, hM.sub (Hs.cons (Pick.there (Pick.there (Pick.there (Pick.there (Pick.there (Pick.there Pick.here)))))) (Hs.cons (Pick.there (Pick.there (Pick.there (Pick.there (Pick.there (Pick.there Pick.here)))))) (Hs.refl _)))⟩
theorem fetch_fn {w0 w : World} {H : List Atom} {bx bm bj : Nat} {m : PM} (p : PK) (hM : Mm w0 (A.blk bx (cuC bm bj) 84 :: A.pm bm (liftP m) :: H) w) :
    Fn Tryz.prog 26 #[.pointer (some ⟨bx, 0, none⟩), zv p.1, zv p.2] w fun v w' => ∃ _ : Unit, True ∧ v = fetchV m p ∧ Mm w0 (A.blk bx (cuC bm bj) 84 :: A.pm bm (liftP m) :: H) w' := by
  refine enterK (l := [_, _, _]) hM rfl Tryz.ntmps26 rfl ?_
  refine hwYC ?_
  refine HL.build (cs := [zv p.1, zv p.2]) rfl rfl rfl ?_
  refine hwYC ?_
  refine HL.one (H1.pmget2 (n := p) (l := liftP m) rfl rfl memA rfl ?_)
  rw [mgetP_lift]
  unfold fetchV
  cases getM m p with
  | none =>
    dsimp only [Option.map, Option.getD, Option.isSome]
    refine hwYC ?_
    exact HX.ret2 rfl rfl rfl fun w' hM => ⟨(), trivial, rfl, hM⟩
  | some s =>
    dsimp only [Option.map, Option.getD, Option.isSome]
    refine hwYC ?_
    exact HX.ret2 rfl rfl rfl fun w' hM => ⟨(), trivial, rfl, hM⟩
theorem putStringLong_fn (s : ByteArray) (hs : 65536 < s.size) (w : World) : Fn Tryz.prog 43 #[.string s] w fun v w' => v = .tuple #[.string (ByteArray.mk #[]), zv 10] ∧ w = w' := by
  have hs' : (65536 : Int) < (s.size : Int) := by omega
  refine enter (l := [_]) rfl Tryz.ntmps43 rfl ?_
  repeat' (first | apply WL.fold | apply WA.fold | apply WL.nil | apply WX.n_then | apply WC.seq | apply WC.region | refine WL.pa ?_ | refine WL.ga rfl ?_ | refine WL.na rfl ?_ | refine WL.nu rfl rfl ?_ | apply WC.block | apply WC.skip | apply WC.exit | apply WC.ret | apply WX.e_block | refine WX.e_other rfl ?_ | apply WX.e_then | apply WX.e_again | apply WX.n_block | apply WX.r_then | apply WX.r_block | apply WX.r_again | refine WC.cond_yes rfl ?_ | refine WC.cond_no rfl ?_ | refine WC.cond rfl (fun hc => ?_) (fun hc => ?_) | refine WC.cond_b rfl (fun hc => ?_) (fun hc => ?_))
  exact WX.ret2 rfl rfl rfl ⟨rfl, rfl⟩
theorem expected_fn {w : World} (s ch : ByteArray) (hG : RoundG w) (hs : s.size ≤ 100000) : Fn Tryz.prog 15 #[.string s, .string ch] w fun v w' => v = .string (expB s ch) ∧ Ext w w' := by
  refine enterH (l := [_, _]) rfl Tryz.ntmps15 rfl ?_
  unfold expB
  by_cases hc : 65536 < ch.size
  · rw [if_pos hc]
    refine hwYC ?_
    refine HL.one (H1.call0 (vs := [_]) rfl rfl (fun w' _ => putStringLong_fn ch hc w') ?_)
    refine hwYC ?_
    exact HX.ret1 rfl rfl fun w' hM => ⟨rfl, hM.ext⟩
  · have hz := strN_size (n := ch.size) (by omega)
    have h1 := ba_append_size (strN ch.size) ch
    have h2 := ba_append_size (strN ch.size ++ ch) s
    rw [if_neg hc]
    refine hwYC ?_
    refine HL.one (H1.callx (vs := [_]) rfl rfl (fun w' _ => putString_fn ch (by omega) w') ?_)
    refine hwYC ?_
    refine HL.one (H1.callx (vs := [_]) rfl rfl (fun w' hM => sum_fn ((strN ch.size ++ ch) ++ s) (by omega) w' (hG.ext hM.ext)) ?_)
    refine hwYC ?_
    exact HX.ret1 rfl rfl fun w' hM => ⟨rfl, hM.ext⟩
/-- The answer of a custodian. -/
def ansV (m : PM) (p : PK) (ch : ByteArray) : Value := if 65536 < ch.size then .tuple #[.string (ByteArray.mk #[]), zv 270] else match getM m p with
  | some s => .tuple #[.string (expB s ch), zv 0]
  | none => .tuple #[.string (ByteArray.mk #[]), zv 271]
theorem answer_fn {w0 w : World} {H : List Atom} {bx bm bj : Nat} {m : PM} (p : PK) (ch : ByteArray) (hG : RoundG w0) (hM : Mm w0 (A.blk bx (cuC bm bj) 84 :: A.pm bm (liftP m) :: H) w) (hs : ∀ s, getM m p = some s → s.size ≤ 100000) :
    Fn Tryz.prog 14 #[.pointer (some ⟨bx, 0, none⟩), zv p.1, zv p.2, .string ch] w fun v w' => ∃ _ : Unit, True ∧ v = ansV m p ch ∧ Mm w0 (A.blk bx (cuC bm bj) 84 :: A.pm bm (liftP m) :: H) w' := by
  refine enterK (l := [_, _, _, _]) hM rfl Tryz.ntmps14 rfl ?_
  unfold ansV
  by_cases hc : 65536 < ch.size
  · have hc' : (65536 : Int) < (ch.size : Int) := by omega
    rw [if_pos hc]
    refine hwYC ?_
    exact HX.ret2 rfl rfl rfl fun w' hM => ⟨(), trivial, rfl, hM⟩
  · have hc' : ¬ (65536 : Int) < (ch.size : Int) := by omega
    rw [if_neg hc]
    have hf := fun w' => fetch_fn (w0 := w0) (w := w') (bx := bx) (bm := bm) (bj := bj) (m := m) (H := H) p
    unfold fetchV at hf
    cases hg : getM m p with
    | none =>
      rw [hg] at hf
      dsimp only at hf
      refine hwYC ?_
      refine HL.one (H1.callk (α := Unit) (V := fun _ => .tuple #[.string (ByteArray.mk #[]), zv 271]) (I := fun _ => True) (H' := fun _ => A.blk bx (cuC bm bj) 84 :: A.pm bm (liftP m) :: H) (vs := [_, _, _]) rfl rfl (fun w' hM => hf w' hM) ?_)
      rintro - -
      refine hwYC ?_
      exact HX.ret2 rfl rfl rfl fun w' hM => ⟨(), trivial, rfl, hM⟩
    | some s =>
      rw [hg] at hf
      dsimp only at hf
      refine hwYC ?_
      refine HL.one (H1.callk (α := Unit) (V := fun _ => .tuple #[.string s, zv 0]) (I := fun _ => True) (H' := fun _ => A.blk bx (cuC bm bj) 84 :: A.pm bm (liftP m) :: H) (vs := [_, _, _]) rfl rfl (fun w' hM => hf w' hM) ?_)
      rintro - -
      refine hwYC ?_
      refine HL.one (H1.callx (vs := [_, _]) rfl rfl (fun w' hM => expected_fn s ch (hG.ext hM.ext) (hs s hg)) ?_)
      refine hwYC ?_
      exact HX.ret2 rfl rfl rfl fun w' hM => ⟨(), trivial, rfl, hM⟩
set_option maxHeartbeats 1000000 in
theorem store_fn {w0 w : World} {H : List Atom} {bx bm bj bd b1 b2 c pc : Nat} {a pa : Option Addr} {m : PM} {j : Jn} (p : PK) (s : ByteArray) (hG : RoundG w0) (hM : Mm w0 (cuH bx bm bj bd b1 b2 a c pa pc m j H) w) (hj : JOk j) :
    Fn Tryz.prog 13 #[.pointer (some ⟨bx, 0, none⟩), zv p.1, zv p.2, .string s] w fun v w' => ∃ q : (Option Addr × Nat) × (Option Addr × Nat), True ∧ v = zv (storeF m j p s).1 ∧ Mm w0 (cuH bx bm bj bd b1 b2 q.1.1 q.1.2 q.2.1 q.2.2 (storeF m j p s).2.1 (storeF m j p s).2.2 H) w' := by
  refine enterK (l := [_, _, _, _]) hM rfl Tryz.ntmps13 rfl ?_
  refine hwYC ?_
  refine HL.build (cs := [zv p.1, zv p.2]) rfl rfl rfl ?_
  refine hwYC ?_
  refine HL.one (H1.alloc (cs := [zv 0, zv 0]) rfl rfl (fun b9 => ?_))
  refine hwYC ?_
  refine HL.one (H1.stAgg (cs := [zv 0, zv 0]) (vs := [zv p.1, zv p.2]) rfl rfl rfl (by intro v hv; rcases List.mem_cons.1 hv with rfl | hv; rfl; rcases List.mem_cons.1 hv with rfl | hv; rfl; cases hv) rplA rfl ?_)
  refine hwYC ?_
  refine HL.one (H1.ldAgg (vs := [zv p.1, zv p.2]) rfl memA rfl (fun i v hv => by rw [Nat.zero_add]; exact hv) rfl ?_)
  refine hwYC ?_
  refine HL.one (H1.callx (vs := [pkV p]) rfl rfl (fun w' _ => isValid_fn p w') ?_)
  by_cases hv : okP p
  rotate_left
  · have hF : storeF m j p s = (270, m, j) := by unfold storeF; rw [if_pos (.inl hv)]
    rw [hF, decide_eq_false hv]
    refine hwYC ?_
    exact HX.ret1 rfl rfl fun w' hM => ⟨((a, c), (pa, pc)), trivial, rfl, hM.tail⟩
  rw [decide_eq_true hv]
  by_cases hl : 4096 < s.size
  · have hF : storeF m j p s = (270, m, j) := by unfold storeF; rw [if_pos (.inr hl)]
    have hl' : (4096 : Int) < (s.size : Int) := by omega
    rw [hF]
    refine hwYC ?_
    exact HX.ret1 rfl rfl fun w' hM => ⟨((a, c), (pa, pc)), trivial, rfl, hM.tail⟩
  have hl' : ¬ (4096 : Int) < (s.size : Int) := by omega
  obtain ⟨e, j2, hap⟩ : ∃ e j2, j.append [recS p s] = (e, j2) := ⟨_, _, rfl⟩
  have hF : storeF m j p s = (e, if e = 0 then setM m p s else m, j2) := by
    unfold storeF
    rw [if_neg (by rintro (h | h); exact h hv; exact hl h), hap]
  have hrs := recS_size hv (s := s) (by omega)
  rw [hF]
  dsimp only
  refine hwYC ?_
  refine HL.one (H1.callx (vs := [_]) rfl rfl (fun w' _ => putString_fn s (by omega) w') ?_)
  refine hwYC ?_
  refine HL.one (H1.lit (cs := [zv p.1, zv p.2]) rfl rfl rfl rfl rfl rfl (fun b8 => ?_))
  refine hwYC ?_
  have hv0 := hv
  obtain ⟨k1, k2, k3, k4⟩ := hv0
  have hns : ∀ n ∈ [p.1.toNat, p.2.toNat], n ≤ 1099511627776 := by
    intro n hn
    rcases List.mem_cons.1 hn with rfl | hn
    · omega
    rcases List.mem_cons.1 hn with rfl | hn
    · omega
    · cases hn
  have e12 : ints (intsN [p.1.toNat, p.2.toNat]) = [zv p.1, zv p.2] := by
    have e1 : ((p.1.toNat : Nat) : Int) = p.1 := by omega
    have e2 : ((p.2.toNat : Nat) : Int) = p.2 := by omega
    show [zv ((p.1.toNat : Nat) : Int), zv ((p.2.toNat : Nat) : Int)] = _
    rw [e1, e2]
  have hps := putsB_size [p.1.toNat, p.2.toNat] (mkB 115) hns
  have hz := strN_size (n := s.size) (by omega)
  have hzz := ba_append_size (strN s.size) s
  have hm1 : (mkB 115).size = 1 := rfl
  simp only [List.length_cons, List.length_nil] at hps
  refine HL.one (H1.callx (vs := [.string (mkB 115), .slice (some ⟨b8, 0, none⟩) 2 2]) rfl rfl (fun w' hM => put27_fn (mkB 115) [p.1.toNat, p.2.toNat] _ (by decide) hns (by show 2 ≤ 100; decide) w' (by rw [e12]; exact blk_rd (e := 3) (hM.blk (.head _)) rfl)) ?_)
  refine hwYC ?_
  refine HL.one (H1.callk (α := (Option Addr × Nat) × (Option Addr × Nat)) (V := fun _ => zv e) (I := fun _ => True) (H' := fun q => cuH bx bm bj bd b1 b2 q.1.1 q.1.2 q.2.1 q.2.2 m j2 (A.blk b9 [zv p.1, zv p.2] 76 :: H)) (vs := [_, .string (recS p s)]) rfl rfl
    (fun w' hM => cappend_fn hap hG (hM.sub (Hs.cons (Pick.there (Pick.there Pick.here)) (Hs.cons (Pick.there (Pick.there Pick.here)) (Hs.cons (Pick.there (Pick.there Pick.here)) (Hs.cons (Pick.there (Pick.there Pick.here)) (Hs.cons (Pick.there (Pick.there Pick.here)) (Hs.cons (Pick.there (Pick.there Pick.here)) (Hs.cons (Pick.there (Pick.there Pick.here)) (Hs.cons (Pick.there (Pick.there Pick.here)) ((Hs.refl _).skip)))))))))) hj (by omega)) ?_)
  rintro ⟨⟨a2, c2⟩, ⟨pa2, pc2⟩⟩ -
  dsimp only
  by_cases he : e = 0
  · rw [if_pos he]
    refine hwYC ?_
    refine HC.anyC (cellsA b9 [zv p.1, zv p.2] ++ [(⟨bx, 0, none⟩, .map (some bm))]) rfl ?_
    refine HB.pa 0 rfl ?_
    refine HB.pa 1 rfl ?_ (POp.nilCheck rfl)
    refine HB.pa 2 rfl ?_
    refine HB.ld 3 rfl rfl (cellsR (.head _)) ?_
    refine HB.ldA (vs := [zv p.1, zv p.2]) 4 rfl rfl rfl (fun i v hv => cellsL (cellsA_mem hv)) ?_
    refine HB.pa 5 rfl ?_
    refine HB.all (by (exact Keep.blkA (b := b9) memD (Keep.blk (b := bx) memD rfl Keep.nil))) [6] (by kernel_rfl) rfl ⟨⟨_, rfl, ?_⟩, trivial⟩
    refine HP.one ?_
    refine H1.pmset (n := p) (v := .string s) rfl rfl rfl rplA ?_
    rw [msetP_lift]
    apply HB.fold
    refine HB.done (by (exact Keep.blkA (b := b9) memD (Keep.blk (b := bx) memD rfl Keep.nil))) (by kernel_rfl) ?_
    refine hwYC ?_
    exact HX.ret1 rfl rfl fun w' hM => ⟨((a2, c2), (pa2, pc2)), trivial, rfl, hM.sub (Hs.cons Pick.here (Hs.cons Pick.here (Hs.cons Pick.here (Hs.cons Pick.here (Hs.cons Pick.here (Hs.cons Pick.here (Hs.cons Pick.here (Hs.cons Pick.here (Hs.refl _).skip))))))))⟩
  · rw [if_neg he]
    refine hwYC ?_
    exact HX.ret1 rfl rfl fun w' hM => ⟨((a2, c2), (pa2, pc2)), trivial, rfl, hM.sub (Hs.cons Pick.here (Hs.cons Pick.here (Hs.cons Pick.here (Hs.cons Pick.here (Hs.cons Pick.here (Hs.cons Pick.here (Hs.cons Pick.here (Hs.cons Pick.here (Hs.refl _).skip))))))))⟩
end Go.Sx


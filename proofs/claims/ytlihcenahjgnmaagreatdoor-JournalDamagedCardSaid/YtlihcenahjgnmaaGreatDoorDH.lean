/- Chapter 2, the reference: the digest of a string; Chain, Head: the walks. -/
import Derived.Test.YtlihcenahjgnmaaGreatDoorDF
import Derived.Test.YtlihcenahjgnmaaGreatDoorDI
namespace Go.Sx
open Go Go.Proofs Go.RowKit
theorem grow_sub {w : World} {e : TypeId} {b n c off m c2 : Nat} {xs : List Value} (h : w.ownsRow 0 e 1 (.slice (some ⟨b, 0, none⟩) n c) n xs) (hl : xs.length = n) (ho : off + m ≤ n) (hm : m ≤ c2) : Rd w (.slice (some ⟨b, off, none⟩) m c2) ((xs.drop off).take m) := by
  have hlen : ((xs.drop off).take m).length = m := by rw [List.length_take, List.length_drop]; omega
  obtain ⟨hb, -⟩ : b < w.heap.size ∧ True := by
    rcases h.2 with ⟨h1, -⟩ | ⟨g, cap, cur, hv, -, hg, -⟩
    · cases h1
    · cases hv; exact ⟨(Array.getElem?_eq_some_iff.1 hg).1, trivial⟩
  refine ⟨_, _, by rw [hlen], by rw [hlen]; exact hm, .inr ⟨b, off, rfl, hb, fun i u hu => ?_⟩⟩
  have hi : i < m := by
    have := (List.getElem?_eq_some_iff.1 hu).1
    rw [hlen] at this; exact this
  rw [List.getElem?_take_of_lt hi, List.getElem?_drop] at hu
  exact ownsRow_cell h hu
theorem take_b8 {l : List UInt8} {i : Nat} (h : i < l.length) : ub (l.take i) ++ [b8 (l.getD i 0)] = ub (l.take (i + 1)) := by
  have e : l.getD i 0 = l[i] := by simp [h]
  rw [List.take_add_one, List.getElem?_eq_getElem h, ub_app1, e]; rfl
theorem shr_zero (x : UInt32) : x >>> UInt32.ofNat 0 = x := by
  refine UInt32.toNat_inj.1 ?_
  rw [UInt32.toNat_shiftRight]
  simp
def digI (s : S8) (i : Nat) : List UInt8 := (s.l.take i).flatMap by4
theorem digI_snoc (s : S8) {i : Nat} (h : i < 8) : digI s i ++ [(s.l.getD i 0 >>> UInt32.ofNat 24).toUInt8, (s.l.getD i 0 >>> UInt32.ofNat 16).toUInt8, (s.l.getD i 0 >>> UInt32.ofNat 8).toUInt8, (s.l.getD i 0).toUInt8] = digI s (i + 1) := by
  have h8 : i < s.l.length := h
  unfold digI
  rw [List.take_add_one, List.getElem?_eq_getElem h8, List.flatMap_append]
  congr 1
  have e : s.l.getD i 0 = s.l[i] := by simp [h8]
  rw [e]
  show _ = by4 s.l[i] ++ []
  rw [List.append_nil]
  unfold by4
  rw [shr_zero]
theorem digI_len (s : S8) {i : Nat} (h : i ≤ 8) : (digI s i).length = 4 * i := by
  unfold digI
  have : ∀ l : List UInt32, (l.flatMap by4).length = 4 * l.length := by
    intro l
    induction l with
    | nil => rfl
    | cons x l ih => rw [List.flatMap_cons, List.length_append, ih, List.length_cons]; show 4 + _ = _; omega
  rw [this, List.length_take]
  have : s.l.length = 8 := rfl
  omega
theorem digI_8 (s : S8) : digI s 8 = digL s := rfl
theorem ub_app4 (ys zs : List UInt8) : ub ys ++ ub zs = ub (ys ++ zs) := by unfold ub; rw [List.map_append]
theorem HC.capOfG2 {P : Program} {r : Option Nat} {N : Nat} {ds : List Deferred} {Q : Post} {E : Env} {w0 : World} {H : List Atom} {e : TypeId} {co : Code} {n c : Nat} {a : Option Addr} {xs : List Value} (hm : A.grow e 1 a c n xs ∈ H) (h : n ≤ c → HC P r N ds co Q E w0 H) : HC P r N ds co Q E w0 H := fun w hM => by
  refine h ?_ w hM
  rcases (hM.own hm).2 with ⟨h1, rfl⟩ | ⟨g, cap, cur, hv, -, -, hnc, -⟩
  · exact Nat.zero_le _
  · cases hv; exact hnc
attribute [local irreducible] WC WL WX POp Then Again Fn NX W1 WA WO QL RP RA Yld LoopAt HC HL HX HN H1 HA HO HQ HB HP A.blk A.grow A.rd A.obj A.mp AgainH CutH
attribute [local irreducible] shaI shaT
set_option maxHeartbeats 2000000 in
theorem extended_fn (s : ByteArray) (hs : s.size ≤ 900000) (w : World) : Fn Tryz.prog 58 #[.string s] w fun v w' => ∃ z : Nat × Nat, True ∧ v = .slice (some ⟨z.1, 0, none⟩) (shaP s.data.toList).length z.2 ∧ Mm w [A.grow 5 1 (some ⟨z.1, 0, none⟩) z.2 (shaP s.data.toList).length (ub (shaP s.data.toList))] w' := by
  have hlen : s.data.toList.length = s.size := by rw [Array.length_toList]; rfl
  obtain ⟨n, hn⟩ : ∃ n, n = s.size := ⟨_, rfl⟩
  have hz : shaZ n < 64 := by unfold shaZ; omega
  have hP : shaP s.data.toList = s.data.toList ++ [128] ++ List.replicate (shaZ n) 0 ++ (List.range 8).map (shaT n) := by unfold shaP; rw [hlen, hn]
  have hPl := shaP_len s.data.toList
  rw [hlen, ← hn] at hPl
  refine enterH (l := [_]) rfl Tryz.ntmps58 rfl ?_
  repeat' (first | apply HL.fold | apply HA.fold | apply HL.nil | apply HX.n_then | apply HC.seq | apply HC.region | refine HL.pa ?_ | refine HL.ga rfl ?_ | refine HL.na rfl ?_ | refine HL.nu rfl rfl ?_ | apply HC.block | apply HC.skip | apply HC.exit | apply HC.ret | apply HX.e_block | refine HX.e_other rfl ?_ | apply HX.e_then | apply HX.e_again | apply HX.n_block | apply HX.r_then | apply HX.r_block | apply HX.r_again | refine HC.cond_yes rfl ?_ | refine HC.cond_no rfl ?_ | refine HL.one (H1.ldb rfl memA rfl rfl ?_) | refine HC.cond rfl (fun hc => ?_) (fun hc => ?_) | refine HC.cond_b rfl (fun hc => ?_) (fun hc => ?_))
  refine HC.grow0 5 1 ?_
  refine HC.loop (α := Nat × Option Addr × Nat) (fun z => [(0, .string s), (3, .slice z.2.1 z.1 z.2.2), (4, zv (z.1 : Int))]) (fun z => [A.grow 5 1 z.2.1 z.2.2 z.1 (ub (s.data.toList.take z.1))]) (fun z => z.1 ≤ n) (fun z => n - z.1) (0, none, 0) (Nat.zero_le _) esA (Hs.refl _) ?_
  rintro ⟨i, a, c⟩ hi
  dsimp only at hi ⊢
  by_cases hlt : i < n
  · have hlt' : i < s.size := by omega
    have htk := take_b8 (l := s.data.toList) (i := i) (by omega)
    repeat' (first | apply HL.fold | apply HA.fold | apply HL.nil | apply HX.n_then | apply HC.seq | apply HC.region | refine HL.pa ?_ | refine HL.ga rfl ?_ | refine HL.na rfl ?_ | refine HL.nu rfl rfl ?_ | apply HC.block | apply HC.skip | apply HC.exit | apply HC.ret | apply HX.e_block | refine HX.e_other rfl ?_ | apply HX.e_then | apply HX.e_again | apply HX.n_block | apply HX.r_then | apply HX.r_block | apply HX.r_again | refine HC.cond_yes rfl ?_ | refine HC.cond_no rfl ?_ | refine HL.one (H1.ldb rfl memA rfl rfl ?_) | refine HC.cond rfl (fun hc => ?_) (fun hc => ?_) | refine HC.cond_b rfl (fun hc => ?_) (fun hc => ?_))
    refine HL.one (H1.lit (cs := [b8 (s.data.toList.getD i 0)]) rfl rfl rfl rfl rfl rfl (fun b9 => ?_))
    repeat' (first | apply HL.fold | apply HA.fold | apply HL.nil | apply HX.n_then | apply HC.seq | apply HC.region | refine HL.pa ?_ | refine HL.ga rfl ?_ | refine HL.na rfl ?_ | refine HL.nu rfl rfl ?_ | apply HC.block | apply HC.skip | apply HC.exit | apply HC.ret | apply HX.e_block | refine HX.e_other rfl ?_ | apply HX.e_then | apply HX.e_again | apply HX.n_block | apply HX.r_then | apply HX.r_block | apply HX.r_again | refine HC.cond_yes rfl ?_ | refine HC.cond_no rfl ?_ | refine HL.one (H1.ldb rfl memA rfl rfl ?_) | refine HC.cond rfl (fun hc => ?_) (fun hc => ?_) | refine HC.cond_b rfl (fun hc => ?_) (fun hc => ?_))
    refine HL.one (H1.app1 (u := b8 (s.data.toList.getD i 0)) rfl rfl (fun _ _ => by first | ((repeat (first | with_reducible exact Rpl.here | with_reducible apply Rpl.there)); done) | (repeat (first | exact Rpl.here | apply Rpl.there))) memA rfl rfl (by omega) rfl rfl (fun a' c' => ?_))
    rw [htk]
    repeat' (first | apply HL.fold | apply HA.fold | apply HL.nil | apply HX.n_then | apply HC.seq | apply HC.region | refine HL.pa ?_ | refine HL.ga rfl ?_ | refine HL.na rfl ?_ | refine HL.nu rfl rfl ?_ | apply HC.block | apply HC.skip | apply HC.exit | apply HC.ret | apply HX.e_block | refine HX.e_other rfl ?_ | apply HX.e_then | apply HX.e_again | apply HX.n_block | apply HX.r_then | apply HX.r_block | apply HX.r_again | refine HC.cond_yes rfl ?_ | refine HC.cond_no rfl ?_ | refine HL.one (H1.ldb rfl memA rfl rfl ?_) | refine HC.cond rfl (fun hc => ?_) (fun hc => ?_) | refine HC.cond_b rfl (fun hc => ?_) (fun hc => ?_))
    exact HX.again (i + 1, some ⟨a', 0, none⟩, c') hlt (by show n - (i + 1) < n - i; omega) esA (Hs.cons (Pick.there Pick.here) (Hs.nil _))
  have hlt' : ¬ i < s.size := by omega
  obtain rfl : i = n := by omega
  rw [List.take_of_length_le (by omega)]
  repeat' (first | apply HL.fold | apply HA.fold | apply HL.nil | apply HX.n_then | apply HC.seq | apply HC.region | refine HL.pa ?_ | refine HL.ga rfl ?_ | refine HL.na rfl ?_ | refine HL.nu rfl rfl ?_ | apply HC.block | apply HC.skip | apply HC.exit | apply HC.ret | apply HX.e_block | refine HX.e_other rfl ?_ | apply HX.e_then | apply HX.e_again | apply HX.n_block | apply HX.r_then | apply HX.r_block | apply HX.r_again | refine HC.cond_yes rfl ?_ | refine HC.cond_no rfl ?_ | refine HL.one (H1.ldb rfl memA rfl rfl ?_) | refine HC.cond rfl (fun hc => ?_) (fun hc => ?_) | refine HC.cond_b rfl (fun hc => ?_) (fun hc => ?_))
  refine HL.one (H1.lit (cs := [b8 128]) rfl rfl rfl rfl rfl rfl (fun b9 => ?_))
  repeat' (first | apply HL.fold | apply HA.fold | apply HL.nil | apply HX.n_then | apply HC.seq | apply HC.region | refine HL.pa ?_ | refine HL.ga rfl ?_ | refine HL.na rfl ?_ | refine HL.nu rfl rfl ?_ | apply HC.block | apply HC.skip | apply HC.exit | apply HC.ret | apply HX.e_block | refine HX.e_other rfl ?_ | apply HX.e_then | apply HX.e_again | apply HX.n_block | apply HX.r_then | apply HX.r_block | apply HX.r_again | refine HC.cond_yes rfl ?_ | refine HC.cond_no rfl ?_ | refine HL.one (H1.ldb rfl memA rfl rfl ?_) | refine HC.cond rfl (fun hc => ?_) (fun hc => ?_) | refine HC.cond_b rfl (fun hc => ?_) (fun hc => ?_))
  refine HL.one (H1.app1 (u := b8 128) rfl rfl (fun _ _ => by first | ((repeat (first | with_reducible exact Rpl.here | with_reducible apply Rpl.there)); done) | (repeat (first | exact Rpl.here | apply Rpl.there))) memA rfl rfl (by omega) rfl rfl (fun a1 c1 => ?_))
  rw [ub_app1]
  repeat' (first | apply HL.fold | apply HA.fold | apply HL.nil | apply HX.n_then | apply HC.seq | apply HC.region | refine HL.pa ?_ | refine HL.ga rfl ?_ | refine HL.na rfl ?_ | refine HL.nu rfl rfl ?_ | apply HC.block | apply HC.skip | apply HC.exit | apply HC.ret | apply HX.e_block | refine HX.e_other rfl ?_ | apply HX.e_then | apply HX.e_again | apply HX.n_block | apply HX.r_then | apply HX.r_block | apply HX.r_again | refine HC.cond_yes rfl ?_ | refine HC.cond_no rfl ?_ | refine HL.one (H1.ldb rfl memA rfl rfl ?_) | refine HC.cond rfl (fun hc => ?_) (fun hc => ?_) | refine HC.cond_b rfl (fun hc => ?_) (fun hc => ?_))
  refine HC.loop (α := Nat × Nat × Nat) (fun z => [(0, .string s), (3, .slice (some ⟨z.2.1, 0, none⟩) (i + 1 + z.1) z.2.2)]) (fun z => [A.grow 5 1 (some ⟨z.2.1, 0, none⟩) z.2.2 (i + 1 + z.1) (ub (s.data.toList ++ [128] ++ List.replicate z.1 0))]) (fun z => z.1 ≤ shaZ i) (fun z => shaZ i - z.1) (0, a1, c1) (Nat.zero_le _) esA
    (by show Hs _ [A.grow _ 1 _ c1 (i + 1) (ub (s.data.toList ++ [128] ++ []))]; rw [List.append_nil]; exact Hs.cons (Pick.there Pick.here) (Hs.nil _)) ?_
  rintro ⟨j, a2, c2⟩ hj
  dsimp only at hj ⊢
  by_cases hlt2 : j < shaZ i
  · have hne : ¬ (((i + 1 + j : Nat) : Int) % 64 = 56) := by unfold shaZ at hlt2; omega
    repeat' (first | apply HL.fold | apply HA.fold | apply HL.nil | apply HX.n_then | apply HC.seq | apply HC.region | refine HL.pa ?_ | refine HL.ga rfl ?_ | refine HL.na rfl ?_ | refine HL.nu rfl rfl ?_ | apply HC.block | apply HC.skip | apply HC.exit | apply HC.ret | apply HX.e_block | refine HX.e_other rfl ?_ | apply HX.e_then | apply HX.e_again | apply HX.n_block | apply HX.r_then | apply HX.r_block | apply HX.r_again | refine HC.cond_yes rfl ?_ | refine HC.cond_no rfl ?_ | refine HL.one (H1.ldb rfl memA rfl rfl ?_) | refine HC.cond rfl (fun hc => ?_) (fun hc => ?_) | refine HC.cond_b rfl (fun hc => ?_) (fun hc => ?_))
    refine HL.one (H1.lit (cs := [b8 0]) rfl rfl rfl rfl rfl rfl (fun b9 => ?_))
    repeat' (first | apply HL.fold | apply HA.fold | apply HL.nil | apply HX.n_then | apply HC.seq | apply HC.region | refine HL.pa ?_ | refine HL.ga rfl ?_ | refine HL.na rfl ?_ | refine HL.nu rfl rfl ?_ | apply HC.block | apply HC.skip | apply HC.exit | apply HC.ret | apply HX.e_block | refine HX.e_other rfl ?_ | apply HX.e_then | apply HX.e_again | apply HX.n_block | apply HX.r_then | apply HX.r_block | apply HX.r_again | refine HC.cond_yes rfl ?_ | refine HC.cond_no rfl ?_ | refine HL.one (H1.ldb rfl memA rfl rfl ?_) | refine HC.cond rfl (fun hc => ?_) (fun hc => ?_) | refine HC.cond_b rfl (fun hc => ?_) (fun hc => ?_))
    refine HL.one (H1.app1 (u := b8 0) rfl rfl (fun _ _ => by first | ((repeat (first | with_reducible exact Rpl.here | with_reducible apply Rpl.there)); done) | (repeat (first | exact Rpl.here | apply Rpl.there))) memA rfl rfl (by omega) rfl rfl (fun a' c' => ?_))
    rw [ub_app1, rep_snoc]
    repeat' (first | apply HL.fold | apply HA.fold | apply HL.nil | apply HX.n_then | apply HC.seq | apply HC.region | refine HL.pa ?_ | refine HL.ga rfl ?_ | refine HL.na rfl ?_ | refine HL.nu rfl rfl ?_ | apply HC.block | apply HC.skip | apply HC.exit | apply HC.ret | apply HX.e_block | refine HX.e_other rfl ?_ | apply HX.e_then | apply HX.e_again | apply HX.n_block | apply HX.r_then | apply HX.r_block | apply HX.r_again | refine HC.cond_yes rfl ?_ | refine HC.cond_no rfl ?_ | refine HL.one (H1.ldb rfl memA rfl rfl ?_) | refine HC.cond rfl (fun hc => ?_) (fun hc => ?_) | refine HC.cond_b rfl (fun hc => ?_) (fun hc => ?_))
    exact HX.again (j + 1, a', c') hlt2 (by show shaZ i - (j + 1) < shaZ i - j; omega) esA (Hs.cons (Pick.there Pick.here) (Hs.nil _))
  obtain rfl : j = shaZ i := by omega
  have hne : ((i + 1 + shaZ i : Nat) : Int) % 64 = 56 := by unfold shaZ; omega
  repeat' (first | apply HL.fold | apply HA.fold | apply HL.nil | apply HX.n_then | apply HC.seq | apply HC.region | refine HL.pa ?_ | refine HL.ga rfl ?_ | refine HL.na rfl ?_ | refine HL.nu rfl rfl ?_ | apply HC.block | apply HC.skip | apply HC.exit | apply HC.ret | apply HX.e_block | refine HX.e_other rfl ?_ | apply HX.e_then | apply HX.e_again | apply HX.n_block | apply HX.r_then | apply HX.r_block | apply HX.r_again | refine HC.cond_yes rfl ?_ | refine HC.cond_no rfl ?_ | refine HL.one (H1.ldb rfl memA rfl rfl ?_) | refine HC.cond rfl (fun hc => ?_) (fun hc => ?_) | refine HC.cond_b rfl (fun hc => ?_) (fun hc => ?_))
  refine HC.loop (α := Nat × Nat × Nat) (fun z => [(0, .string s), (3, .slice (some ⟨z.2.1, 0, none⟩) (i + 1 + shaZ i + z.1) z.2.2), (5, zv (7 - (z.1 : Int)))]) (fun z => [A.grow 5 1 (some ⟨z.2.1, 0, none⟩) z.2.2 (i + 1 + shaZ i + z.1) (ub (s.data.toList ++ [128] ++ List.replicate (shaZ i) 0 ++ (List.range z.1).map (shaT i)))]) (fun z => z.1 ≤ 8) (fun z => 8 - z.1) (0, a2, c2) (Nat.zero_le _) esA
    (by show Hs _ [A.grow _ 1 _ c2 (i + 1 + shaZ i) (ub (s.data.toList ++ [128] ++ List.replicate (shaZ i) 0 ++ []))]; rw [List.append_nil]; exact Hs.refl _) ?_
  rintro ⟨k, a3, c3⟩ hk
  dsimp only at hk ⊢
  by_cases hlt3 : k < 8
  · have hge : (0 : Int) ≤ 7 - (k : Int) := by omega
    repeat' (first | apply HL.fold | apply HA.fold | apply HL.nil | apply HX.n_then | apply HC.seq | apply HC.region | refine HL.pa ?_ | refine HL.ga rfl ?_ | refine HL.na rfl ?_ | refine HL.nu rfl rfl ?_ | apply HC.block | apply HC.skip | apply HC.exit | apply HC.ret | apply HX.e_block | refine HX.e_other rfl ?_ | apply HX.e_then | apply HX.e_again | apply HX.n_block | apply HX.r_then | apply HX.r_block | apply HX.r_again | refine HC.cond_yes rfl ?_ | refine HC.cond_no rfl ?_ | refine HL.one (H1.ldb rfl memA rfl rfl ?_) | refine HC.cond rfl (fun hc => ?_) (fun hc => ?_) | refine HC.cond_b rfl (fun hc => ?_) (fun hc => ?_))
    rw [← hn]
    repeat' (first | apply HL.fold | apply HA.fold | apply HL.nil | apply HX.n_then | apply HC.seq | apply HC.region | refine HL.pa ?_ | refine HL.ga rfl ?_ | refine HL.na rfl ?_ | refine HL.nu rfl rfl ?_ | apply HC.block | apply HC.skip | apply HC.exit | apply HC.ret | apply HX.e_block | refine HX.e_other rfl ?_ | apply HX.e_then | apply HX.e_again | apply HX.n_block | apply HX.r_then | apply HX.r_block | apply HX.r_again | refine HC.cond_yes rfl ?_ | refine HC.cond_no rfl ?_ | refine HL.one (H1.ldb rfl memA rfl rfl ?_) | refine HC.cond rfl (fun hc => ?_) (fun hc => ?_) | refine HC.cond_b rfl (fun hc => ?_) (fun hc => ?_))
    refine HL.pa ?_ (POp.shr (a := 8 * i) (b := 8 * (7 - k)) rfl rfl (by omega) (by omega) (by omega))
    repeat' (first | apply HL.fold | apply HA.fold | apply HL.nil | apply HX.n_then | apply HC.seq | apply HC.region | refine HL.pa ?_ | refine HL.ga rfl ?_ | refine HL.na rfl ?_ | refine HL.nu rfl rfl ?_ | apply HC.block | apply HC.skip | apply HC.exit | apply HC.ret | apply HX.e_block | refine HX.e_other rfl ?_ | apply HX.e_then | apply HX.e_again | apply HX.n_block | apply HX.r_then | apply HX.r_block | apply HX.r_again | refine HC.cond_yes rfl ?_ | refine HC.cond_no rfl ?_ | refine HL.one (H1.ldb rfl memA rfl rfl ?_) | refine HC.cond rfl (fun hc => ?_) (fun hc => ?_) | refine HC.cond_b rfl (fun hc => ?_) (fun hc => ?_))
    refine HL.one (H1.lit (cs := [b8 (shaT i k)]) rfl rfl (by unfold shaT; rfl) rfl rfl rfl (fun b9 => ?_))
    repeat' (first | apply HL.fold | apply HA.fold | apply HL.nil | apply HX.n_then | apply HC.seq | apply HC.region | refine HL.pa ?_ | refine HL.ga rfl ?_ | refine HL.na rfl ?_ | refine HL.nu rfl rfl ?_ | apply HC.block | apply HC.skip | apply HC.exit | apply HC.ret | apply HX.e_block | refine HX.e_other rfl ?_ | apply HX.e_then | apply HX.e_again | apply HX.n_block | apply HX.r_then | apply HX.r_block | apply HX.r_again | refine HC.cond_yes rfl ?_ | refine HC.cond_no rfl ?_ | refine HL.one (H1.ldb rfl memA rfl rfl ?_) | refine HC.cond rfl (fun hc => ?_) (fun hc => ?_) | refine HC.cond_b rfl (fun hc => ?_) (fun hc => ?_))
    refine HL.one (H1.app1 (u := b8 (shaT i k)) rfl rfl (fun _ _ => by first | ((repeat (first | with_reducible exact Rpl.here | with_reducible apply Rpl.there)); done) | (repeat (first | exact Rpl.here | apply Rpl.there))) memA rfl rfl (by omega) rfl rfl (fun a' c' => ?_))
    rw [ub_app1, rng_snoc]
    repeat' (first | apply HL.fold | apply HA.fold | apply HL.nil | apply HX.n_then | apply HC.seq | apply HC.region | refine HL.pa ?_ | refine HL.ga rfl ?_ | refine HL.na rfl ?_ | refine HL.nu rfl rfl ?_ | apply HC.block | apply HC.skip | apply HC.exit | apply HC.ret | apply HX.e_block | refine HX.e_other rfl ?_ | apply HX.e_then | apply HX.e_again | apply HX.n_block | apply HX.r_then | apply HX.r_block | apply HX.r_again | refine HC.cond_yes rfl ?_ | refine HC.cond_no rfl ?_ | refine HL.one (H1.ldb rfl memA rfl rfl ?_) | refine HC.cond rfl (fun hc => ?_) (fun hc => ?_) | refine HC.cond_b rfl (fun hc => ?_) (fun hc => ?_))
    refine HX.again (k + 1, a', c') hlt3 (by show 8 - (k + 1) < 8 - k; omega) ⟨rfl, rfl, ?_, trivial⟩ (Hs.cons (Pick.there Pick.here) (Hs.nil _))
    show some (zv _) = some (zv _)
    congr 2
    show (7 - (k : Int)) - 1 = 7 - ((k + 1 : Nat) : Int)
    omega
  · obtain rfl : k = 8 := by omega
    have hge : ¬ ((0 : Int) ≤ 7 - ((8 : Nat) : Int)) := by omega
    rw [← hP, show i + 1 + shaZ i + 8 = (shaP s.data.toList).length from by rw [hPl]]
    repeat' (first | apply HL.fold | apply HA.fold | apply HL.nil | apply HX.n_then | apply HC.seq | apply HC.region | refine HL.pa ?_ | refine HL.ga rfl ?_ | refine HL.na rfl ?_ | refine HL.nu rfl rfl ?_ | apply HC.block | apply HC.skip | apply HC.exit | apply HC.ret | apply HX.e_block | refine HX.e_other rfl ?_ | apply HX.e_then | apply HX.e_again | apply HX.n_block | apply HX.r_then | apply HX.r_block | apply HX.r_again | refine HC.cond_yes rfl ?_ | refine HC.cond_no rfl ?_ | refine HL.one (H1.ldb rfl memA rfl rfl ?_) | refine HC.cond rfl (fun hc => ?_) (fun hc => ?_) | refine HC.cond_b rfl (fun hc => ?_) (fun hc => ?_))
    exact HX.ret1 rfl rfl fun w' hM => ⟨(a3, c3), trivial, rfl, hM⟩
attribute [local irreducible] digL
set_option maxHeartbeats 4000000 in
theorem refSum_fn (s : ByteArray) (hs : s.size ≤ 900000) (w : World) : Fn Tryz.prog 28 #[.string s] w fun v w' => v = .string (sumS s) ∧ Ext w w' := by
  have hlen : s.data.toList.length = s.size := by rw [Array.length_toList]; rfl
  have hPl := shaP_len s.data.toList
  have hPm := shaP_mod s.data.toList
  have hz : shaZ s.data.toList.length < 64 := by unfold shaZ; omega
  obtain ⟨nq, hnq⟩ : ∃ nq, nq = (shaP s.data.toList).length / 64 := ⟨_, rfl⟩
  have hq : 64 * nq = (shaP s.data.toList).length := by omega
  have hsum : sumS s = ⟨(digL (sums (shaP s.data.toList) nq)).toArray⟩ := by unfold sumS sumL; rw [hnq]
  rw [hsum]
  refine enterH (l := [_]) rfl Tryz.ntmps28 rfl ?_
  repeat' (first | apply HL.fold | apply HA.fold | apply HL.nil | apply HX.n_then | apply HC.seq | apply HC.region | refine HL.pa ?_ | refine HL.ga rfl ?_ | refine HL.na rfl ?_ | refine HL.nu rfl rfl ?_ | apply HC.block | apply HC.skip | apply HC.exit | apply HC.ret | apply HX.e_block | refine HX.e_other rfl ?_ | apply HX.e_then | apply HX.e_again | apply HX.n_block | apply HX.r_then | apply HX.r_block | apply HX.r_again | refine HC.cond_yes rfl ?_ | refine HC.cond_no rfl ?_ | refine HL.one (H1.ldb rfl memA rfl rfl ?_) | refine HC.cond rfl (fun hc => ?_) (fun hc => ?_) | refine HC.cond_b rfl (fun hc => ?_) (fun hc => ?_))
  refine HL.one (H1.lit (cs := ws shaI.l) rfl rfl (by kernel_rfl) rfl rfl rfl (fun b0 => ?_))
  repeat' (first | apply HL.fold | apply HA.fold | apply HL.nil | apply HX.n_then | apply HC.seq | apply HC.region | refine HL.pa ?_ | refine HL.ga rfl ?_ | refine HL.na rfl ?_ | refine HL.nu rfl rfl ?_ | apply HC.block | apply HC.skip | apply HC.exit | apply HC.ret | apply HX.e_block | refine HX.e_other rfl ?_ | apply HX.e_then | apply HX.e_again | apply HX.n_block | apply HX.r_then | apply HX.r_block | apply HX.r_again | refine HC.cond_yes rfl ?_ | refine HC.cond_no rfl ?_ | refine HL.one (H1.ldb rfl memA rfl rfl ?_) | refine HC.cond rfl (fun hc => ?_) (fun hc => ?_) | refine HC.cond_b rfl (fun hc => ?_) (fun hc => ?_))
  refine HL.one (H1.callz (vs := [.string s]) rfl rfl (fun w' _ => extended_fn s hs w') ?_)
  rintro ⟨gb, cb⟩ -
  dsimp only
  repeat' (first | apply HL.fold | apply HA.fold | apply HL.nil | apply HX.n_then | apply HC.seq | apply HC.region | refine HL.pa ?_ | refine HL.ga rfl ?_ | refine HL.na rfl ?_ | refine HL.nu rfl rfl ?_ | apply HC.block | apply HC.skip | apply HC.exit | apply HC.ret | apply HX.e_block | refine HX.e_other rfl ?_ | apply HX.e_then | apply HX.e_again | apply HX.n_block | apply HX.r_then | apply HX.r_block | apply HX.r_again | refine HC.cond_yes rfl ?_ | refine HC.cond_no rfl ?_ | refine HL.one (H1.ldb rfl memA rfl rfl ?_) | refine HC.cond rfl (fun hc => ?_) (fun hc => ?_) | refine HC.cond_b rfl (fun hc => ?_) (fun hc => ?_))
  have hqb : nq ≤ 15000 := by omega
  generalize hPd : shaP s.data.toList = Pd at hq
  rw [← hq]
  refine HC.conv (H2 := A.grow 109 1 (some ⟨b0, 0, none⟩) 8 8 (ws (sums Pd 0).l) :: [A.grow 5 1 (some ⟨gb, 0, none⟩) cb (64 * nq) (ub Pd)]) (fun w h => blkGr (h.sub (Hs.cons (Pick.there Pick.here) (Hs.refl _))) rfl (by decide)) ?_
  refine HC.loop (α := Nat × Nat × Nat) (fun z => [(3, .slice (some ⟨z.2.1, 0, none⟩) 8 z.2.2), (4, .slice (some ⟨gb, 0, none⟩) (64 * nq) cb), (5, zv ((64 * z.1 : Nat) : Int))]) (fun z => A.grow 109 1 (some ⟨z.2.1, 0, none⟩) z.2.2 8 (ws (sums Pd z.1).l) :: [A.grow 5 1 (some ⟨gb, 0, none⟩) cb (64 * nq) (ub Pd)]) (fun z => z.1 ≤ nq) (fun z => nq - z.1) (0, b0, 8) (Nat.zero_le _) esA (Hs.refl _) ?_
  rintro ⟨q, gh, ch⟩ hqn
  dsimp only at hqn ⊢
  by_cases hlt : q < nq
  · have hstep : sums Pd (q + 1) = comp (sums Pd q) ((Pd.drop (64 * q)).take 64) := rfl
    have hl64 : ((Pd.drop (64 * q)).take 64).length = 64 := by rw [List.length_take, List.length_drop]; omega
    refine HC.capOfG2 (e := 5) (a := some ⟨gb, 0, none⟩) (c := cb) (n := 64 * nq) (xs := ub Pd) memA fun hcb => ?_
    refine HC.capOfG2 (e := 109) (a := some ⟨gh, 0, none⟩) (c := ch) (n := 8) (xs := ws (sums Pd q).l) memA fun hch => ?_
    repeat' (first | apply HL.fold | apply HA.fold | apply HL.nil | apply HX.n_then | apply HC.seq | apply HC.region | refine HL.pa ?_ | refine HL.ga rfl ?_ | refine HL.na rfl ?_ | refine HL.nu rfl rfl ?_ | apply HC.block | apply HC.skip | apply HC.exit | apply HC.ret | apply HX.e_block | refine HX.e_other rfl ?_ | apply HX.e_then | apply HX.e_again | apply HX.n_block | apply HX.r_then | apply HX.r_block | apply HX.r_again | refine HC.cond_yes rfl ?_ | refine HC.cond_no rfl ?_ | refine HL.one (H1.ldb rfl memA rfl rfl ?_) | refine HC.cond rfl (fun hc => ?_) (fun hc => ?_) | refine HC.cond_b rfl (fun hc => ?_) (fun hc => ?_))
    refine HL.pa ?_ (POp.cut_lh rfl rfl rfl (by omega) (by omega) (by omega) (by omega))
    rw [show 0 + ((64 * q : Nat) : Int).toNat * 1 = 64 * q from by omega, show (((64 * q : Nat) : Int) + 64).toNat - ((64 * q : Nat) : Int).toNat = 64 from by omega]
    repeat' (first | apply HL.fold | apply HA.fold | apply HL.nil | apply HX.n_then | apply HC.seq | apply HC.region | refine HL.pa ?_ | refine HL.ga rfl ?_ | refine HL.na rfl ?_ | refine HL.nu rfl rfl ?_ | apply HC.block | apply HC.skip | apply HC.exit | apply HC.ret | apply HX.e_block | refine HX.e_other rfl ?_ | apply HX.e_then | apply HX.e_again | apply HX.n_block | apply HX.r_then | apply HX.r_block | apply HX.r_again | refine HC.cond_yes rfl ?_ | refine HC.cond_no rfl ?_ | refine HL.one (H1.ldb rfl memA rfl rfl ?_) | refine HC.cond rfl (fun hc => ?_) (fun hc => ?_) | refine HC.cond_b rfl (fun hc => ?_) (fun hc => ?_))
    refine HL.one (H1.callz (vs := [_, _]) rfl rfl (fun w' hM => block_fn (sums Pd q) ((Pd.drop (64 * q)).take 64) hl64 w' ?_ ?_) ?_)
    · have := grow_sub (hM.own (e := 5) (sz := 1) (a := some ⟨gb, 0, none⟩) (c := cb) (n := 64 * nq) (xs := ub Pd) memA) (by rw [ub_len, ← hq]) (off := 64 * q) (m := 64) (c2 := cb - ((64 * q : Nat) : Int).toNat) (by omega) (by omega)
      rwa [ub_mid] at this
    · exact Mm.gr (e := 109) (a := some ⟨gh, 0, none⟩) (c := ch) hM (.head _)
    rintro ⟨g2, c2⟩ -
    dsimp only
    rw [← hstep]
    repeat' (first | apply HL.fold | apply HA.fold | apply HL.nil | apply HX.n_then | apply HC.seq | apply HC.region | refine HL.pa ?_ | refine HL.ga rfl ?_ | refine HL.na rfl ?_ | refine HL.nu rfl rfl ?_ | apply HC.block | apply HC.skip | apply HC.exit | apply HC.ret | apply HX.e_block | refine HX.e_other rfl ?_ | apply HX.e_then | apply HX.e_again | apply HX.n_block | apply HX.r_then | apply HX.r_block | apply HX.r_again | refine HC.cond_yes rfl ?_ | refine HC.cond_no rfl ?_ | refine HL.one (H1.ldb rfl memA rfl rfl ?_) | refine HC.cond rfl (fun hc => ?_) (fun hc => ?_) | refine HC.cond_b rfl (fun hc => ?_) (fun hc => ?_))
    exact HX.again (q + 1, g2, c2) hlt (by show nq - (q + 1) < nq - q; omega) esA (Hs.cons Pick.here (Hs.refl _).skip)
  obtain rfl : q = nq := by omega
  generalize hS : sums Pd q = S
  repeat' (first | apply HL.fold | apply HA.fold | apply HL.nil | apply HX.n_then | apply HC.seq | apply HC.region | refine HL.pa ?_ | refine HL.ga rfl ?_ | refine HL.na rfl ?_ | refine HL.nu rfl rfl ?_ | apply HC.block | apply HC.skip | apply HC.exit | apply HC.ret | apply HX.e_block | refine HX.e_other rfl ?_ | apply HX.e_then | apply HX.e_again | apply HX.n_block | apply HX.r_then | apply HX.r_block | apply HX.r_again | refine HC.cond_yes rfl ?_ | refine HC.cond_no rfl ?_ | refine HL.one (H1.ldb rfl memA rfl rfl ?_) | refine HC.cond rfl (fun hc => ?_) (fun hc => ?_) | refine HC.cond_b rfl (fun hc => ?_) (fun hc => ?_))
  refine HC.grow0 5 1 ?_
  refine HC.loop (α := Nat × Option Addr × Nat) (fun z => [(3, .slice (some ⟨gh, 0, none⟩) 8 ch), (6, .slice z.2.1 (4 * z.1) z.2.2), (7, zv (z.1 : Int))]) (fun z => [A.grow 5 1 z.2.1 z.2.2 (4 * z.1) (ub (digI S z.1)), A.grow 109 1 (some ⟨gh, 0, none⟩) ch 8 (ws S.l)]) (fun z => z.1 ≤ 8) (fun z => 8 - z.1) (0, none, 0) (Nat.zero_le _) esA (Hs.cons Pick.here (Hs.cons Pick.here (Hs.refl _).skip)) ?_
  rintro ⟨i, a, c⟩ hi
  dsimp only at hi ⊢
  by_cases hlt8 : i < 8
  · have hv := S8.get (s := S) hlt8
    have hsn := digI_snoc S hlt8
    generalize S.l.getD i 0 = x at hv hsn
    repeat' (first | apply HL.fold | apply HA.fold | apply HL.nil | apply HX.n_then | apply HC.seq | apply HC.region | refine HL.pa ?_ | refine HL.ga rfl ?_ | refine HL.na rfl ?_ | refine HL.nu rfl rfl ?_ | apply HC.block | apply HC.skip | apply HC.exit | apply HC.ret | apply HX.e_block | refine HX.e_other rfl ?_ | apply HX.e_then | apply HX.e_again | apply HX.n_block | apply HX.r_then | apply HX.r_block | apply HX.r_again | refine HC.cond_yes rfl ?_ | refine HC.cond_no rfl ?_ | refine HL.one (H1.ldb rfl memA rfl rfl ?_) | refine HC.cond rfl (fun hc => ?_) (fun hc => ?_) | refine HC.cond_b rfl (fun hc => ?_) (fun hc => ?_))
    refine HC.anyC ([(⟨gh, i, none⟩, w32 x)]) rfl ?_
    refine HB.pa 0 rfl ?_
    refine HB.pa 1 rfl ?_
    refine HB.pa 2 rfl ?_
    refine HB.pa 3 rfl ?_
    refine HB.ld 4 rfl rfl memD ?_
    refine HB.pa 5 rfl ?_
    refine HB.pa 6 rfl ?_
    refine HB.pa 7 rfl ?_
    refine HB.pa 8 rfl ?_
    refine HB.pa 9 rfl ?_
    refine HB.ld 10 rfl rfl memD ?_
    refine HB.pa 11 rfl ?_
    refine HB.pa 12 rfl ?_
    refine HB.pa 13 rfl ?_
    refine HB.pa 14 rfl ?_
    refine HB.pa 15 rfl ?_
    refine HB.ld 16 rfl rfl memD ?_
    refine HB.pa 17 rfl ?_
    refine HB.pa 18 rfl ?_
    refine HB.pa 19 rfl ?_
    refine HB.pa 20 rfl ?_
    refine HB.pa 21 rfl ?_
    refine HB.ld 22 rfl rfl memD ?_
    refine HB.pa 23 rfl ?_
    refine HB.all (by (exact Keep.grow (b := gh) (c := ch) (n := 8) (vs := ws S.l) memD hv Keep.nil)) [24] (by kernel_rfl) rfl ⟨⟨_, rfl, ?_⟩, trivial⟩
    refine HP.one ?_
    refine H1.lit (cs := ub [(x >>> UInt32.ofNat 24).toUInt8, (x >>> UInt32.ofNat 16).toUInt8, (x >>> UInt32.ofNat 8).toUInt8, x.toUInt8]) rfl rfl rfl rfl rfl rfl (fun b9 => ?_)
    apply HB.fold
    refine HB.all (by (exact Keep.grow (b := gh) (c := ch) (n := 8) (vs := ws S.l) memD hv Keep.nil)) [25] (by kernel_rfl) rfl ⟨⟨_, rfl, ?_⟩, trivial⟩
    refine HP.one ?_
    refine H1.app (sz := 1) (m := 4) (news := ub [(x >>> UInt32.ofNat 24).toUInt8, (x >>> UInt32.ofNat 16).toUInt8, (x >>> UInt32.ofNat 8).toUInt8, x.toUInt8]) rfl (by decide) rfl rfl (fun _ _ => by first | ((repeat (first | with_reducible exact Rpl.here | with_reducible apply Rpl.there)); done) | (repeat (first | exact Rpl.here | apply Rpl.there))) rfl (fun w' hM j u hj => ?_) (by
        intro v hv
        obtain ⟨y, -, rfl⟩ := List.mem_map.1 hv
        rfl) (by omega) (by decide) rfl (fun a' c' hac => ?_)
    · rw [add_lit, Nat.zero_add]; exact (hM.blk (b := b9) memA).cell hj
    rw [ub_app4, hsn, show 4 * i + 4 = 4 * (i + 1) from by omega]
    apply HB.fold
    refine HB.pa 26 rfl ?_
    refine HB.done (by (exact Keep.grow (b := gh) (c := ch) (n := 8) (vs := ws S.l) memD hv Keep.nil)) (by kernel_rfl) ?_
    repeat' (first | apply HL.fold | apply HA.fold | apply HL.nil | apply HX.n_then | apply HC.seq | apply HC.region | refine HL.pa ?_ | refine HL.ga rfl ?_ | refine HL.na rfl ?_ | refine HL.nu rfl rfl ?_ | apply HC.block | apply HC.skip | apply HC.exit | apply HC.ret | apply HX.e_block | refine HX.e_other rfl ?_ | apply HX.e_then | apply HX.e_again | apply HX.n_block | apply HX.r_then | apply HX.r_block | apply HX.r_again | refine HC.cond_yes rfl ?_ | refine HC.cond_no rfl ?_ | refine HL.one (H1.ldb rfl memA rfl rfl ?_) | refine HC.cond rfl (fun hc => ?_) (fun hc => ?_) | refine HC.cond_b rfl (fun hc => ?_) (fun hc => ?_))
    exact HX.again (i + 1, a', c') hlt8 (by show 8 - (i + 1) < 8 - i; omega) esA (Hs.cons (Pick.there Pick.here) (Hs.cons (Pick.there Pick.here) (Hs.nil _)))
  · obtain rfl : i = 8 := by omega
    refine HC.openg (e := 5) (sz := 1) (a := a) (c := c) (n := 4 * 8) (xs := ub (digI S 8)) memA (by decide) ?_
    rintro go rfl
    rw [digI_8]
    have hdl : (digL S).length = 4 * 8 := digL_len S
    rw [← hdl]
    repeat' (first | apply HL.fold | apply HA.fold | apply HL.nil | apply HX.n_then | apply HC.seq | apply HC.region | refine HL.pa ?_ | refine HL.ga rfl ?_ | refine HL.na rfl ?_ | refine HL.nu rfl rfl ?_ | apply HC.block | apply HC.skip | apply HC.exit | apply HC.ret | apply HX.e_block | refine HX.e_other rfl ?_ | apply HX.e_then | apply HX.e_again | apply HX.n_block | apply HX.r_then | apply HX.r_block | apply HX.r_again | refine HC.cond_yes rfl ?_ | refine HC.cond_no rfl ?_ | refine HL.one (H1.ldb rfl memA rfl rfl ?_) | refine HC.cond rfl (fun hc => ?_) (fun hc => ?_) | refine HC.cond_b rfl (fun hc => ?_) (fun hc => ?_))
    refine HL.one (H1.bstrg (ys := digL S) (c := c) (b := go) rfl (.head _) rfl ?_)
    repeat' (first | apply HL.fold | apply HA.fold | apply HL.nil | apply HX.n_then | apply HC.seq | apply HC.region | refine HL.pa ?_ | refine HL.ga rfl ?_ | refine HL.na rfl ?_ | refine HL.nu rfl rfl ?_ | apply HC.block | apply HC.skip | apply HC.exit | apply HC.ret | apply HX.e_block | refine HX.e_other rfl ?_ | apply HX.e_then | apply HX.e_again | apply HX.n_block | apply HX.r_then | apply HX.r_block | apply HX.r_again | refine HC.cond_yes rfl ?_ | refine HC.cond_no rfl ?_ | refine HL.one (H1.ldb rfl memA rfl rfl ?_) | refine HC.cond rfl (fun hc => ?_) (fun hc => ?_) | refine HC.cond_b rfl (fun hc => ?_) (fun hc => ?_))
    exact HX.ret1 rfl rfl fun w' hM => ⟨rfl, hM.ext⟩
end Go.Sx


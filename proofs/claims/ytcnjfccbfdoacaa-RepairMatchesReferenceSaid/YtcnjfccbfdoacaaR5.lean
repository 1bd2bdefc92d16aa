/- Chapter 19: has and Right of the reference; unique, custodians of the program. -/
import Derived.Test.YtcnjfccbfdoacaaR4
import Derived.Test.YtcnjfccbfdoacaaHx6
namespace Go.Sx
open Go Go.Proofs
theorem any_take {l : List Tr} {i : Nat} (h : i < l.length) (p : Tr → Bool) : (l.take (i + 1)).any p = ((l.take i).any p || p (tr l i)) := by
  rw [tr_take h, List.any_append]; simp
theorem filter_step (p : Nat → Bool) (i : Nat) : ((List.range (i + 1)).filter p).map Int.ofNat = ((List.range i).filter p).map Int.ofNat ++ (if p i = true then [(i : Int)] else []) := by
  rw [List.range_succ, List.filter_append, List.map_append]
  congr 1
  by_cases h : p i = true
  · simp [h]
  · simp [h]
attribute [local irreducible] WC WL WX POp Then Again Fn NX W1 WA WO QL RP RA Yld LoopAt HC HL HX HN H1 HA HO HQ A.blk A.grow A.rd A.obj AgainH CutH
theorem rhas_fn (v u : Value) (surv : List Int) (l : List Tr) (day : Int) (hs : surv.length ≤ 1000000) (hl : l.length ≤ 1000000) (w : World) (hR : Rd w v (ints surv)) (hT : RdT w u l) :
    Fn Try.prog 31 #[v, u, .int .i64 day] w fun x w' => ∃ z : Option Addr × Nat, True ∧ x = .slice z.1 (hasR surv l day).length z.2 ∧ Mm w [A.grow 3 1 z.1 z.2 (hasR surv l day).length (ints (hasR surv l day))] w' := by
  obtain ⟨a, c, rfl⟩ := hT.shape
  refine enterH (l := [_, _, _]) rfl Try.ntmps31 rfl ?_
  repeat' (first | apply HL.fold | apply HA.fold | apply HL.nil | apply HX.n_then | apply HC.seq | apply HC.region | refine HL.pa ?_ | refine HL.ga rfl ?_ | refine HL.na rfl ?_ | refine HL.nu rfl rfl ?_ | apply HC.skip | apply HC.exit | apply HC.ret | apply HX.e_block | refine HX.e_other rfl ?_ | apply HX.e_then | apply HX.e_again | apply HX.n_block | apply HX.r_then | apply HX.r_block | apply HX.r_again | refine HC.cond_yes rfl ?_ | refine HC.cond_no rfl ?_ | refine HL.one (H1.ldb rfl memA rfl rfl ?_) | refine HC.cond rfl (fun hc => ?_) (fun hc => ?_) | refine HC.cond_b rfl (fun hc => ?_) (fun hc => ?_))
  refine HC.grow0 3 1 ?_
  repeat' (first | apply HL.fold | apply HA.fold | apply HL.nil | apply HX.n_then | apply HC.seq | apply HC.region | refine HL.pa ?_ | refine HL.ga rfl ?_ | refine HL.na rfl ?_ | refine HL.nu rfl rfl ?_ | apply HC.block | apply HC.skip | apply HC.exit | apply HC.ret | apply HX.e_block | refine HX.e_other rfl ?_ | apply HX.e_then | apply HX.e_again | apply HX.n_block | apply HX.r_then | apply HX.r_block | apply HX.r_again | refine HC.cond_yes rfl ?_ | refine HC.cond_no rfl ?_ | refine HL.one (H1.ldb rfl memA rfl rfl ?_) | refine HC.cond rfl (fun hc => ?_) (fun hc => ?_) | refine HC.cond_b rfl (fun hc => ?_) (fun hc => ?_))
  refine HC.loop (α := Nat × Option Addr × Nat) (fun z => [(0, v), (1, .slice a l.length c), (2, .int .i64 day), (7, .slice z.2.1 (((List.range z.1).filter (hasP surv l day)).map Int.ofNat).length z.2.2), (8, .int .i64 (z.1 : Int))])
    (fun z => [A.grow 3 1 z.2.1 z.2.2 (((List.range z.1).filter (hasP surv l day)).map Int.ofNat).length (ints (((List.range z.1).filter (hasP surv l day)).map Int.ofNat))]) (fun z => z.1 ≤ 9) (fun z => 9 - z.1) (0, none, 0) (Nat.zero_le _) esA (by repeat (first | exact Hs.nil _ | (refine Hs.cons pickA ?_))) ?_
  rintro ⟨i, ar, cr⟩ hi
  dsimp only at hi ⊢
  have hlen9 : (((List.range i).filter (hasP surv l day)).map Int.ofNat).length ≤ 9 := by
    rw [List.length_map]
    have := List.length_filter_le (hasP surv l day) (List.range i)
    rw [List.length_range] at this
    omega
  generalize hX : ((List.range i).filter (hasP surv l day)).map Int.ofNat = X at *
  by_cases hlt : i < 9
  · have hstep := filter_step (hasP surv l day) i
    rw [hX] at hstep
    repeat' (first | apply HL.fold | apply HA.fold | apply HL.nil | apply HX.n_then | apply HC.seq | apply HC.region | refine HL.pa ?_ | refine HL.ga rfl ?_ | refine HL.na rfl ?_ | refine HL.nu rfl rfl ?_ | apply HC.block | apply HC.skip | apply HC.exit | apply HC.ret | apply HX.e_block | refine HX.e_other rfl ?_ | apply HX.e_then | apply HX.e_again | apply HX.n_block | apply HX.r_then | apply HX.r_block | apply HX.r_again | refine HC.cond_yes rfl ?_ | refine HC.cond_no rfl ?_ | refine HL.one (H1.ldb rfl memA rfl rfl ?_) | refine HC.cond rfl (fun hc => ?_) (fun hc => ?_) | refine HC.cond_b rfl (fun hc => ?_) (fun hc => ?_))
    refine HL.one (H1.call0 (vs := [v, .int .i64 (i : Int)]) rfl rfl (fun w hM => rin_fn v surv i hs w (hM.rd0 hR)) ?_)
    repeat' (first | apply HL.fold | apply HA.fold | apply HL.nil | apply HX.n_then | apply HC.seq | apply HC.region | refine HL.pa ?_ | refine HL.ga rfl ?_ | refine HL.na rfl ?_ | refine HL.nu rfl rfl ?_ | apply HC.skip | apply HC.exit | apply HC.ret | apply HX.e_block | refine HX.e_other rfl ?_ | apply HX.e_then | apply HX.e_again | apply HX.n_block | apply HX.r_then | apply HX.r_block | apply HX.r_again | refine HC.cond_yes rfl ?_ | refine HC.cond_no rfl ?_ | refine HL.one (H1.ldb rfl memA rfl rfl ?_) | refine HC.cond rfl (fun hc => ?_) (fun hc => ?_) | refine HC.cond_b rfl (fun hc => ?_) (fun hc => ?_))
    refine HC.cut (α := Unit) (fun _ => [(0, v), (1, .slice a l.length c), (2, .int .i64 day), (7, .slice ar X.length cr), (8, .int .i64 (i : Int)), (9, .bool (hasP surv l day i))]) (fun _ => [A.grow 3 1 ar cr X.length (ints X)]) (fun _ => True) ?_ ?_
    · repeat' (first | apply HL.fold | apply HA.fold | apply HL.nil | apply HX.n_then | apply HC.seq | apply HC.region | refine HL.pa ?_ | refine HL.ga rfl ?_ | refine HL.na rfl ?_ | refine HL.nu rfl rfl ?_ | apply HC.block | apply HC.skip | apply HC.exit | apply HC.ret | apply HX.e_block | refine HX.e_other rfl ?_ | apply HX.e_then | apply HX.e_again | apply HX.n_block | apply HX.r_then | apply HX.r_block | apply HX.r_again | refine HC.cond_yes rfl ?_ | refine HC.cond_no rfl ?_ | refine HL.one (H1.ldb rfl memA rfl rfl ?_) | refine HC.cond rfl (fun hc => ?_) (fun hc => ?_) | refine HC.cond_b rfl (fun hc => ?_) (fun hc => ?_))
      refine HC.loop (α := Nat) (fun j => [(0, v), (1, .slice a l.length c), (2, .int .i64 day), (7, .slice ar X.length cr), (8, .int .i64 (i : Int)), (9, .bool (decide ((i : Int) ∈ surv) || (l.take j).any fun t => decide (t.to = i ∧ t.stop ≤ day))), (10, .int .i64 (j : Int))])
        (fun _ => [A.grow 3 1 ar cr X.length (ints X)]) (fun j => j ≤ l.length) (fun j => l.length - j) 0 (Nat.zero_le _) ⟨rfl, rfl, rfl, rfl, rfl, (by simp; rfl), rfl, trivial⟩ (by repeat (first | exact Hs.nil _ | (refine Hs.cons pickA ?_))) ?_
      intro j hj
      by_cases hjl : j < l.length
      · have hany := any_take hjl fun t => decide (t.to = i ∧ t.stop ≤ day)
        obtain ⟨b, off, h, rfl, hcl, -⟩ := hT.el hjl
        cases hb : (decide ((i : Int) ∈ surv) || (l.take j).any fun t => decide (t.to = i ∧ t.stop ≤ day)) with
        | true =>
          repeat' (first | apply HL.fold | apply HA.fold | apply HL.nil | apply HX.n_then | apply HC.seq | apply HC.region | refine HL.pa ?_ | refine HL.ga rfl ?_ | refine HL.na rfl ?_ | refine HL.nu rfl rfl ?_ | apply HC.block | apply HC.skip | apply HC.exit | apply HC.ret | apply HX.e_block | refine HX.e_other rfl ?_ | apply HX.e_then | apply HX.e_again | apply HX.n_block | apply HX.r_then | apply HX.r_block | apply HX.r_again | refine HC.cond_yes rfl ?_ | refine HC.cond_no rfl ?_ | refine HL.one (H1.ldb rfl memA rfl rfl ?_) | refine HC.cond rfl (fun hc => ?_) (fun hc => ?_) | refine HC.cond_b rfl (fun hc => ?_) (fun hc => ?_))
          refine HX.again (j + 1) (by omega) (by omega) ⟨rfl, rfl, rfl, rfl, rfl, ?_, rfl, trivial⟩ (by repeat (first | exact Hs.nil _ | (refine Hs.cons pickA ?_)))
          rw [hany, ← Bool.or_assoc, hb]; rfl
        | false =>
          by_cases h1 : (tr l j).to = (i : Int)
          · repeat' (first | apply HL.fold | apply HA.fold | apply HL.nil | apply HX.n_then | apply HC.seq | apply HC.region | refine HL.pa ?_ | refine HL.ga rfl ?_ | refine HL.na rfl ?_ | refine HL.nu rfl rfl ?_ | apply HC.block | apply HC.skip | apply HC.exit | apply HC.ret | apply HX.e_block | refine HX.e_other rfl ?_ | apply HX.e_then | apply HX.e_again | apply HX.n_block | apply HX.r_then | apply HX.r_block | apply HX.r_again | refine HC.cond_yes rfl ?_ | refine HC.cond_no rfl ?_ | refine HL.one (H1.ldb rfl memA rfl rfl ?_) | refine HC.cond rfl (fun hc => ?_) (fun hc => ?_) | refine HC.cond_b rfl (fun hc => ?_) (fun hc => ?_))
            refine HL.one (H1.ld0 rfl (hcl 1 _ rfl) rfl ?_)
            repeat' (first | apply HL.fold | apply HA.fold | apply HL.nil | apply HX.n_then | apply HC.seq | apply HC.region | refine HL.pa ?_ | refine HL.ga rfl ?_ | refine HL.na rfl ?_ | refine HL.nu rfl rfl ?_ | apply HC.block | apply HC.skip | apply HC.exit | apply HC.ret | apply HX.e_block | refine HX.e_other rfl ?_ | apply HX.e_then | apply HX.e_again | apply HX.n_block | apply HX.r_then | apply HX.r_block | apply HX.r_again | refine HC.cond_yes rfl ?_ | refine HC.cond_no rfl ?_ | refine HL.one (H1.ldb rfl memA rfl rfl ?_) | refine HC.cond rfl (fun hc => ?_) (fun hc => ?_) | refine HC.cond_b rfl (fun hc => ?_) (fun hc => ?_))
            refine HL.one (H1.ld0 rfl (hcl 4 _ rfl) rfl ?_)
            repeat' (first | apply HL.fold | apply HA.fold | apply HL.nil | apply HX.n_then | apply HC.seq | apply HC.region | refine HL.pa ?_ | refine HL.ga rfl ?_ | refine HL.na rfl ?_ | refine HL.nu rfl rfl ?_ | apply HC.block | apply HC.skip | apply HC.exit | apply HC.ret | apply HX.e_block | refine HX.e_other rfl ?_ | apply HX.e_then | apply HX.e_again | apply HX.n_block | apply HX.r_then | apply HX.r_block | apply HX.r_again | refine HC.cond_yes rfl ?_ | refine HC.cond_no rfl ?_ | refine HL.one (H1.ldb rfl memA rfl rfl ?_) | refine HC.cond rfl (fun hc => ?_) (fun hc => ?_) | refine HC.cond_b rfl (fun hc => ?_) (fun hc => ?_))
            refine HX.again (j + 1) (by omega) (by omega) ⟨rfl, rfl, rfl, rfl, rfl, ?_, rfl, trivial⟩ (by repeat (first | exact Hs.nil _ | (refine Hs.cons pickA ?_)))
            rw [hany, ← Bool.or_assoc, hb]
            simp [h1]; rfl
          · repeat' (first | apply HL.fold | apply HA.fold | apply HL.nil | apply HX.n_then | apply HC.seq | apply HC.region | refine HL.pa ?_ | refine HL.ga rfl ?_ | refine HL.na rfl ?_ | refine HL.nu rfl rfl ?_ | apply HC.block | apply HC.skip | apply HC.exit | apply HC.ret | apply HX.e_block | refine HX.e_other rfl ?_ | apply HX.e_then | apply HX.e_again | apply HX.n_block | apply HX.r_then | apply HX.r_block | apply HX.r_again | refine HC.cond_yes rfl ?_ | refine HC.cond_no rfl ?_ | refine HL.one (H1.ldb rfl memA rfl rfl ?_) | refine HC.cond rfl (fun hc => ?_) (fun hc => ?_) | refine HC.cond_b rfl (fun hc => ?_) (fun hc => ?_))
            refine HL.one (H1.ld0 rfl (hcl 1 _ rfl) rfl ?_)
            repeat' (first | apply HL.fold | apply HA.fold | apply HL.nil | apply HX.n_then | apply HC.seq | apply HC.region | refine HL.pa ?_ | refine HL.ga rfl ?_ | refine HL.na rfl ?_ | refine HL.nu rfl rfl ?_ | apply HC.block | apply HC.skip | apply HC.exit | apply HC.ret | apply HX.e_block | refine HX.e_other rfl ?_ | apply HX.e_then | apply HX.e_again | apply HX.n_block | apply HX.r_then | apply HX.r_block | apply HX.r_again | refine HC.cond_yes rfl ?_ | refine HC.cond_no rfl ?_ | refine HL.one (H1.ldb rfl memA rfl rfl ?_) | refine HC.cond rfl (fun hc => ?_) (fun hc => ?_) | refine HC.cond_b rfl (fun hc => ?_) (fun hc => ?_))
            refine HX.again (j + 1) (by omega) (by omega) ⟨rfl, rfl, rfl, rfl, rfl, ?_, rfl, trivial⟩ (by repeat (first | exact Hs.nil _ | (refine Hs.cons pickA ?_)))
            rw [hany, ← Bool.or_assoc, hb]
            simp [h1]; rfl
      · obtain rfl : j = l.length := by omega
        rw [List.take_length]
        repeat' (first | apply HL.fold | apply HA.fold | apply HL.nil | apply HX.n_then | apply HC.seq | apply HC.region | refine HL.pa ?_ | refine HL.ga rfl ?_ | refine HL.na rfl ?_ | refine HL.nu rfl rfl ?_ | apply HC.block | apply HC.skip | apply HC.exit | apply HC.ret | apply HX.e_block | refine HX.e_other rfl ?_ | apply HX.e_then | apply HX.e_again | apply HX.n_block | apply HX.r_then | apply HX.r_block | apply HX.r_again | refine HC.cond_yes rfl ?_ | refine HC.cond_no rfl ?_ | refine HL.one (H1.ldb rfl memA rfl rfl ?_) | refine HC.cond rfl (fun hc => ?_) (fun hc => ?_) | refine HC.cond_b rfl (fun hc => ?_) (fun hc => ?_))
        exact HX.cut () trivial esA (by repeat (first | exact Hs.nil _ | (refine Hs.cons pickA ?_)))
    · rintro - -
      cases hb : hasP surv l day i with
      | true =>
        rw [if_pos hb] at hstep
        repeat' (first | apply HL.fold | apply HA.fold | apply HL.nil | apply HX.n_then | apply HC.seq | apply HC.region | refine HL.pa ?_ | refine HL.ga rfl ?_ | refine HL.na rfl ?_ | refine HL.nu rfl rfl ?_ | apply HC.block | apply HC.skip | apply HC.exit | apply HC.ret | apply HX.e_block | refine HX.e_other rfl ?_ | apply HX.e_then | apply HX.e_again | apply HX.n_block | apply HX.r_then | apply HX.r_block | apply HX.r_again | refine HC.cond_yes rfl ?_ | refine HC.cond_no rfl ?_ | refine HL.one (H1.ldb rfl memA rfl rfl ?_) | refine HC.cond rfl (fun hc => ?_) (fun hc => ?_) | refine HC.cond_b rfl (fun hc => ?_) (fun hc => ?_))
        refine HL.one (H1.lit (cs := [.int .i64 (i : Int)]) rfl rfl rfl rfl rfl rfl (fun b2 => ?_))
        repeat' (first | apply HL.fold | apply HA.fold | apply HL.nil | apply HX.n_then | apply HC.seq | apply HC.region | refine HL.pa ?_ | refine HL.ga rfl ?_ | refine HL.na rfl ?_ | refine HL.nu rfl rfl ?_ | apply HC.block | apply HC.skip | apply HC.exit | apply HC.ret | apply HX.e_block | refine HX.e_other rfl ?_ | apply HX.e_then | apply HX.e_again | apply HX.n_block | apply HX.r_then | apply HX.r_block | apply HX.r_again | refine HC.cond_yes rfl ?_ | refine HC.cond_no rfl ?_ | refine HL.one (H1.ldb rfl memA rfl rfl ?_) | refine HC.cond rfl (fun hc => ?_) (fun hc => ?_) | refine HC.cond_b rfl (fun hc => ?_) (fun hc => ?_))
        refine HL.one (H1.app1 (u := .int .i64 (i : Int)) rfl rfl (fun _ _ => by first | ((repeat (first | with_reducible exact Rpl.here | with_reducible apply Rpl.there)); done) | (repeat (first | exact Rpl.here | apply Rpl.there))) memA rfl rfl (by omega) rfl rfl (fun a' c' => ?_))
        repeat' (first | apply HL.fold | apply HA.fold | apply HL.nil | apply HX.n_then | apply HC.seq | apply HC.region | refine HL.pa ?_ | refine HL.ga rfl ?_ | refine HL.na rfl ?_ | refine HL.nu rfl rfl ?_ | apply HC.block | apply HC.skip | apply HC.exit | apply HC.ret | apply HX.e_block | refine HX.e_other rfl ?_ | apply HX.e_then | apply HX.e_again | apply HX.n_block | apply HX.r_then | apply HX.r_block | apply HX.r_again | refine HC.cond_yes rfl ?_ | refine HC.cond_no rfl ?_ | refine HL.one (H1.ldb rfl memA rfl rfl ?_) | refine HC.cond rfl (fun hc => ?_) (fun hc => ?_) | refine HC.cond_b rfl (fun hc => ?_) (fun hc => ?_))
        refine HX.again (i + 1, some ⟨a', 0, none⟩, c') (by show i + 1 ≤ 9; omega) (by show 9 - (i + 1) < 9 - i; omega) ⟨rfl, rfl, rfl, ?_, rfl, trivial⟩ ?_
        · show _ = some (Value.slice (some ⟨a', 0, none⟩) _ c')
          rw [hstep, List.length_append]; rfl
        · show Hs _ [A.grow _ _ (some ⟨a', 0, none⟩) c' _ _]
          rw [hstep, List.length_append, ints_app]
          exact Hs.cons (Pick.there Pick.here) (Hs.nil _)
      | false =>
        rw [if_neg (by rw [hb]; simp), List.append_nil] at hstep
        repeat' (first | apply HL.fold | apply HA.fold | apply HL.nil | apply HX.n_then | apply HC.seq | apply HC.region | refine HL.pa ?_ | refine HL.ga rfl ?_ | refine HL.na rfl ?_ | refine HL.nu rfl rfl ?_ | apply HC.block | apply HC.skip | apply HC.exit | apply HC.ret | apply HX.e_block | refine HX.e_other rfl ?_ | apply HX.e_then | apply HX.e_again | apply HX.n_block | apply HX.r_then | apply HX.r_block | apply HX.r_again | refine HC.cond_yes rfl ?_ | refine HC.cond_no rfl ?_ | refine HL.one (H1.ldb rfl memA rfl rfl ?_) | refine HC.cond rfl (fun hc => ?_) (fun hc => ?_) | refine HC.cond_b rfl (fun hc => ?_) (fun hc => ?_))
        refine HX.again (i + 1, ar, cr) (by show i + 1 ≤ 9; omega) (by show 9 - (i + 1) < 9 - i; omega) ⟨rfl, rfl, rfl, ?_, rfl, trivial⟩ ?_
        · show _ = some (Value.slice ar _ cr)
          rw [hstep]; rfl
        · show Hs _ [A.grow _ _ ar cr _ _]
          rw [hstep]; exact Hs.refl _
  · obtain rfl : i = 9 := by omega
    repeat' (first | apply HL.fold | apply HA.fold | apply HL.nil | apply HX.n_then | apply HC.seq | apply HC.region | refine HL.pa ?_ | refine HL.ga rfl ?_ | refine HL.na rfl ?_ | refine HL.nu rfl rfl ?_ | apply HC.block | apply HC.skip | apply HC.exit | apply HC.ret | apply HX.e_block | refine HX.e_other rfl ?_ | apply HX.e_then | apply HX.e_again | apply HX.n_block | apply HX.r_then | apply HX.r_block | apply HX.r_again | refine HC.cond_yes rfl ?_ | refine HC.cond_no rfl ?_ | refine HL.one (H1.ldb rfl memA rfl rfl ?_) | refine HC.cond rfl (fun hc => ?_) (fun hc => ?_) | refine HC.cond_b rfl (fun hc => ?_) (fun hc => ?_))
    refine HX.ret1 rfl rfl fun w' hM => ⟨(ar, cr), trivial, ?_, ?_⟩
    · unfold hasR; rw [hX]
    · unfold hasR; rw [hX]; exact hM
theorem right_no {holders lost : List Int} {width k deadline : Int} (h : ¬ (custs holders ∧ 0 < holders.length ∧ holders.length ≤ 9 ∧ (1 ≤ width ∧ width ≤ 9) ∧ (1 ≤ k ∧ k ≤ holders.length) ∧ (0 ≤ deadline ∧ deadline ≤ 1000))) : ¬ Right holders lost width k deadline :=
  fun r => h ⟨r.cu, r.pos, r.n9, r.w, r.k, r.d⟩
theorem ascTo_succ {n : Int} {lost : List Int} {i : Nat} : ascTo n lost (i + 1) ↔ ascTo n lost i ∧ (0 ≤ at' lost i ∧ at' lost i ≤ n - 1) ∧ (0 < i → at' lost (i - 1) < at' lost i) := by
  constructor
  · intro h
    exact ⟨fun j hj => h j (by omega), (h i (by omega)).1, (h i (by omega)).2⟩
  · rintro ⟨h1, h2, h3⟩ j hj
    by_cases e : j = i
    · subst e; exact ⟨h2, h3⟩
    · exact h1 j (by omega)
theorem ascTo_le {n : Int} {lost : List Int} {i j : Nat} (h : ascTo n lost i) (hj : j ≤ i) : ascTo n lost j := fun q hq => h q (by omega)
end Go.Sx


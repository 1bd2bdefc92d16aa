/- Chapter 19: After of the reference. -/
import Derived.Test.YtcnjfccbfdoacaaR8
namespace Go.Sx
open Go Go.Proofs
/-- Where fragment i is, by the transfers that have ended. -/
def backT (l : List Tr) (i : Nat) (day : Int) : Int := match l.find? fun t => decide (t.frag = (i : Int) ∧ t.stop ≤ day) with
  | some t => t.to
  | none => -1
def afterI (holders lost : List Int) (l : List Tr) (day : Int) (i : Nat) : Int := if (i : Int) ∈ lost then backT l i day else at' holders i
def afterS (holders lost : List Int) (l : List Tr) (day : Int) : List Int := (List.range holders.length).map (afterI holders lost l day)
theorem ints_row (f : Nat → Int) (n : Nat) : ints ((List.range n).map f) = row n fun q => zv (f q) := by
  simp [ints, row, List.map_map]
theorem range_at (l : List Int) : (List.range l.length).map (at' l) = l := by
  apply List.ext_getElem
  · simp
  · intro i h1 h2
    simp [at', List.getD_eq_getElem?_getD]
    rw [List.getElem?_eq_getElem h2]; rfl
theorem back_drop {l : List Tr} {j : Nat} (hj : j < l.length) (i : Nat) (day : Int) : backT (l.drop j) i day = if (tr l j).frag = i ∧ (tr l j).stop ≤ day then (tr l j).to else backT (l.drop (j + 1)) i day := by
  have : l.drop j = tr l j :: l.drop (j + 1) := by rw [List.drop_eq_getElem_cons hj]; simp [tr, hj]
  unfold backT
  rw [this, List.find?_cons]
  by_cases h : (tr l j).frag = i ∧ (tr l j).stop ≤ day
  · rw [decide_eq_true h, if_pos h]
  · rw [decide_eq_false h, if_neg h]
attribute [local irreducible] WC WL WX POp Then Again Fn NX W1 WA WO QL RP RA Yld LoopAt HC HL HX HN H1 HA HO HQ A.blk A.grow A.rd A.obj AgainH CutH
set_option maxHeartbeats 2000000 in
theorem rafter_fn (v u t : Value) (holders lost : List Int) (l : List Tr) (day : Int) (hh : holders.length ≤ 1000000) (hl : lost.length ≤ 1000000) (ht : l.length ≤ 1000000) (w : World) (hR : Rd w v (ints holders)) (hS : Rd w u (ints lost)) (hT : RdT w t l) :
    Fn Try.prog 22 #[v, u, t, .int .i64 day] w fun x w' => ∃ z : Option Addr × Nat, True ∧ x = .slice z.1 (afterS holders lost l day).length z.2 ∧ Mm w [A.grow 3 1 z.1 z.2 (afterS holders lost l day).length (ints (afterS holders lost l day))] w' := by
  obtain ⟨a, c, rfl, hc⟩ := hR.isInts
  obtain ⟨a', c', rfl, hc'⟩ := hS.isInts
  obtain ⟨at_, ct, rfl⟩ := hT.shape
  refine enterH (l := [_, _, _, _]) rfl Try.ntmps22 rfl ?_
  have hlen : (ints holders).length = holders.length := ints_len _
  have hal : (afterS holders lost l day).length = holders.length := by simp [afterS]
  rw [hal]
  generalize hn : holders.length = n at *
  repeat' (first | apply HL.fold | apply HA.fold | apply HL.nil | apply HX.n_then | apply HC.seq | apply HC.region | refine HL.pa ?_ | refine HL.ga rfl ?_ | refine HL.na rfl ?_ | refine HL.nu rfl rfl ?_ | apply HC.block | apply HC.skip | apply HC.exit | apply HC.ret | apply HX.e_block | refine HX.e_other rfl ?_ | apply HX.e_then | apply HX.e_again | apply HX.n_block | apply HX.r_then | apply HX.r_block | apply HX.r_again | refine HC.cond_yes rfl ?_ | refine HC.cond_no rfl ?_ | refine HL.one (H1.ldb rfl memA rfl rfl ?_) | refine HC.cond rfl (fun hc => ?_) (fun hc => ?_) | refine HC.cond_b rfl (fun hc => ?_) (fun hc => ?_))
  refine HL.one (H1.lit0 rfl (fun b => ?_))
  repeat' (first | apply HL.fold | apply HA.fold | apply HL.nil | apply HX.n_then | apply HC.seq | apply HC.region | refine HL.pa ?_ | refine HL.ga rfl ?_ | refine HL.na rfl ?_ | refine HL.nu rfl rfl ?_ | apply HC.block | apply HC.skip | apply HC.exit | apply HC.ret | apply HX.e_block | refine HX.e_other rfl ?_ | apply HX.e_then | apply HX.e_again | apply HX.n_block | apply HX.r_then | apply HX.r_block | apply HX.r_again | refine HC.cond_yes rfl ?_ | refine HC.cond_no rfl ?_ | refine HL.one (H1.ldb rfl memA rfl rfl ?_) | refine HC.cond rfl (fun hc => ?_) (fun hc => ?_) | refine HC.cond_b rfl (fun hc => ?_) (fun hc => ?_))
  refine HL.one (H1.appR (vs := ints holders) rfl rfl (by rw [hlen]; rfl) (fun _ _ => by first | ((repeat (first | with_reducible exact Rpl.here | with_reducible apply Rpl.there)); done) | (repeat (first | exact Rpl.here | apply Rpl.there))) (fun w hM => by rw [hlen]; exact hM.rd0 hR) ?_ (by rw [hlen]; omega) (by decide) rfl (.inl rfl) (fun a2 c2 ha2 => ?_))
  · intro u hu
    obtain ⟨x, -, rfl⟩ := List.mem_map.1 hu
    rfl
  rw [hlen, Nat.zero_add] at ha2
  rw [hlen, Nat.zero_add, List.nil_append]
  repeat' (first | apply HL.fold | apply HA.fold | apply HL.nil | apply HX.n_then | apply HC.seq | apply HC.region | refine HL.pa ?_ | refine HL.ga rfl ?_ | refine HL.na rfl ?_ | refine HL.nu rfl rfl ?_ | apply HC.block | apply HC.skip | apply HC.exit | apply HC.ret | apply HX.e_block | refine HX.e_other rfl ?_ | apply HX.e_then | apply HX.e_again | apply HX.n_block | apply HX.r_then | apply HX.r_block | apply HX.r_again | refine HC.cond_yes rfl ?_ | refine HC.cond_no rfl ?_ | refine HL.one (H1.ldb rfl memA rfl rfl ?_) | refine HC.cond rfl (fun hc => ?_) (fun hc => ?_) | refine HC.cond_b rfl (fun hc => ?_) (fun hc => ?_))
  refine HC.loop (α := Nat) (fun i => [(1, .slice a' lost.length c'), (2, .slice at_ l.length ct), (3, .int .i64 day), (9, .slice a2 n c2), (10, .int .i64 (i : Int))])
    (fun i => [A.grow 3 1 a2 c2 n (row n fun q => zv (if q < i then afterI holders lost l day q else at' holders q))]) (fun i => i ≤ n) (fun i => n - i) 0 (Nat.zero_le _) esA ?_ ?_
  · refine Hs.cons (Pick.eq ?_) (Hs.nil _)
    rw [← ints_row]
    simp only [Nat.not_lt_zero, if_false]
    rw [← hn, range_at]
  intro i hi
  by_cases hlt : i < n
  · obtain ⟨b2, rfl⟩ : ∃ b, a2 = some ⟨b, 0, none⟩ := ha2.resolve_left (by omega)
    by_cases hin : (i : Int) ∈ lost
    · repeat' (first | apply HL.fold | apply HA.fold | apply HL.nil | apply HX.n_then | apply HC.seq | apply HC.region | refine HL.pa ?_ | refine HL.ga rfl ?_ | refine HL.na rfl ?_ | refine HL.nu rfl rfl ?_ | apply HC.block | apply HC.skip | apply HC.exit | apply HC.ret | apply HX.e_block | refine HX.e_other rfl ?_ | apply HX.e_then | apply HX.e_again | apply HX.n_block | apply HX.r_then | apply HX.r_block | apply HX.r_again | refine HC.cond_yes rfl ?_ | refine HC.cond_no rfl ?_ | refine HL.one (H1.ldb rfl memA rfl rfl ?_) | refine HC.cond rfl (fun hc => ?_) (fun hc => ?_) | refine HC.cond_b rfl (fun hc => ?_) (fun hc => ?_))
      refine HL.one (H1.call0 (vs := [.slice a' lost.length c', .int .i64 (i : Int)]) rfl rfl (fun w hM => rin_fn _ lost i hl w (hM.rd0 hS)) ?_)
      rw [decide_eq_true hin]
      repeat' (first | apply HL.fold | apply HA.fold | apply HL.nil | apply HX.n_then | apply HC.seq | apply HC.region | refine HL.pa ?_ | refine HL.ga rfl ?_ | refine HL.na rfl ?_ | refine HL.nu rfl rfl ?_ | apply HC.block | apply HC.skip | apply HC.exit | apply HC.ret | apply HX.e_block | refine HX.e_other rfl ?_ | apply HX.e_then | apply HX.e_again | apply HX.n_block | apply HX.r_then | apply HX.r_block | apply HX.r_again | refine HC.cond_yes rfl ?_ | refine HC.cond_no rfl ?_ | refine HL.one (H1.ldb rfl memA rfl rfl ?_) | refine HC.cond rfl (fun hc => ?_) (fun hc => ?_) | refine HC.cond_b rfl (fun hc => ?_) (fun hc => ?_))
      refine HL.one (H1.stg rfl rfl (by intro _ h; cases h) (by intro _ h; cases h) rplA (by rw [row_len]; omega) ?_)
      rw [row_set]
      repeat' (first | apply HL.fold | apply HA.fold | apply HL.nil | apply HX.n_then | apply HC.seq | apply HC.region | refine HL.pa ?_ | refine HL.ga rfl ?_ | refine HL.na rfl ?_ | refine HL.nu rfl rfl ?_ | apply HC.block | apply HC.skip | apply HC.exit | apply HC.ret | apply HX.e_block | refine HX.e_other rfl ?_ | apply HX.e_then | apply HX.e_again | apply HX.n_block | apply HX.r_then | apply HX.r_block | apply HX.r_again | refine HC.cond_yes rfl ?_ | refine HC.cond_no rfl ?_ | refine HL.one (H1.ldb rfl memA rfl rfl ?_) | refine HC.cond rfl (fun hc => ?_) (fun hc => ?_) | refine HC.cond_b rfl (fun hc => ?_) (fun hc => ?_))
      refine HC.loop (α := Nat) (fun j => [(1, .slice a' lost.length c'), (2, .slice at_ l.length ct), (3, .int .i64 day), (9, .slice (some ⟨b2, 0, none⟩) n c2), (10, .int .i64 (i : Int)), (11, .int .i64 ((j : Int) - 1))])
        (fun j => [A.grow 3 1 (some ⟨b2, 0, none⟩) c2 n (row n fun q => if q = i then zv (backT (l.drop j) i day) else zv (if q < i then afterI holders lost l day q else at' holders q))]) (fun j => j ≤ l.length) (fun j => j) l.length (Nat.le_refl _) esA ?_ ?_
      · refine Hs.cons (Pick.eq ?_) (Hs.nil _)
        rw [List.drop_length]; rfl
      intro j hj
      cases j with
      | zero =>
        repeat' (first | apply HL.fold | apply HA.fold | apply HL.nil | apply HX.n_then | apply HC.seq | apply HC.region | refine HL.pa ?_ | refine HL.ga rfl ?_ | refine HL.na rfl ?_ | refine HL.nu rfl rfl ?_ | apply HC.block | apply HC.skip | apply HC.exit | apply HC.ret | apply HX.e_block | refine HX.e_other rfl ?_ | apply HX.e_then | apply HX.e_again | apply HX.n_block | apply HX.r_then | apply HX.r_block | apply HX.r_again | refine HC.cond_yes rfl ?_ | refine HC.cond_no rfl ?_ | refine HL.one (H1.ldb rfl memA rfl rfl ?_) | refine HC.cond rfl (fun hc => ?_) (fun hc => ?_) | refine HC.cond_b rfl (fun hc => ?_) (fun hc => ?_))
        refine HX.again (i + 1) (by omega) (by omega) esA (Hs.cons (Pick.eq ?_) (Hs.nil _))
        congr 1
        apply row_congr
        intro q _
        by_cases e : q = i
        · subst e
          rw [if_pos rfl, if_pos (by omega), List.drop_zero]
          unfold afterI
          rw [if_pos hin]
        · rw [if_neg e]
          by_cases h : q < i
          · rw [if_pos h, if_pos (by omega)]
          · rw [if_neg h, if_neg (by omega)]
      | succ m =>
        rw [show ((m + 1 : Nat) : Int) - 1 = (m : Int) from by omega]
        have hm : m < l.length := by omega
        obtain ⟨b3, off, h, rfl, hcl, -⟩ := hT.el hm
        have hbk := back_drop hm i day
        by_cases h1 : (tr l m).frag = (i : Int)
        · by_cases h2 : (tr l m).stop ≤ day
          · rw [if_pos ⟨h1, h2⟩] at hbk
            repeat' (first | apply HL.fold | apply HA.fold | apply HL.nil | apply HX.n_then | apply HC.seq | apply HC.region | refine HL.pa ?_ | refine HL.ga rfl ?_ | refine HL.na rfl ?_ | refine HL.nu rfl rfl ?_ | apply HC.block | apply HC.skip | apply HC.exit | apply HC.ret | apply HX.e_block | refine HX.e_other rfl ?_ | apply HX.e_then | apply HX.e_again | apply HX.n_block | apply HX.r_then | apply HX.r_block | apply HX.r_again | refine HC.cond_yes rfl ?_ | refine HC.cond_no rfl ?_ | refine HL.one (H1.ldb rfl memA rfl rfl ?_) | refine HC.cond rfl (fun hc => ?_) (fun hc => ?_) | refine HC.cond_b rfl (fun hc => ?_) (fun hc => ?_))
            refine HL.one (H1.ld0 rfl (hcl 0 _ rfl) rfl ?_)
            repeat' (first | apply HL.fold | apply HA.fold | apply HL.nil | apply HX.n_then | apply HC.seq | apply HC.region | refine HL.pa ?_ | refine HL.ga rfl ?_ | refine HL.na rfl ?_ | refine HL.nu rfl rfl ?_ | apply HC.block | apply HC.skip | apply HC.exit | apply HC.ret | apply HX.e_block | refine HX.e_other rfl ?_ | apply HX.e_then | apply HX.e_again | apply HX.n_block | apply HX.r_then | apply HX.r_block | apply HX.r_again | refine HC.cond_yes rfl ?_ | refine HC.cond_no rfl ?_ | refine HL.one (H1.ldb rfl memA rfl rfl ?_) | refine HC.cond rfl (fun hc => ?_) (fun hc => ?_) | refine HC.cond_b rfl (fun hc => ?_) (fun hc => ?_))
            refine HL.one (H1.ld0 rfl (hcl 4 _ rfl) rfl ?_)
            repeat' (first | apply HL.fold | apply HA.fold | apply HL.nil | apply HX.n_then | apply HC.seq | apply HC.region | refine HL.pa ?_ | refine HL.ga rfl ?_ | refine HL.na rfl ?_ | refine HL.nu rfl rfl ?_ | apply HC.block | apply HC.skip | apply HC.exit | apply HC.ret | apply HX.e_block | refine HX.e_other rfl ?_ | apply HX.e_then | apply HX.e_again | apply HX.n_block | apply HX.r_then | apply HX.r_block | apply HX.r_again | refine HC.cond_yes rfl ?_ | refine HC.cond_no rfl ?_ | refine HL.one (H1.ldb rfl memA rfl rfl ?_) | refine HC.cond rfl (fun hc => ?_) (fun hc => ?_) | refine HC.cond_b rfl (fun hc => ?_) (fun hc => ?_))
            refine HL.one (H1.ld0 rfl (hcl 1 _ rfl) rfl ?_)
            repeat' (first | apply HL.fold | apply HA.fold | apply HL.nil | apply HX.n_then | apply HC.seq | apply HC.region | refine HL.pa ?_ | refine HL.ga rfl ?_ | refine HL.na rfl ?_ | refine HL.nu rfl rfl ?_ | apply HC.block | apply HC.skip | apply HC.exit | apply HC.ret | apply HX.e_block | refine HX.e_other rfl ?_ | apply HX.e_then | apply HX.e_again | apply HX.n_block | apply HX.r_then | apply HX.r_block | apply HX.r_again | refine HC.cond_yes rfl ?_ | refine HC.cond_no rfl ?_ | refine HL.one (H1.ldb rfl memA rfl rfl ?_) | refine HC.cond rfl (fun hc => ?_) (fun hc => ?_) | refine HC.cond_b rfl (fun hc => ?_) (fun hc => ?_))
            refine HL.one (H1.stg rfl rfl (by intro _ h; cases h) (by intro _ h; cases h) rplA (by rw [row_len]; omega) ?_)
            rw [row_set]
            repeat' (first | apply HL.fold | apply HA.fold | apply HL.nil | apply HX.n_then | apply HC.seq | apply HC.region | refine HL.pa ?_ | refine HL.ga rfl ?_ | refine HL.na rfl ?_ | refine HL.nu rfl rfl ?_ | apply HC.block | apply HC.skip | apply HC.exit | apply HC.ret | apply HX.e_block | refine HX.e_other rfl ?_ | apply HX.e_then | apply HX.e_again | apply HX.n_block | apply HX.r_then | apply HX.r_block | apply HX.r_again | refine HC.cond_yes rfl ?_ | refine HC.cond_no rfl ?_ | refine HL.one (H1.ldb rfl memA rfl rfl ?_) | refine HC.cond rfl (fun hc => ?_) (fun hc => ?_) | refine HC.cond_b rfl (fun hc => ?_) (fun hc => ?_))
            refine HX.again m (by omega) (by omega) esA (Hs.cons (Pick.eq ?_) (Hs.nil _))
            rw [hbk]
            congr 1
            apply row_congr
            intro q _
            by_cases e : q = i
            · rw [if_pos e, if_pos e]
            · rw [if_neg e, if_neg e, if_neg e]
          · rw [if_neg fun h => h2 h.2] at hbk
            repeat' (first | apply HL.fold | apply HA.fold | apply HL.nil | apply HX.n_then | apply HC.seq | apply HC.region | refine HL.pa ?_ | refine HL.ga rfl ?_ | refine HL.na rfl ?_ | refine HL.nu rfl rfl ?_ | apply HC.block | apply HC.skip | apply HC.exit | apply HC.ret | apply HX.e_block | refine HX.e_other rfl ?_ | apply HX.e_then | apply HX.e_again | apply HX.n_block | apply HX.r_then | apply HX.r_block | apply HX.r_again | refine HC.cond_yes rfl ?_ | refine HC.cond_no rfl ?_ | refine HL.one (H1.ldb rfl memA rfl rfl ?_) | refine HC.cond rfl (fun hc => ?_) (fun hc => ?_) | refine HC.cond_b rfl (fun hc => ?_) (fun hc => ?_))
            refine HL.one (H1.ld0 rfl (hcl 0 _ rfl) rfl ?_)
            repeat' (first | apply HL.fold | apply HA.fold | apply HL.nil | apply HX.n_then | apply HC.seq | apply HC.region | refine HL.pa ?_ | refine HL.ga rfl ?_ | refine HL.na rfl ?_ | refine HL.nu rfl rfl ?_ | apply HC.block | apply HC.skip | apply HC.exit | apply HC.ret | apply HX.e_block | refine HX.e_other rfl ?_ | apply HX.e_then | apply HX.e_again | apply HX.n_block | apply HX.r_then | apply HX.r_block | apply HX.r_again | refine HC.cond_yes rfl ?_ | refine HC.cond_no rfl ?_ | refine HL.one (H1.ldb rfl memA rfl rfl ?_) | refine HC.cond rfl (fun hc => ?_) (fun hc => ?_) | refine HC.cond_b rfl (fun hc => ?_) (fun hc => ?_))
            refine HL.one (H1.ld0 rfl (hcl 4 _ rfl) rfl ?_)
            repeat' (first | apply HL.fold | apply HA.fold | apply HL.nil | apply HX.n_then | apply HC.seq | apply HC.region | refine HL.pa ?_ | refine HL.ga rfl ?_ | refine HL.na rfl ?_ | refine HL.nu rfl rfl ?_ | apply HC.block | apply HC.skip | apply HC.exit | apply HC.ret | apply HX.e_block | refine HX.e_other rfl ?_ | apply HX.e_then | apply HX.e_again | apply HX.n_block | apply HX.r_then | apply HX.r_block | apply HX.r_again | refine HC.cond_yes rfl ?_ | refine HC.cond_no rfl ?_ | refine HL.one (H1.ldb rfl memA rfl rfl ?_) | refine HC.cond rfl (fun hc => ?_) (fun hc => ?_) | refine HC.cond_b rfl (fun hc => ?_) (fun hc => ?_))
            refine HX.again m (by omega) (by omega) esA (Hs.cons (Pick.eq ?_) (Hs.nil _))
            rw [hbk]
        · rw [if_neg fun h => h1 h.1] at hbk
          repeat' (first | apply HL.fold | apply HA.fold | apply HL.nil | apply HX.n_then | apply HC.seq | apply HC.region | refine HL.pa ?_ | refine HL.ga rfl ?_ | refine HL.na rfl ?_ | refine HL.nu rfl rfl ?_ | apply HC.block | apply HC.skip | apply HC.exit | apply HC.ret | apply HX.e_block | refine HX.e_other rfl ?_ | apply HX.e_then | apply HX.e_again | apply HX.n_block | apply HX.r_then | apply HX.r_block | apply HX.r_again | refine HC.cond_yes rfl ?_ | refine HC.cond_no rfl ?_ | refine HL.one (H1.ldb rfl memA rfl rfl ?_) | refine HC.cond rfl (fun hc => ?_) (fun hc => ?_) | refine HC.cond_b rfl (fun hc => ?_) (fun hc => ?_))
          refine HL.one (H1.ld0 rfl (hcl 0 _ rfl) rfl ?_)
          repeat' (first | apply HL.fold | apply HA.fold | apply HL.nil | apply HX.n_then | apply HC.seq | apply HC.region | refine HL.pa ?_ | refine HL.ga rfl ?_ | refine HL.na rfl ?_ | refine HL.nu rfl rfl ?_ | apply HC.block | apply HC.skip | apply HC.exit | apply HC.ret | apply HX.e_block | refine HX.e_other rfl ?_ | apply HX.e_then | apply HX.e_again | apply HX.n_block | apply HX.r_then | apply HX.r_block | apply HX.r_again | refine HC.cond_yes rfl ?_ | refine HC.cond_no rfl ?_ | refine HL.one (H1.ldb rfl memA rfl rfl ?_) | refine HC.cond rfl (fun hc => ?_) (fun hc => ?_) | refine HC.cond_b rfl (fun hc => ?_) (fun hc => ?_))
          refine HX.again m (by omega) (by omega) esA (Hs.cons (Pick.eq ?_) (Hs.nil _))
          rw [hbk]
    · repeat' (first | apply HL.fold | apply HA.fold | apply HL.nil | apply HX.n_then | apply HC.seq | apply HC.region | refine HL.pa ?_ | refine HL.ga rfl ?_ | refine HL.na rfl ?_ | refine HL.nu rfl rfl ?_ | apply HC.block | apply HC.skip | apply HC.exit | apply HC.ret | apply HX.e_block | refine HX.e_other rfl ?_ | apply HX.e_then | apply HX.e_again | apply HX.n_block | apply HX.r_then | apply HX.r_block | apply HX.r_again | refine HC.cond_yes rfl ?_ | refine HC.cond_no rfl ?_ | refine HL.one (H1.ldb rfl memA rfl rfl ?_) | refine HC.cond rfl (fun hc => ?_) (fun hc => ?_) | refine HC.cond_b rfl (fun hc => ?_) (fun hc => ?_))
      refine HL.one (H1.call0 (vs := [.slice a' lost.length c', .int .i64 (i : Int)]) rfl rfl (fun w hM => rin_fn _ lost i hl w (hM.rd0 hS)) ?_)
      rw [decide_eq_false hin]
      repeat' (first | apply HL.fold | apply HA.fold | apply HL.nil | apply HX.n_then | apply HC.seq | apply HC.region | refine HL.pa ?_ | refine HL.ga rfl ?_ | refine HL.na rfl ?_ | refine HL.nu rfl rfl ?_ | apply HC.block | apply HC.skip | apply HC.exit | apply HC.ret | apply HX.e_block | refine HX.e_other rfl ?_ | apply HX.e_then | apply HX.e_again | apply HX.n_block | apply HX.r_then | apply HX.r_block | apply HX.r_again | refine HC.cond_yes rfl ?_ | refine HC.cond_no rfl ?_ | refine HL.one (H1.ldb rfl memA rfl rfl ?_) | refine HC.cond rfl (fun hc => ?_) (fun hc => ?_) | refine HC.cond_b rfl (fun hc => ?_) (fun hc => ?_))
      refine HX.again (i + 1) (by omega) (by omega) esA (Hs.cons (Pick.eq ?_) (Hs.nil _))
      congr 1
      apply row_congr
      intro q _
      by_cases e : q = i
      · subst e
        rw [if_neg (Nat.lt_irrefl _), if_pos (by omega)]
        unfold afterI
        rw [if_neg hin]
      · by_cases h : q < i
        · rw [if_pos h, if_pos (by omega)]
        · rw [if_neg h, if_neg (by omega)]
  · obtain rfl : i = n := by omega
    repeat' (first | apply HL.fold | apply HA.fold | apply HL.nil | apply HX.n_then | apply HC.seq | apply HC.region | refine HL.pa ?_ | refine HL.ga rfl ?_ | refine HL.na rfl ?_ | refine HL.nu rfl rfl ?_ | apply HC.block | apply HC.skip | apply HC.exit | apply HC.ret | apply HX.e_block | refine HX.e_other rfl ?_ | apply HX.e_then | apply HX.e_again | apply HX.n_block | apply HX.r_then | apply HX.r_block | apply HX.r_again | refine HC.cond_yes rfl ?_ | refine HC.cond_no rfl ?_ | refine HL.one (H1.ldb rfl memA rfl rfl ?_) | refine HC.cond rfl (fun hc => ?_) (fun hc => ?_) | refine HC.cond_b rfl (fun hc => ?_) (fun hc => ?_))
    refine HX.ret1 rfl rfl fun w' hM => ⟨(a2, c2), trivial, rfl, ?_⟩
    have e : ints (afterS holders lost l day) = row i fun q => zv (if q < i then afterI holders lost l day q else at' holders q) := by
      unfold afterS
      rw [hn, ints_row]
      apply row_congr
      intro q hq
      rw [if_pos hq]
    rw [e]; exact hM
end Go.Sx


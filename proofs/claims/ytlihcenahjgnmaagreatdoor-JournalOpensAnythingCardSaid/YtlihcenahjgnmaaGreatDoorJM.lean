/- Plain, chapter 26: a byte that is changed. -/
import Derived.Test.YtlihcenahjgnmaaGreatDoorJB
import Derived.Test.YtlihcenahjgnmaaGreatDoorDH
namespace Go.Sx
open Go
theorem hwJM {G G2 : Prop} (x : G2) (hwq : Hold G2 → G := by
    intro hQq
    repeat' (first | apply HL.fold | apply HA.fold | apply HL.nil | apply HX.n_then | apply HC.seq | apply HC.region | refine HL.pa ?_ | refine HL.ga rfl ?_ | refine HL.na rfl ?_ | refine HL.nu rfl rfl ?_ | apply HC.block | apply HC.skip | apply HC.exit | apply HC.ret | apply HX.e_block | refine HX.e_other rfl ?_ | apply HX.e_then | apply HX.e_again | apply HX.n_block | apply HX.r_then | apply HX.r_block | apply HX.r_again | refine HC.cond_yes rfl ?_ | refine HC.cond_no rfl ?_ | refine HL.one (H1.ldb rfl memA rfl rfl ?_) | refine HC.cond rfl (fun hc => ?_) (fun hc => ?_) | refine HC.cond_b rfl (fun hc => ?_) (fun hc => ?_))
    exact hQq.get) : G := hwq ⟨x⟩
/-- Whether a byte is one of a length. -/
def sizedL : List ByteArray → Nat → Bool
  | [], _ => false
  | r :: l, at' => if 1 ≤ at' ∧ at' ≤ (putN r.size).length then true else if 1 + (putN r.size).length + r.size + 32 ≤ at' then sizedL l (at' - (1 + (putN r.size).length + r.size + 32)) else false
/-- What heads are computed of. -/
def headsL (h : ByteArray) : List ByteArray → List ByteArray
  | [] => []
  | r :: l => (mkB 2 ++ h ++ r) :: headsL (chainS h r) l
def Coll (h : ByteArray) (l l' : List ByteArray) : Prop := ∃ (i : Nat) (a b : ByteArray), (headsL h l)[i]? = some a ∧ (headsL h l')[i]? = some b ∧ a ≠ b ∧ sumS a = sumS b
theorem catS2 (a b : ByteArray) : catS [a, b] = a ++ b := ba_ext (by
  rw [ByteArray.data_append, Array.toList_append]
  show a.data.toList ++ (b.data.toList ++ []) = _
  rw [List.append_nil])
theorem chainS_sum (h r : ByteArray) : chainS h r = sumS (mkB 2 ++ h ++ r) := by
  show sumS (mkB 2 ++ catS [h, r]) = _
  rw [catS2, ByteArray.append_assoc]
theorem loadF_ext : ∀ (n : Nat) {s : List UInt8} {t t' : Tp}, s.length - t.size ≤ n → loadF s t = some t' → ∃ l', t' = adds t l'
  | n, s, t, t', hn, h => by
    by_cases h1 : t.size < s.length ∧ s.getD t.size 0 ≠ 0
    · by_cases h2 : s.getD t.size 0 = 1
      · cases hd : decS s (t.size + 1) with
        | none => rw [loadF_none h1 hd] at h; cases h
        | some x =>
          obtain ⟨r, q⟩ := x
          by_cases h3 : q + 32 ≤ s.length ∧ outL t.head (mkBA r) = (s.drop t.size).take (q + 32 - t.size)
          · rw [loadF_step h1 h2 hd h3] at h
            have hol := outL_pos t.head (mkBA r)
            match n, hn with
            | 0, hn => omega
            | n + 1, hn =>
              obtain ⟨l', rfl⟩ := loadF_ext n (by show s.length - (t.size + (outL t.head (mkBA r)).length) ≤ n; omega) h
              exact ⟨mkBA r :: l', rfl⟩
          · rw [loadF_no h1 hd h3] at h; cases h
      · rw [loadF_bad h1 h2] at h; cases h
    · rw [loadF_end h1] at h
      injection h with h
      exact ⟨[], h.symm⟩
theorem Coll.cons {h r : ByteArray} {l l' : List ByteArray} (k : Coll (chainS h r) l l') : Coll h (r :: l) (r :: l') := by
  obtain ⟨i, a, b, h1, h2, h3, h4⟩ := k
  exact ⟨i + 1, a, b, h1, h2, h3, h4⟩
theorem ba_toList_inj {a b : ByteArray} (h : a.data.toList = b.data.toList) : a = b := ba_ext h
theorem mkBA_toList (l : List UInt8) : (mkBA l).data.toList = l := rfl
theorem toList_mkBA (b : ByteArray) : mkBA b.data.toList = b := by cases b; rfl
theorem set_ne_of_getD {l : List UInt8} {i : Nat} {c : UInt8} (hi : i < l.length) (h : l.getD i 0 ≠ c) : l.set i c ≠ l := by
  intro e
  have h1 : (l.set i c)[i]? = some c := by rw [List.getElem?_set_self hi]
  rw [e] at h1
  rw [List.getD_eq_getElem?_getD, h1] at h
  exact h rfl
theorem getD_app_l {a b : List UInt8} {i : Nat} (h : i < a.length) : (a ++ b).getD i 0 = a.getD i 0 := by
  rw [List.getD_eq_getElem?_getD, List.getD_eq_getElem?_getD, List.getElem?_append_left h]
theorem getD_app_r {a b : List UInt8} {i : Nat} (h : a.length ≤ i) : (a ++ b).getD i 0 = b.getD (i - a.length) 0 := by
  rw [List.getD_eq_getElem?_getD, List.getD_eq_getElem?_getD, List.getElem?_append_right h]
theorem outL_eq (h r : ByteArray) : outL h r = 1 :: (putN r.size ++ (r.data.toList ++ (chainS h r).data.toList)) := by unfold outL; rw [List.append_assoc]
theorem take_one (X T : List UInt8) : ((1 : UInt8) :: (X ++ T)).take (1 :: X).length = 1 :: X := by rw [List.length_cons, List.take_succ_cons, List.take_left]
theorem dmg : ∀ (l : List ByteArray) (t : Tp) {s Z : List UInt8} {rel : Nat} {c : UInt8}, (∀ r ∈ l, r.size ≤ 65536) → s.drop t.size = (outsL t.head l ++ Z).set rel c → rel < (outsL t.head l).length → (outsL t.head l).getD rel 0 ≠ c → sizedL l rel = false →
    loadF s t = none ∨ ∃ l', loadF s t = some (adds t l') ∧ ((c = 0 ∧ l'.length < l.length ∧ l' = l.take l'.length) ∨ Coll t.head l l')
  | [], t, s, Z, rel, c, _, _, hlt, _, _ => by cases hlt
  | r :: l, t, s, Z, rel, c, hl, hs, hlt, hne, hsz => by
    have hr := hl r (List.mem_cons_self ..)
    have hrl : r.data.toList.length = r.size := by rw [Array.length_toList]; rfl
    have hcl : (chainS t.head r).data.toList.length = 32 := by rw [Array.length_toList]; exact chainS_size t.head r
    have hol : (outL t.head r).length = 1 + (putN r.size).length + r.size + 32 := by rw [outL_eq]; simp only [List.length_cons, List.length_append]; omega
    have hO : outsL t.head (r :: l) = outL t.head r ++ outsL (chainS t.head r) l := rfl
    rw [hO] at hs hlt hne
    have hnsz : ¬ (1 ≤ rel ∧ rel ≤ (putN r.size).length) := fun h => by
      unfold sizedL at hsz
      rw [if_pos h] at hsz; cases hsz
    by_cases hin : rel < (outL t.head r).length
    · -- the record itself
      rw [List.append_assoc, List.set_append_left _ _ hin] at hs
      rw [getD_app_l hin] at hne
      generalize hT : outsL (chainS t.head r) l ++ Z = T at hs
      by_cases h0 : rel = 0
      · subst h0
        rw [outL_eq] at hs hne
        have hc1 : (1 : UInt8) ≠ c := hne
        rw [List.set_cons_zero, List.cons_append] at hs
        obtain ⟨g1, g2, g3⟩ := getD_drop hs
        by_cases hc0 : c = 0
        · subst hc0
          exact .inr ⟨[], loadF_end (fun h => h.2 g2), .inl ⟨rfl, Nat.zero_lt_succ _, rfl⟩⟩
        · exact .inl (loadF_bad ⟨g1, by rw [g2]; exact hc0⟩ (by rw [g2]; exact fun h => hc1 h.symm))
      · have h1 : (putN r.size).length < rel := by omega
        obtain ⟨m, hm⟩ : ∃ m, rel = 1 + (putN r.size).length + m := ⟨rel - 1 - (putN r.size).length, by omega⟩
        have hset : (outL t.head r).set rel c = 1 :: (putN r.size ++ (r.data.toList ++ (chainS t.head r).data.toList).set m c) := by
          rw [outL_eq, hm, show 1 + (putN r.size).length + m = ((putN r.size).length + m) + 1 from by omega, List.set_cons_succ, List.set_append_right _ _ (by omega), Nat.add_sub_cancel_left]
        have hne2 : (r.data.toList ++ (chainS t.head r).data.toList).getD m 0 ≠ c := by
          rw [outL_eq, hm, show 1 + (putN r.size).length + m = ((putN r.size).length + m) + 1 from by omega, List.getD_cons_succ, getD_app_r (by omega), Nat.add_sub_cancel_left] at hne
          exact hne
        rw [hset, List.cons_append] at hs
        obtain ⟨g1, g2, g3⟩ := getD_drop hs
        by_cases hmr : m < r.size
        · -- a byte of the record
          obtain ⟨r', hr'⟩ : ∃ r', r' = r.data.toList.set m c := ⟨_, rfl⟩
          have hrl' : r'.length = r.size := by rw [hr', List.length_set, hrl]
          rw [List.set_append_left _ _ (by omega), ← hr'] at hs g3
          rw [getD_app_l (by omega)] at hne2
          have hrne : r' ≠ r.data.toList := by rw [hr']; exact set_ne_of_getD (by omega) hne2
          have hd := decS_putN (r := r') (rest := (chainS t.head r).data.toList ++ T) (by omega) (show s.drop (t.size + 1) = putN r'.length ++ r' ++ _ by rw [g3, hrl']; simp)
          have hlen := congrArg List.length hs
          simp only [List.length_drop, List.length_cons, List.length_append, hrl', hcl] at hlen
          by_cases hch : chainS t.head (mkBA r') = chainS t.head r
          · -- two strings with the same digest
            have hmr' : (mkBA r').size = r.size := by show r'.toArray.size = _; rw [List.size_toArray, hrl']
            have hout : outL t.head (mkBA r') = 1 :: (putN r.size ++ (r' ++ (chainS t.head r).data.toList)) := by rw [outL_eq, hmr', hch]; rfl
            have hcoll : ∀ l', Coll t.head (r :: l) (mkBA r' :: l') := fun l' => ⟨0, mkB 2 ++ t.head ++ r, mkB 2 ++ t.head ++ mkBA r', rfl, rfl, fun e => by
              have e2 := congrArg (fun x : ByteArray => x.data.toList) e
              simp only [ByteArray.data_append, Array.toList_append] at e2
              exact hrne (List.append_cancel_left e2).symm, by rw [← chainS_sum, ← chainS_sum, hch]⟩
            have hst := loadF_add (s := s) (rest := T) (t := t) (r := mkBA r') (by omega) (by rw [hs, hout]; simp)
            cases hF : loadF s (t.add (mkBA r')) with
            | none => exact .inl (by rw [hst, hF])
            | some t' =>
              obtain ⟨l', rfl⟩ := loadF_ext _ (Nat.le_refl _) hF
              exact .inr ⟨mkBA r' :: l', by rw [hst, hF]; rfl, .inr (hcoll l')⟩
          · refine .inl (loadF_no ⟨g1, by rw [g2]; decide⟩ hd fun h => hch ?_)
            have hmr' : (mkBA r').size = r.size := by show r'.toArray.size = _; rw [List.size_toArray, hrl']
            have e := h.2
            rw [outL_eq, hmr', hs, mkBA_toList, hrl', show t.size + 1 + (putN r.size).length + r.size + 32 - t.size = (1 :: (putN r.size ++ (r' ++ (chainS t.head r).data.toList))).length from by simp only [List.length_cons, List.length_append]; omega,
              take_one] at e
            injection e with _ e
            have e := List.append_cancel_left (List.append_cancel_left e)
            exact ba_ext e
        · -- a byte of the head
          obtain ⟨q, hq⟩ : ∃ q, m = r.size + q := ⟨m - r.size, by omega⟩
          rw [List.set_append_right _ _ (by omega), hrl, hq, Nat.add_sub_cancel_left] at hs g3
          rw [getD_app_r (by omega), hrl, hq, Nat.add_sub_cancel_left] at hne2
          have hqn := set_ne_of_getD (show q < _ by omega) hne2
          have hd := decS_putN (r := r.data.toList) (rest := (chainS t.head r).data.toList.set q c ++ T) (by omega) (show s.drop (t.size + 1) = putN r.data.toList.length ++ r.data.toList ++ _ by rw [g3, hrl]; simp)
          refine .inl (loadF_no ⟨g1, by rw [g2]; decide⟩ hd fun h => hqn ?_)
          have e := h.2
          rw [toList_mkBA, outL_eq, hs, hrl, show t.size + 1 + (putN r.size).length + r.size + 32 - t.size = (1 :: (putN r.size ++ (r.data.toList ++ (chainS t.head r).data.toList.set q c))).length from by simp only [List.length_cons, List.length_append, List.length_set]; omega,
            take_one] at e
          injection e with _ e
          exact (List.append_cancel_left (List.append_cancel_left e)).symm
    · -- behind the record
      obtain ⟨q, hq⟩ : ∃ q, rel = (outL t.head r).length + q := ⟨rel - (outL t.head r).length, by omega⟩
      have hlt' : q < (outsL (chainS t.head r) l).length := by rw [List.length_append] at hlt; omega
      have hs' : s.drop t.size = outL t.head r ++ (outsL (chainS t.head r) l ++ Z).set q c := by
        rw [hs, List.append_assoc, List.set_append_right _ _ (by omega), hq, Nat.add_sub_cancel_left]
      have hne' : (outsL (chainS t.head r) l).getD q 0 ≠ c := by
        rw [getD_app_r (by omega), hq, Nat.add_sub_cancel_left] at hne
        exact hne
      have hsz' : sizedL l q = false := by
        have e : sizedL (r :: l) rel = sizedL l q := by
          show (if _ then _ else _) = _
          rw [if_neg hnsz, if_pos (by omega)]
          congr 1; omega
        rw [← e]; exact hsz
      have hst := loadF_add (s := s) hr hs'
      have hdr : s.drop (t.add r).size = (outsL (t.add r).head l ++ Z).set q c := drop_app hs'
      rcases dmg l (t.add r) (fun x h => hl x (List.mem_cons_of_mem _ h)) hdr hlt' hne' hsz' with h | ⟨l', h1, h2⟩
      · exact .inl (by rw [hst, h])
      · refine .inr ⟨r :: l', by rw [hst, h1]; rfl, ?_⟩
        rcases h2 with ⟨h3, h4, h5⟩ | h3
        · refine .inl ⟨h3, by rw [List.length_cons, List.length_cons]; omega, ?_⟩
          rw [List.length_cons, List.take_succ_cons, ← h5]
        · exact .inr h3.cons
end Go.Sx
/- Chapter 26: heads, sized; the reference's Chain and Head: the walks. -/
namespace Go.Sx
open Go Go.Proofs Go.RowKit
def sizedZ : List ByteArray → Int → Bool
  | [], _ => false
  | r :: l, at' => if 1 ≤ at' ∧ at' ≤ ((strN r.size).size : Int) then true else sizedZ l (at' - (1 + ((strN r.size).size : Int) + (r.size : Int) + 32))
theorem sizedZ_neg : ∀ (l : List ByteArray) (at' : Int), at' < 1 → sizedZ l at' = false
  | [], _, _ => rfl
  | r :: l, at', h => by
    show (if _ then _ else _) = _
    rw [if_neg (by omega)]
    exact sizedZ_neg l _ (by omega)
theorem sizedZ_eq : ∀ (l : List ByteArray) (n : Nat), sizedZ l (n : Int) = sizedL l n
  | [], _ => rfl
  | r :: l, n => by
    have hz := strN_len r.size
    show (if _ then _ else _) = (if _ then _ else _)
    by_cases h1 : 1 ≤ n ∧ n ≤ (putN r.size).length
    · rw [if_pos h1, if_pos (by omega)]
    · rw [if_neg h1, if_neg (by omega)]
      by_cases h2 : 1 + (putN r.size).length + r.size + 32 ≤ n
      · rw [if_pos h2, ← sizedZ_eq l]
        congr 1; omega
      · rw [if_neg h2]
        exact sizedZ_neg l _ (by omega)
theorem headsL_len : ∀ (l : List ByteArray) (h : ByteArray), (headsL h l).length = l.length
  | [], _ => rfl
  | r :: l, h => by show (headsL (chainS h r) l).length + 1 = _; rw [headsL_len l]; rfl
theorem headsL_app : ∀ (l m : List ByteArray) (t : Tp), headsL t.head (l ++ m) = headsL t.head l ++ headsL (adds t l).head m
  | [], _, _ => rfl
  | r :: l, m, t => by
    show _ :: headsL (t.add r).head (l ++ m) = _ :: headsL (t.add r).head l ++ _
    rw [headsL_app l m (t.add r)]; rfl
theorem headsL_snoc (l : List ByteArray) (r : ByteArray) : headsL zero32 (l ++ [r]) = headsL zero32 l ++ [mkB 2 ++ (adds t00 l).head ++ r] := headsL_app l [r] t00
theorem head_snoc (l : List ByteArray) (r : ByteArray) : (adds t00 (l ++ [r])).head = chainS (adds t00 l).head r := by rw [adds_app]; rfl
theorem head_size (l : List ByteArray) : (adds t00 l).head.size ≤ 32 := adds_head l t00 (Nat.le_refl _)
theorem fr_mem2 {l : List ByteArray} {i : Nat} (h : i < l.length) : fr l i ∈ l := by unfold fr; simp [h]
theorem mkB2_size (h : ByteArray) : (mkB 2 ++ h).size = 1 + h.size := mkB_size 2 h
attribute [local irreducible] WC WL WX POp Then Again Fn NX W1 WA WO QL RP RA Yld LoopAt HC HL HX HN H1 HA HO HQ HB HP A.blk A.grow A.rd A.obj A.mp AgainH CutH
attribute [local irreducible] sumS chainS
theorem refChain_fn (h r : ByteArray) (hs : h.size + r.size ≤ 800000) (w : World) : Fn Tryz.prog 57 #[.string h, .string r] w fun v w' => v = .string (chainS h r) ∧ Ext w w' := by
  have h1 := mkB2_size h
  have h2 := ba_append_size (mkB 2 ++ h) r
  have hm : (mkB 2).size = 1 := rfl
  refine enterH (l := [_, _]) rfl Tryz.ntmps57 rfl ?_
  refine hwJM ?_
  refine HL.pa ?_ (POp.cat (s := mkB 2) (u := h) rfl rfl (by omega))
  refine hwJM ?_
  refine HL.one (H1.callx (vs := [.string (mkB 2 ++ h ++ r)]) rfl rfl (fun w' _ => refSum_fn (mkB 2 ++ h ++ r) (by omega) w') ?_)
  rw [← chainS_sum]
  refine hwJM ?_
  exact HX.ret1 rfl rfl fun w' hM => ⟨rfl, hM.ext⟩
theorem refHead_fn (v : Value) (l : List ByteArray) (hs : ∀ s ∈ l, s.size ≤ 700000) (hl : l.length ≤ 1000000) (w : World) (hR : Rd w v (strs l)) :
    Fn Tryz.prog 43 #[v] w fun v w' => v = .string (adds t00 l).head ∧ Ext w w' := by
  obtain ⟨a0, c0, rfl, hc0⟩ := rd_strs_shape hR
  refine enterH (l := [_]) rfl Tryz.ntmps43 rfl ?_
  refine hwJM ?_
  refine HL.one (H1.make (l := 32) (c := 32) rfl rfl rfl rfl rfl (Nat.le_refl _) (by decide) (by decide) rfl (fun bm => ?_))
  rw [ub_zero]
  refine hwJM ?_
  refine HL.one (H1.bstrB (ys := List.replicate 32 0) rfl memA rfl ?_)
  refine hwJM ?_
  refine HC.loop (α := Nat) (fun i => [(0, .slice a0 l.length c0), (3, .string (adds t00 (l.take i)).head), (4, zv (i : Int))]) (fun _ => []) (fun i => i ≤ l.length) (fun i => l.length - i) 0 (Nat.zero_le _) ⟨rfl, rfl, rfl, trivial⟩ (Hs.refl _).skip ?_
  rintro i hi
  by_cases hlt : i < l.length
  · obtain ⟨b, off, rfl⟩ := rd_some hR (by rintro rfl; simp at hlt)
    have hget := hR.cell (strs_get hlt)
    have htk := take_fr hlt
    have hsz := hs _ (fr_mem2 hlt)
    have hhd := head_size (l.take i)
    have hsn := head_snoc (l.take i) (fr l i)
    rw [← htk] at hsn
    generalize fr l i = s at hget hsz hsn
    refine hwJM ?_
    refine HL.one (H1.ld0 rfl hget rfl ?_)
    refine hwJM ?_
    refine HL.one (H1.callx (vs := [_, _]) rfl rfl (fun w' _ => refChain_fn (adds t00 (l.take i)).head s (by omega) w') ?_)
    rw [← hsn]
    refine hwJM ?_
    exact HX.again (i + 1) hlt (by show l.length - (i + 1) < l.length - i; omega) esA (Hs.refl _)
  · obtain rfl : i = l.length := by omega
    rw [List.take_length]
    refine hwJM ?_
    exact HX.ret1 rfl rfl fun w' hM => ⟨rfl, hM.ext⟩
theorem heads26_fn (v : Value) (l : List ByteArray) (hs : ∀ s ∈ l, s.size ≤ 700000) (hl : l.length ≤ 100000) (w : World) (hR : Rd w v (strs l)) :
    Fn Tryz.prog 27 #[v] w fun v w' => ∃ z : Option Addr × Nat, True ∧ v = .slice z.1 l.length z.2 ∧ Mm w [A.grow 9 1 z.1 z.2 l.length (strs (headsL zero32 l))] w' := by
  obtain ⟨a0, c0, rfl, hc0⟩ := rd_strs_shape hR
  refine enterH (l := [_]) rfl Tryz.ntmps27 rfl ?_
  refine hwJM ?_
  refine HL.one (H1.callx (u := .string zero32) (vs := [.slice none 0 0]) rfl rfl (fun w' _ => refHead_fn (.slice none 0 0) [] (fun _ h => by cases h) (Nat.zero_le _) w' ⟨none, 0, rfl, Nat.le_refl _, .inl rfl⟩) ?_)
  refine hwJM ?_
  refine HC.grow0 9 1 ?_
  refine HC.loop (α := Nat × Option Addr × Nat) (fun z => [(0, .slice a0 l.length c0), (3, .slice z.2.1 z.1 z.2.2), (4, .string (adds t00 (l.take z.1)).head), (5, zv (z.1 : Int))]) (fun z => [A.grow 9 1 z.2.1 z.2.2 z.1 (strs (headsL zero32 (l.take z.1)))]) (fun z => z.1 ≤ l.length) (fun z => l.length - z.1) (0, none, 0) (Nat.zero_le _) ⟨rfl, rfl, rfl, rfl, trivial⟩ (Hs.refl _) ?_
  rintro ⟨i, a, c⟩ hi
  dsimp only at hi ⊢
  by_cases hlt : i < l.length
  · obtain ⟨b, off, rfl⟩ := rd_some hR (by rintro rfl; simp at hlt)
    have hget := hR.cell (strs_get hlt)
    have htk := take_fr hlt
    have hsz := hs _ (fr_mem2 hlt)
    have hhd := head_size (l.take i)
    have hsn := head_snoc (l.take i) (fr l i)
    have hhs := headsL_snoc (l.take i) (fr l i)
    rw [← htk] at hsn hhs
    generalize fr l i = s at hget hsz hsn hhs
    have h1 := mkB2_size (adds t00 (l.take i)).head
    have hm : (mkB 2).size = 1 := rfl
    refine hwJM ?_
    refine HL.pa ?_ (POp.cat (s := mkB 2) (u := (adds t00 (l.take i)).head) rfl rfl (by omega))
    refine hwJM ?_
    refine HL.one (H1.ld0 rfl hget rfl ?_)
    refine hwJM ?_
    refine HL.one (H1.lit (cs := [.string (mkB 2 ++ (adds t00 (l.take i)).head ++ s)]) rfl rfl rfl rfl rfl rfl (fun b9 => ?_))
    refine hwJM ?_
    refine HL.one (H1.app1 (u := .string (mkB 2 ++ (adds t00 (l.take i)).head ++ s)) rfl rfl (fun _ _ => by first | ((repeat (first | with_reducible exact Rpl.here | with_reducible apply Rpl.there)); done) | (repeat (first | exact Rpl.here | apply Rpl.there))) memA rfl rfl (by omega) rfl rfl (fun a' c' => ?_))
    rw [strs_snoc, ← hhs]
    refine hwJM ?_
    refine HL.one (H1.ld0 rfl hget rfl ?_)
    refine hwJM ?_
    refine HL.one (H1.callx (vs := [_, _]) rfl rfl (fun w' _ => refChain_fn (adds t00 (l.take i)).head s (by omega) w') ?_)
    rw [← hsn]
    refine hwJM ?_
    exact HX.again (i + 1, some ⟨a', 0, none⟩, c') hlt (by show l.length - (i + 1) < l.length - i; omega) esA (Hs.cons (Pick.there Pick.here) (Hs.nil _))
  · obtain rfl : i = l.length := by omega
    rw [List.take_length]
    refine hwJM ?_
    exact HX.ret1 rfl rfl fun w' hM => ⟨(a, c), trivial, rfl, hM⟩
theorem sized26_fn (v : Value) (l : List ByteArray) (at' : Int) (h1 : -1000000000 ≤ at') (h2 : at' ≤ 1000000000) (hs : ∀ s ∈ l, s.size ≤ 1000) (hl : l.length ≤ 1000) (w : World) (hR : Rd w v (strs l)) :
    Fn Tryz.prog 26 #[v, zv at'] w fun v w' => v = .bool (sizedZ l at') ∧ Ext w w' := by
  obtain ⟨a0, c0, rfl, hc0⟩ := rd_strs_shape hR
  refine enterH (l := [_, _]) rfl Tryz.ntmps26 rfl ?_
  refine hwJM ?_
  refine HC.loop (α := Nat × Int) (fun z => [(0, .slice a0 l.length c0), (1, zv z.2), (5, zv (z.1 : Int))]) (fun _ => []) (fun z => z.1 ≤ l.length ∧ sizedZ (l.drop z.1) z.2 = sizedZ l at' ∧ -1000000000 - 2000 * (z.1 : Int) ≤ z.2 ∧ z.2 ≤ 1000000000) (fun z => l.length - z.1) (0, at') ⟨Nat.zero_le _, rfl, by show _ - 2000 * ((0 : Nat) : Int) ≤ at'; omega, h2⟩ esA (Hs.refl _) ?_
  rintro ⟨i, x⟩ ⟨hi, heq, hx1, hx2⟩
  dsimp only at hi heq hx1 hx2 ⊢
  by_cases hlt : i < l.length
  · obtain ⟨b, off, rfl⟩ := rd_some hR (by rintro rfl; simp at hlt)
    have hget := hR.cell (strs_get hlt)
    have hsz := hs _ (fr_mem2 hlt)
    have hdr : l.drop i = fr l i :: l.drop (i + 1) := by
      rw [List.drop_eq_getElem_cons hlt]
      congr 1
      unfold fr; simp [hlt]
    rw [hdr] at heq
    generalize fr l i = s at hget hsz heq
    have hz := strN_size (n := s.size) (by omega)
    have hunf : sizedZ (s :: l.drop (i + 1)) x = if 1 ≤ x ∧ x ≤ ((strN s.size).size : Int) then true else sizedZ (l.drop (i + 1)) (x - (1 + ((strN s.size).size : Int) + (s.size : Int) + 32)) := rfl
    rw [hunf] at heq
    refine hwJM ?_
    refine HL.one (H1.ld0 rfl hget rfl ?_)
    refine hwJM ?_
    refine HL.one (H1.callx (vs := [zv (s.size : Int)]) rfl rfl (fun w' _ => refPutInt_fn s.size (by omega) w') ?_)
    by_cases hc1 : 1 ≤ x
    · by_cases hc2 : x ≤ ((strN s.size).size : Int)
      · rw [if_pos ⟨hc1, hc2⟩] at heq
        refine hwJM ?_
        exact HX.ret1 rfl rfl fun w' hM => ⟨by rw [heq], hM.ext⟩
      · rw [if_neg (fun h => hc2 h.2)] at heq
        refine hwJM ?_
        refine HL.one (H1.ld0 rfl hget rfl ?_)
        refine hwJM ?_
        exact HX.again (i + 1, x - (1 + ((strN s.size).size : Int) + (s.size : Int) + 32)) ⟨hlt, heq, by show -1000000000 - 2000 * ((i + 1 : Nat) : Int) ≤ x - (1 + ((strN s.size).size : Int) + (s.size : Int) + 32); omega, by show x - (1 + ((strN s.size).size : Int) + (s.size : Int) + 32) ≤ 1000000000; omega⟩ (by show l.length - (i + 1) < l.length - i; omega) esA (Hs.refl _)
    · rw [if_neg (fun h => hc1 h.1)] at heq
      refine hwJM ?_
      refine HL.one (H1.ld0 rfl hget rfl ?_)
      refine hwJM ?_
      exact HX.again (i + 1, x - (1 + ((strN s.size).size : Int) + (s.size : Int) + 32)) ⟨hlt, heq, by show -1000000000 - 2000 * ((i + 1 : Nat) : Int) ≤ x - (1 + ((strN s.size).size : Int) + (s.size : Int) + 32); omega, by show x - (1 + ((strN s.size).size : Int) + (s.size : Int) + 32) ≤ 1000000000; omega⟩ (by show l.length - (i + 1) < l.length - i; omega) esA (Hs.refl _)
  · obtain rfl : i = l.length := by omega
    rw [List.drop_length] at heq
    refine hwJM ?_
    exact HX.ret1 rfl rfl fun w' hM => ⟨by rw [← heq]; rfl, hM.ext⟩
end Go.Sx


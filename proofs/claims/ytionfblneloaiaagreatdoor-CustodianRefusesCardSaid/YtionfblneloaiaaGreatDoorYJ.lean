/- Plain, chapter 27: what Store and Drop append is replayed as what they did. -/
import Derived.Test.YtionfblneloaiaaGreatDoorYI
namespace Go.Sx
open Go
theorem putsB_L : ∀ (l : List Nat) (s : ByteArray), (putsB s l).data.toList = s.data.toList ++ l.flatMap putN
  | [], s => by simp [putsB]
  | n :: l, s => by
    show (putsB (s ++ strN n) l).data.toList = _
    rw [putsB_L l, ByteArray.data_append]
    simp [strN, List.flatMap_cons]
theorem recS_L (p : PK) (s : ByteArray) : (recS p s).data.toList = 115 :: (putN p.1.toNat ++ (putN p.2.toNat ++ (putN s.data.toList.length ++ s.data.toList ++ []))) := by
  unfold recS
  have hl : s.data.toList.length = s.size := by rw [Array.length_toList]; rfl
  rw [ByteArray.data_append, ByteArray.data_append, Array.toList_append, putsB_L, Array.toList_append, hl]
  simp [strN, mkB, List.flatMap_cons]
theorem recD_L (o : Int) : (recD o).data.toList = 100 :: (putN o.toNat ++ []) := by
  unfold recD
  rw [putsB_L]
  simp [mkB, List.flatMap_cons]
theorem mkBA_self (s : ByteArray) : mkBA s.data.toList = s := ba_ext rfl
theorem replay_recS (m : PM) {p : PK} {s : ByteArray} (hp : okP p) (hs : s.size ≤ 4096) : replayF m (recS p s) = some (setM m p s) := by
  obtain ⟨h1, h2, h3, h4⟩ := hp
  have hL := recS_L p s
  have hl : s.data.toList.length = s.size := by rw [Array.length_toList]; rfl
  have hrl : (recS p s).data.toList.length = (recS p s).size := by rw [Array.length_toList]; rfl
  have d1 : (recS p s).data.toList.drop 1 = putN p.1.toNat ++ (putN p.2.toNat ++ (putN s.data.toList.length ++ s.data.toList ++ [])) := by rw [hL]; rfl
  have e1 := decI_putN (n := p.1.toNat) (by omega) d1
  have d2 := drop_app d1
  have e2 := decI_putN (n := p.2.toNat) (by omega) d2
  have d3 := drop_app d2
  have e3 := decS_putN (by omega) d3
  have hlen : (recS p s).size = 1 + (putN p.1.toNat).length + (putN p.2.toNat).length + (putN s.data.toList.length).length + s.data.toList.length := by
    rw [← hrl, hL]
    simp only [List.length_cons, List.length_append, List.length_nil]
    omega
  have hsb : sb (recS p s) 0 = 115 := by unfold sb; rw [hL]; rfl
  have u1 : unz (2 * p.1.toNat) = p.1 := by rw [unz_even]; omega
  have u2 : unz (2 * p.2.toNat) = p.2 := by rw [unz_even]; omega
  unfold replayF
  rw [if_neg (by omega), e1]
  dsimp only
  rw [if_pos hsb, e2]
  dsimp only
  rw [e3]
  dsimp only
  rw [u1, u2, if_pos ⟨⟨h1, h2, h3, h4⟩, by omega⟩, if_pos (by omega), mkBA_self]
theorem replay_recD (m : PM) {o : Int} (hp : okP (o, 0)) (hd : (dropM m o).length < m.length) : replayF m (recD o) = some (dropM m o) := by
  have hL := recD_L o
  have hrl : (recD o).data.toList.length = (recD o).size := by rw [Array.length_toList]; rfl
  have d1 : (recD o).data.toList.drop 1 = putN o.toNat ++ [] := by rw [hL]; rfl
  have h0 := hp
  obtain ⟨h1, h2, -, -⟩ := h0
  dsimp only at h1 h2
  have e1 := decI_putN (n := o.toNat) (by omega) d1
  have hlen : (recD o).size = 1 + (putN o.toNat).length := by
    rw [← hrl, hL]
    simp only [List.length_cons, List.length_append, List.length_nil]
    omega
  have hsb : sb (recD o) 0 = 100 := by unfold sb; rw [hL]; rfl
  have u1 : unz (2 * o.toNat) = o := by rw [unz_even]; omega
  unfold replayF
  rw [if_neg (by omega), e1]
  dsimp only
  rw [if_neg (by rw [hsb]; decide), if_pos hsb, u1, if_pos ⟨hp, hd⟩, if_pos (by omega)]
/-- A custodian whose records are durable: what they are, what they do. -/
structure CClean (m : PM) (j : Jn) (N : Nat) (l : List ByteArray) : Prop where
  jn : Clean j N l
  rep : replaysF [] l = some m
  nd : (m.map Prod.fst).Nodup
  len : m.length ≤ l.length
  sz : ∀ p ∈ m, p.2.size ≤ 4096
  ok : ∀ p ∈ m, okP p.1
  rcs : ∀ r ∈ l, r.size ≤ 4200
theorem cclean0 {N : Nat} (h1 : 1 ≤ N) (h2 : N ≤ 4194304) : CClean [] ⟨t00, newK N, false⟩ N [] :=
  ⟨clean0 h1 h2, rfl, List.nodup_nil, Nat.le_refl _, (fun _ h => by cases h), (fun _ h => by cases h), fun _ h => by cases h⟩
theorem CClean.need {m : PM} {j : Jn} {N : Nat} {l : List ByteArray} (h : CClean m j N l) : j.t.size = needL l := h.jn.size
theorem one_long {r : ByteArray} (h : r.size ≤ 65536) : ([r] : List ByteArray).any isLong = false := not_long fun x hx => by
  rcases List.mem_cons.1 hx with rfl | hx
  · exact h
  · cases hx
/-- A fragment is stored. -/
theorem CClean.store {m : PM} {j : Jn} {N : Nat} {l : List ByteArray} (h : CClean m j N l) {p : PK} {s : ByteArray} (hp : okP p) (hs : s.size ≤ 4096) (hf : needL (l ++ [recS p s]) ≤ N) :
    ∃ j', storeF m j p s = (0, setM m p s, j') ∧ CClean (setM m p s) j' N (l ++ [recS p s]) := by
  have hrs := recS_size hp hs
  have hfit : j.t.size + (outsL j.t.head [recS p s]).length ≤ N := by
    rw [h.need, outsL_need, ← needL_app]; exact hf
  obtain ⟨j', hap, hc⟩ := h.jn.app (one_long (by omega)) hfit
  refine ⟨j', ?_, hc, ?_, setM_nodup _ _ h.nd, ?_, ?_, ?_, ?_⟩
  · unfold storeF
    rw [if_neg (by rintro (h | h); exact h hp; omega), hap]
    rfl
  · rw [replaysF_snoc, h.rep]; exact replay_recS m hp hs
  · have h1 := setM_len m p s
    have h2 := h.len
    rw [List.length_append]
    show _ ≤ l.length + 1
    omega
  · intro x hx
    rcases setM_mem hx with hx | rfl
    · exact h.sz x hx
    · exact hs
  · intro x hx
    rcases setM_mem hx with hx | rfl
    · exact h.ok x hx
    · exact hp
  · intro r hr
    rcases List.mem_append.1 hr with hr | hr
    · exact h.rcs r hr
    · rcases List.mem_cons.1 hr with rfl | hr
      · exact hrs
      · cases hr
theorem storeF_bad {m : PM} {j : Jn} {p : PK} {s : ByteArray} (h : ¬ okP p ∨ 4096 < s.size) : storeF m j p s = (270, m, j) := by unfold storeF; rw [if_pos h]
/-- An object is removed. -/
theorem CClean.drop {m : PM} {j : Jn} {N : Nat} {l : List ByteArray} (h : CClean m j N l) {o : Int} (hp : okP (o, 0)) (hd : (dropM m o).length < m.length) (hf : needL (l ++ [recD o]) ≤ N) :
    ∃ j', dropF m j o = ((m.length : Int) - ((dropM m o).length : Int), 0, dropM m o, j') ∧ CClean (dropM m o) j' N (l ++ [recD o]) := by
  have h0 := hp
  obtain ⟨k1, k2, -, -⟩ := h0
  have hrs := recD_size (o := o) k2
  have hfit : j.t.size + (outsL j.t.head [recD o]).length ≤ N := by
    rw [h.need, outsL_need, ← needL_app]; exact hf
  obtain ⟨j', hap, hc⟩ := h.jn.app (one_long (by omega)) hfit
  refine ⟨j', ?_, hc, ?_, dropM_nodup _ h.nd, ?_, fun x hx => h.sz x (List.mem_filter.1 hx).1, fun x hx => h.ok x (List.mem_filter.1 hx).1, ?_⟩
  · unfold dropF
    rw [if_neg (fun h => h hp), if_neg (by omega), hap]
    rfl
  · rw [replaysF_snoc, h.rep]; exact replay_recD m hp hd
  · have h2 := h.len
    rw [List.length_append]
    show _ ≤ l.length + 1
    omega
  · intro r hr
    rcases List.mem_append.1 hr with hr | hr
    · exact h.rcs r hr
    · rcases List.mem_cons.1 hr with rfl | hr
      · omega
      · cases hr
/-- Nothing is removed. -/
theorem dropF_none {m : PM} {j : Jn} {o : Int} (hp : okP (o, 0)) (hd : (dropM m o).length = m.length) : dropF m j o = (0, 0, m, j) := by
  unfold dropF
  rw [if_neg (fun h => h hp), if_pos hd]
theorem CClean.opens {m : PM} {j : Jn} {N : Nat} {l : List ByteArray} (h : CClean m j N l) : openF j.k = (0, j.k, some (adds t00 l)) := h.jn.opens fun r hr => Nat.le_trans (h.rcs r hr) (by decide)
end Go.Sx


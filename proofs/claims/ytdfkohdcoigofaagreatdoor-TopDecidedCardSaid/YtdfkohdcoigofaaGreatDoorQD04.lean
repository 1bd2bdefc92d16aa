/- TopDecided, plain: the path through clauses, the best set, what suffices. -/
import Derived.Test.YtdfkohdcoigofaaGreatDoorQD03
import Derived.DeepKeys
import Derived.Laws.CopyRow
import Derived.RecoverIn
import Derived.Lib.FrozenHead
import Derived.Laws.Externs
namespace Go.Sx
open Go Go.Proofs Go.RowKit
/-- The last clause of the path. -/
def lastF (K : Int → List Rc) : Nat → Int → Rc → Rc
  | 0, _, cur => cur
  | n + 1, p, cur => match K p with
    | [] => cur
    | r :: _ => lastF K n r.clause r
def cmpI (x y : Int) : Int := Lib.compareInt x y
/-- slices.Compare. -/
def cmpL : List Int → List Int → Int
  | [], [] => 0
  | [], _ :: _ => -1
  | _ :: _, [] => 1
  | x :: a, y :: b => if cmpI x y ≠ 0 then cmpI x y else cmpL a b
def orI (c d : Int) : Int := if c ≠ 0 then c else d
/-- The better one of two sets. -/
def firstL (a : List Int) : Option (List Int) → List Int
  | none => a
  | some b => if orI (cmpI a.length b.length) (cmpL a b) < 0 then a else b
theorem firstL_or (a : List Int) (o : Option (List Int)) : firstL a o = a ∨ o = some (firstL a o) := by
  cases o with
  | none => exact .inl rfl
  | some b =>
    by_cases h : orI (cmpI a.length b.length) (cmpL a b) < 0
    · left; exact if_pos h
    · right; exact congrArg some (if_neg h).symm
/-- The best set, behind some clauses. -/
def goL (rec : Rc → Option (List Int)) (adm want : Bool) : List Rc → List Int → Option (List Int) → Option (List Int)
  | [], sum, best => if adm = want then some (firstL (srtI sum) best) else best
  | x :: ks, sum, best => match rec x with
    | none => best
    | some t => goL rec adm want ks (sum ++ t) (some (firstL (srtI (sum ++ t ++ [x.clause])) best))
def leastF (K : Int → List Rc) (want : Bool) : Nat → Rc → Option (List Int)
  | 0, c => goL (fun _ => none) c.adm want [] [] none
  | n + 1, c => goL (leastF K want n) c.adm want (K c.clause) [] none
/-- Whether a set suffices, behind some clauses. -/
def goS (rec : Rc → Bool) (S : List Int) (fin : Bool) : List Rc → Bool
  | [] => fin
  | x :: ks => if rec x = false then false else if x.clause ∈ S then true else goS rec S fin ks
def sufF (K : Int → List Rc) (S : List Int) (want : Bool) : Nat → Rc → Bool
  | 0, c => c.adm == want
  | n + 1, c => goS (sufF K S want n) S (c.adm == want) (K c.clause)
theorem mem_srtI {l : List Int} {x : Int} : x ∈ srtI l ↔ x ∈ l := (srtI_perm l).mem_iff
theorem goL_suf {rec : Rc → Option (List Int)} {srec : Rc → Bool} {adm want : Bool} {S s : List Int} : ∀ {ks : List Rc} {sum : List Int} {best : Option (List Int)}, (∀ x ∈ ks, ∀ t, rec x = some t → (∀ y ∈ t, y ∈ S) → srec x = true) → goL rec adm want ks sum best = some s →
    best = some s ∨ ((∀ y ∈ sum, y ∈ s) ∧ ((∀ y ∈ s, y ∈ S) → goS srec S (adm == want) ks = true))
  | [], sum, best, _, h => by
    unfold goL at h
    split at h
    · rename_i e
      rcases firstL_or (srtI sum) best with h1 | h1
      · right
        cases h
        rw [h1]
        refine ⟨fun y hy => mem_srtI.2 hy, fun _ => ?_⟩
        unfold goS
        rw [e]; exact beq_self_eq_true want
      · left; rw [h1]; exact h
    · exact .inl h
  | x :: ks, sum, best, hr, h => by
    unfold goL at h
    cases ht : rec x with
    | none => rw [ht] at h; exact .inl h
    | some t =>
      rw [ht] at h
      dsimp only at h
      have hx := hr x (.head _) t ht
      have hgo : ∀ {b : Bool}, (∀ y ∈ t, y ∈ S) → (x.clause ∈ S ∨ goS srec S (adm == want) ks = true) → goS srec S (adm == want) (x :: ks) = true := fun {_} h1 h2 => by
        unfold goS
        rw [hx h1, if_neg (by decide)]
        split
        · rfl
        · rename_i hn
          exact h2.resolve_left hn
      rcases goL_suf (fun y hy => hr y (.tail _ hy)) h with h1 | ⟨h1, h2⟩
      · rcases firstL_or (srtI (sum ++ t ++ [x.clause])) best with h3 | h3
        · right
          cases h1
          rw [h3]
          have hm : ∀ y, y ∈ sum ++ t ++ [x.clause] → y ∈ srtI (sum ++ t ++ [x.clause]) := fun y hy => mem_srtI.2 hy
          refine ⟨fun y hy => hm y (List.mem_append_left _ (List.mem_append_left _ hy)), fun hS => hgo (b := true) (fun y hy => hS y (hm y (List.mem_append_left _ (List.mem_append_right _ hy)))) (.inl (hS _ (hm _ (List.mem_append_right _ (.head _)))))⟩
        · left; rw [h3]; exact h1
      · right
        exact ⟨fun y hy => h1 y (List.mem_append_left _ hy), fun hS => hgo (b := true) (fun y hy => hS y (h1 y (List.mem_append_right _ hy))) (.inr (h2 hS))⟩
/-- What was chosen suffices. -/
theorem suf_least {K : Int → List Rc} {want : Bool} {S : List Int} : ∀ {n : Nat} {c : Rc} {s : List Int}, leastF K want n c = some s → (∀ y ∈ s, y ∈ S) → sufF K S want n c = true
  | 0, c, s, h, hS => by
    rcases goL_suf (srec := fun _ => true) (S := S) (fun x hx => by cases hx) h with h1 | ⟨-, h2⟩
    · cases h1
    · exact h2 hS
  | n + 1, c, s, h, hS => by
    rcases goL_suf (srec := sufF K S want n) (S := S) (fun x _ t ht hT => suf_least ht hT) h with h1 | ⟨-, h2⟩
    · cases h1
    · exact h2 hS
theorem goL_some {rec : Rc → Option (List Int)} {adm want : Bool} : ∀ {ks : List Rc} {sum b : List Int}, goL rec adm want ks sum (some b) ≠ none
  | [], sum, b => by
    unfold goL
    split
    · intro h; cases h
    · intro h; cases h
  | x :: ks, sum, b => by
    unfold goL
    cases rec x with
    | none => intro h; cases h
    | some t => exact goL_some
/-- For what the path says there is a best set. -/
theorem least_some {K : Int → List Rc} : ∀ {n : Nat} {c : Rc}, leastF K (lastF K n c.clause c).adm n c ≠ none
  | 0, c => by
    unfold leastF lastF goL
    rw [if_pos rfl]; intro h; cases h
  | n + 1, c => by
    unfold leastF lastF
    cases hk : K c.clause with
    | nil =>
      unfold goL
      rw [if_pos rfl]; intro h; cases h
    | cons x ks =>
      dsimp only
      unfold goL
      cases ht : leastF K (lastF K n x.clause x).adm n x with
      | none => exact absurd ht least_some
      | some t => exact goL_some
/- each clause is chosen once -/
/-- So many steps up from a number is another one. -/
def Up (L : List Rc) : Nat → Int → Int → Prop
  | 0, n, m => n = m
  | k + 1, n, m => ∃ r ∈ L, r.clause = n ∧ Up L k r.party m
section
variable {L : List Rc} (hu : ∀ r ∈ L, ∀ s ∈ L, r.clause = s.clause → r = s) (hp : ∀ r ∈ L, 1 ≤ r.clause)
include hu in
theorem Up.det : ∀ {k : Nat} {n m m' : Int}, Up L k n m → Up L k n m' → m = m'
  | 0, _, _, _, h, h' => h.symm.trans h'
  | k + 1, _, _, _, ⟨r, hr, e, h⟩, ⟨s, hs, e', h'⟩ => by
    have := hu r hr s hs (e.trans e'.symm)
    subst this
    exact Up.det h h'
theorem Up.trans : ∀ {k j : Nat} {n m p : Int}, Up L k n m → Up L j m p → Up L (k + j) n p
  | 0, j, _, _, _, h, h' => by cases h; rw [Nat.zero_add]; exact h'
  | k + 1, j, _, _, _, ⟨r, hr, e, h⟩, h' => by
    rw [Nat.succ_add]
    exact ⟨r, hr, e, Up.trans h h'⟩
include hp in
theorem Up.root {k : Nat} {m : Int} (h : Up L k 0 m) : k = 0 := by
  cases k with
  | zero => rfl
  | succ k =>
    obtain ⟨r, hr, e, -⟩ := h
    have := hp r hr
    omega
include hu hp in
theorem Up.depth : ∀ {j k : Nat} {n : Int}, Up L j n 0 → Up L k n 0 → j = k
  | 0, k, _, h, h' => by cases h; exact (Up.root hp h').symm
  | j + 1, 0, _, h, h' => by cases h'; exact absurd (Up.root hp h) (by omega)
  | j + 1, k + 1, _, ⟨r, hr, e, h⟩, ⟨s, hs, e', h'⟩ => by
    have := hu r hr s hs (e.trans e'.symm)
    subst this
    rw [Up.depth h h']
theorem srtI_asc {l : List Int} (h : l.Nodup) : (srtI l).Pairwise (· < ·) := by
  have h1 := srtI_pw l
  have h2 : (srtI l).Nodup := (srtI_perm l).nodup_iff.2 h
  exact (h1.and h2).imp fun ⟨h, h'⟩ => by omega
/-- What a best set is like. -/
structure WhyOk (L : List Rc) (c : Int) (s : List Int) : Prop where
  asc : s.Pairwise (· < ·)
  up : ∀ y ∈ s, ∃ k, Up L (k + 1) y c
theorem WhyOk.first {c : Int} {a : List Int} {o : Option (List Int)} (ha : WhyOk L c a) (ho : ∀ b, o = some b → WhyOk L c b) : WhyOk L c (firstL a o) := by
  rcases firstL_or a o with h | h
  · rw [h]; exact ha
  · exact ho _ h
theorem Up.num {k : Nat} {y c : Int} (h : Up L (k + 1) y c) : y ∈ L.map Rc.clause := by
  obtain ⟨r, hr, e, -⟩ := h
  exact List.mem_map.2 ⟨r, hr, e⟩
theorem nd_len : ∀ {l m : List Int}, l.Nodup → (∀ x ∈ l, x ∈ m) → l.length ≤ m.length
  | [], _, _, _ => Nat.zero_le _
  | a :: l, m, h, hs => by
    rw [List.nodup_cons] at h
    have h1 := nd_len (m := m.erase a) h.2 fun x hx => (List.mem_erase_of_ne (fun (e : x = a) => h.1 (by rw [← e]; exact hx))).2 (hs x (List.mem_cons_of_mem _ hx))
    rw [List.length_erase_of_mem (hs a (List.mem_cons_self ..))] at h1
    have h2 := List.length_pos_of_mem (hs a (List.mem_cons_self ..))
    rw [List.length_cons]; omega
theorem WhyOk.nd {c : Int} {s : List Int} (h : WhyOk L c s) : s.Nodup := h.asc.imp fun h e => by subst e; omega
theorem WhyOk.len {c : Int} {s : List Int} (h : WhyOk L c s) : s.length ≤ L.length := by
  have := nd_len h.nd (m := L.map Rc.clause) fun y hy => by obtain ⟨k, hk⟩ := h.up y hy; exact hk.num
  rwa [List.length_map] at this
/-- What holds while clauses are gone through. -/
structure GoI (L : List Rc) (c : Int) (done : List Rc) (sum : List Int) (best : Option (List Int)) : Prop where
  dn : ∀ x ∈ done, x ∈ L ∧ x.party = c
  nd : sum.Nodup
  up : ∀ y ∈ sum, ∃ x ∈ done, ∃ k, Up L (k + 1) y x.clause
  best : ∀ b, best = some b → WhyOk L c b
theorem GoI.zero (c : Int) : GoI L c [] [] none := ⟨(fun _ h => by cases h), List.nodup_nil, (fun _ h => by cases h), (fun _ h => by cases h)⟩
theorem GoI.len {c : Int} {done : List Rc} {sum : List Int} {best : Option (List Int)} (h : GoI L c done sum best) : sum.length ≤ L.length := by
  have := nd_len h.nd (m := L.map Rc.clause) fun y hy => by obtain ⟨x, -, k, hk⟩ := h.up y hy; exact hk.num
  rwa [List.length_map] at this
theorem GoI.fin {c : Int} {done : List Rc} {sum : List Int} {best : Option (List Int)} (h : GoI L c done sum best) : WhyOk L c (firstL (srtI sum) best) :=
  WhyOk.first ⟨srtI_asc h.nd, fun y hy => by
    obtain ⟨x, hx, k, hk⟩ := h.up y (mem_srtI.1 hy)
    obtain ⟨h1, h2⟩ := h.dn x hx
    exact ⟨k + 1, Up.trans hk ⟨x, h1, rfl, h2⟩⟩⟩ h.best
include hu hp in
theorem GoI.step {c : Int} {i : Nat} {done : List Rc} {sum t : List Int} {best : Option (List Int)} {x : Rc} (hi : Up L i c 0) (h : GoI L c done sum best) (hxL : x ∈ L) (hxp : x.party = c) (hne : ∀ z ∈ done, z.clause ≠ x.clause) (hT : WhyOk L x.clause t) :
    GoI L c (done ++ [x]) (sum ++ t) (some (firstL (srtI (sum ++ t ++ [x.clause])) best)) := by
  have hx1 : Up L 1 x.clause c := ⟨x, hxL, rfl, hxp⟩
  have hx0 : Up L (i + 1) x.clause 0 := by rw [Nat.add_comm]; exact Up.trans hx1 hi
  have hd0 : ∀ z ∈ done, Up L (i + 1) z.clause 0 := fun z hz => by
    obtain ⟨h1, h2⟩ := h.dn z hz
    rw [Nat.add_comm]; exact Up.trans ⟨z, h1, rfl, h2⟩ hi
  have hdis : ∀ y ∈ sum, y ∉ t := fun y hy hyt => by
    obtain ⟨z, hz, k, hk1⟩ := h.up y hy
    obtain ⟨m, hm⟩ := hT.up y hyt
    have e1 := Up.depth hu hp (Up.trans hk1 (hd0 z hz)) (Up.trans hm hx0)
    have : k = m := by omega
    subst this
    exact hne z hz (Up.det hu hk1 hm)
  have hx_sum : x.clause ∉ sum := fun hy => by
    obtain ⟨z, hz, k, hk1⟩ := h.up _ hy
    have e1 := Up.depth hu hp (Up.trans hk1 (hd0 z hz)) hx0
    omega
  have hx_t : x.clause ∉ t := fun hy => by
    obtain ⟨m, hm⟩ := hT.up _ hy
    have e1 := Up.depth hu hp (Up.trans hm hx0) hx0
    omega
  have hst : (sum ++ t).Nodup := List.nodup_append.2 ⟨h.nd, hT.nd, fun a ha b hb e => by subst e; exact hdis a ha hb⟩
  have hstx : (sum ++ t ++ [x.clause]).Nodup := List.nodup_append.2 ⟨hst, by simp, fun a ha b hb e => by
    rw [List.mem_singleton] at hb
    subst hb; subst e
    rcases List.mem_append.1 ha with h | h
    · exact hx_sum h
    · exact hx_t h⟩
  have hsum' : ∀ y ∈ sum ++ t, ∃ z ∈ done ++ [x], ∃ k, Up L (k + 1) y z.clause := fun y hy => by
    rcases List.mem_append.1 hy with h' | h'
    · obtain ⟨z, hz, k, hk1⟩ := h.up y h'
      exact ⟨z, List.mem_append_left _ hz, k, hk1⟩
    · obtain ⟨m, hm⟩ := hT.up y h'
      exact ⟨x, List.mem_append_right _ (.head _), m, hm⟩
  have hd' : ∀ z ∈ done ++ [x], z ∈ L ∧ z.party = c := fun z hz => by
    rcases List.mem_append.1 hz with h' | h'
    · exact h.dn z h'
    · rw [List.mem_singleton] at h'; subst h'; exact ⟨hxL, hxp⟩
  refine ⟨hd', hst, hsum', fun b hb => ?_⟩
  cases hb
  refine WhyOk.first ⟨srtI_asc hstx, fun y hy => ?_⟩ h.best
  rcases List.mem_append.1 (mem_srtI.1 hy) with h' | h'
  · obtain ⟨z, hz, k, hk1⟩ := hsum' y h'
    obtain ⟨h1, h2⟩ := hd' z hz
    exact ⟨k + 1, Up.trans hk1 ⟨z, h1, rfl, h2⟩⟩
  · rw [List.mem_singleton] at h'; subst h'; exact ⟨0, hx1⟩
include hu hp in
theorem goL_why {rec : Rc → Option (List Int)} {adm want : Bool} {c : Int} {i : Nat} {s : List Int} (hi : Up L i c 0) (hrec : ∀ x, Up L (i + 1) x.clause 0 → ∀ t, rec x = some t → WhyOk L x.clause t) :
    ∀ {ks done : List Rc} {sum : List Int} {best : Option (List Int)}, (∀ x ∈ ks, x ∈ L ∧ x.party = c) → ((done ++ ks).map Rc.clause).Nodup → GoI L c done sum best → goL rec adm want ks sum best = some s → WhyOk L c s
  | [], done, sum, best, _, _, hI, h => by
    unfold goL at h
    split at h
    · cases h; exact hI.fin
    · exact hI.best s h
  | x :: ks, done, sum, best, hk, hnd, hI, h => by
    unfold goL at h
    cases ht : rec x with
    | none => rw [ht] at h; exact hI.best s h
    | some t =>
      rw [ht] at h
      dsimp only at h
      obtain ⟨hxL, hxp⟩ := hk x (.head _)
      have hx0 : Up L (i + 1) x.clause 0 := by rw [Nat.add_comm]; exact Up.trans ⟨x, hxL, rfl, hxp⟩ hi
      have hne : ∀ z ∈ done, z.clause ≠ x.clause := fun z hz e => by
        rw [List.map_append, List.nodup_append] at hnd
        exact hnd.2.2 z.clause (List.mem_map.2 ⟨z, hz, rfl⟩) x.clause (.head _) e
      exact goL_why hi hrec (done := done ++ [x]) (fun z hz => hk z (.tail _ hz)) (by rw [List.append_assoc]; exact hnd) (hI.step hu hp hi hxL hxp hne (hrec x hx0 t ht)) h
include hu hp in
theorem least_why {K : Int → List Rc} (hK : ∀ p, (∀ x ∈ K p, x ∈ L ∧ x.party = p) ∧ ((K p).map Rc.clause).Nodup) {want : Bool} : ∀ {n i : Nat} {c : Rc} {s : List Int}, Up L i c.clause 0 → leastF K want n c = some s → WhyOk L c.clause s
  | 0, i, c, s, hi, h => goL_why hu hp hi (fun x _ t ht => by cases ht) (ks := []) (done := []) (fun x hx => by cases hx) List.nodup_nil (GoI.zero _) h
  | n + 1, i, c, s, hi, h => goL_why hu hp hi (fun x hx t ht => least_why hK hx ht) (ks := K c.clause) (done := []) (hK _).1 (hK _).2 (GoI.zero _) h
end
end Go.Sx
/-
  More operations that ask nothing of the world: quotients and shifts of any number; a slice from an index on.
-/
namespace Go.Sx
open Go Go.RowKit
section
variable {P : Program} {N : Nat} {ds : List Deferred} {E : Env} {t ty t' : TypeId} {x y lo : Operand} {m n : Int} {k' : IntKind}
theorem tdiv_abs {m n : Int} (h : 0 < n) (h1 : -9223372036854775808 ≤ m) (h2 : m ≤ 9223372036854775807) : -9223372036854775808 ≤ m.tdiv n ∧ m.tdiv n ≤ 9223372036854775807 := by
  by_cases hm : 0 ≤ m
  · rw [Int.tdiv_eq_ediv_of_nonneg hm]
    have h3 := Int.ediv_le_self n hm
    have h4 := Int.ediv_nonneg hm (Int.le_of_lt h)
    omega
  · have e : m.tdiv n = -((-m) / n) := by
      rw [← Int.tdiv_eq_ediv_of_nonneg (by omega), Int.neg_tdiv, Int.neg_neg]
    have h3 := Int.ediv_le_self n (show 0 ≤ -m by omega)
    have h4 := Int.ediv_nonneg (show 0 ≤ -m by omega) (Int.le_of_lt h)
    omega
theorem POp.quoT (hx : Env.ev E x = some (.int .i64 m)) (hy : Env.ev E y = some (.int .i64 n)) (h0 : -9223372036854775808 ≤ m) (h1 : m ≤ 9223372036854775807) (h2 : 0 < n) :
    POp P N ds E (.binOp .quo t x y t') ty (.int .i64 (m.tdiv n)) := POp.bin hx hy guard_int fun w => by
  have e : n ≠ 0 := by omega
  rw [binOp_quo]
  simp only [Op.intDiv, e, if_false]
  have h3 := tdiv_abs h2 h0 h1
  rw [IntWalk.i64_in _ ⟨h3.1, h3.2⟩]; rfl
theorem shr_abs {m : Int} (n : Nat) (h1 : -9223372036854775808 ≤ m) (h2 : m ≤ 9223372036854775807) : -9223372036854775808 ≤ m / 2 ^ n ∧ m / 2 ^ n ≤ 9223372036854775807 := by
  have hp : (0 : Int) < 2 ^ n := Int.pow_pos (by decide)
  constructor
  · refine Int.le_ediv_of_mul_le hp ?_
    have : (1 : Int) ≤ 2 ^ n := hp
    generalize (2 : Int) ^ n = q at *
    omega
  · by_cases h : 0 ≤ m
    · have := Int.ediv_le_self (2 ^ n) h
      omega
    · have := Int.ediv_neg_of_neg_of_pos (show m < 0 by omega) hp
      omega
theorem POp.shrI {b : Nat} (hx : Env.ev E x = some (.int .i64 m)) (hy : Env.ev E y = some (.int k' n)) (en : n = (b : Int)) (h1 : b < 64) :
    POp P N ds E (.binOp .shr t x y t') ty (.int .i64 (m / 2 ^ b)) := POp.bin hx hy guard_int fun w => by
  subst en
  rw [binOp_shr, shift_shr_i64 k' m b (by omega) (by omega)]
  simp
end
end Go.Sx
/- Chapter 20: records as they lie in the memory; equality of records. -/
namespace Go.Sx
open Go Go.Proofs
def rcells (r : Rc) : List Value := [zv r.kind, zv r.id, zv r.version, zv r.day, .bool r.gone, zv r.start, zv r.stop, zv r.pack, zv r.person, zv r.role, zv r.purpose, zv r.clause, .bool r.adm, zv r.party, .string r.text]
abbrev recV (r : Rc) : Value := .agg (rcells r).toArray
def i64W (x : Int) : Prop := -9223372036854775808 ≤ x ∧ x ≤ 9223372036854775807
theorem i64W.wf {x : Int} (h : i64W x) : (Lit.int .i64 x).wf = true := by
  obtain ⟨h1, h2⟩ := h
  have e1 : IntKind.i64.min = -9223372036854775808 := rfl
  have e2 : IntKind.i64.max = 9223372036854775807 := rfl
  simp only [Lit.wf, Bool.and_eq_true, decide_eq_true_eq, e1, e2]
  omega
/-- A record whose numbers are numbers of the machine. -/
structure RcOk (r : Rc) : Prop where
  kind : i64W r.kind
  id : i64W r.id
  version : i64W r.version
  day : i64W r.day
  start : i64W r.start
  stop : i64W r.stop
  pack : i64W r.pack
  person : i64W r.person
  role : i64W r.role
  purpose : i64W r.purpose
  clause : i64W r.clause
  party : i64W r.party
  text : r.text.size ≤ maxLen
def rlits (r : Rc) : List Lit := [.int .i64 r.kind, .int .i64 r.id, .int .i64 r.version, .int .i64 r.day, .bool r.gone, .int .i64 r.start, .int .i64 r.stop, .int .i64 r.pack, .int .i64 r.person, .int .i64 r.role, .int .i64 r.purpose, .int .i64 r.clause, .bool r.adm, .int .i64 r.party, .string r.text.data.toList]
theorem rlits_inj {r s : Rc} (h : rlits r = rlits s) : r = s := by
  unfold rlits at h
  simp only [List.cons.injEq, Lit.int.injEq, Lit.bool.injEq, Lit.string.injEq, true_and, and_true] at h
  obtain ⟨h1, h2, h3, h4, h5, h6, h7, h8, h9, h10, h11, h12, h13, h14, h15⟩ := h
  cases r; cases s
  simp only at h1 h2 h3 h4 h5 h6 h7 h8 h9 h10 h11 h12 h13 h14 h15
  have h15' := ByteArray_ext' h15
  subst h1 h2 h3 h4 h5 h6 h7 h8 h9 h10 h11 h12 h13 h14 h15'
  rfl
theorem keyLits_rec {r : Rc} (h : RcOk r) : Tryz.prog.keyLits 3 36 (rcells r) = some (rlits r) := by
  have c1 : Tryz.prog.cellsOf 3 = 1 := by kernel_rfl
  have c2 : Tryz.prog.cellsOf 4 = 1 := by kernel_rfl
  have c3 : Tryz.prog.cellsOf 9 = 1 := by kernel_rfl
  have c4 : Tryz.prog.cellsOf 36 = 15 := by kernel_rfl
  have w1 := h.kind.wf
  have w2 := h.id.wf
  have w3 := h.version.wf
  have w4 := h.day.wf
  have w5 := h.start.wf
  have w6 := h.stop.wf
  have w7 := h.pack.wf
  have w8 := h.person.wf
  have w9 := h.role.wf
  have w10 := h.purpose.wf
  have w11 := h.clause.wf
  have w12 := h.party.wf
  have w13 := h.text
  simp [Program.keyLits, Tryz.underlying36, Tryz.underlying3, Tryz.underlying4, Tryz.underlying9, c1, c2, c3, c4, rcells, rlits, w1, w2, w3, w4, w5, w6, w7, w8, w9, w10, w11, w12, w13]
theorem formed_rec (r : Rc) : (recV r).formed Tryz.prog 36 = true := by
  have c4 : Tryz.prog.cellsOf 36 = 15 := by kernel_rfl
  simp [Value.formed, Tryz.underlying36, c4, rcells]
open Classical in
theorem run_eqRec {r s : Rc} (hr : RcOk r) (hs : RcOk s) (w : World) : (Op.equal 36 (recV r) (recV s)).run Tryz.prog w = .ok (decide (r = s)) w := by
  have hk : Tryz.prog.keyTypeAt 3 36 = true := by kernel_rfl
  obtain ⟨b, h1, h2⟩ := run_equalIn_deep (P := Tryz.prog) 9997 3 36 hk w 3 3 (recV r) (recV s) (rlits r) (rlits s) (formed_rec r) (formed_rec s) (by simpa [Value.cells] using keyLits_rec hr) (by simpa [Value.cells] using keyLits_rec hs)
  have e : b = decide (r = s) := by
    rw [Bool.eq_iff_iff, h2, decide_eq_true_eq]
    exact ⟨rlits_inj, fun e => by rw [e]⟩
  rw [← e]; exact h1
open Classical in
theorem POp.eqRec {N : Nat} {ds : List Deferred} {E : Env} {x y : Operand} {t' ty : TypeId} {r s : Rc} (hx : Env.ev E x = some (recV r)) (hy : Env.ev E y = some (recV s)) (hr : RcOk r) (hs : RcOk s) :
    POp Tryz.prog N ds E (.binOp .eql 36 x y t') ty (.bool (decide (r = s))) :=
  POp.bin hx hy (fun w => run_eqGuard_agg w _ _ _ _ _ _ (by kernel_rfl)) fun w => by
    have h := run_eqRec hr hs w
    simp only [Go.binOp, Sem.run_bind, h, Result.andThen, Sem.run_pure]
end Go.Sx
/- Chapter 20: the shapes of records. -/
namespace Go.Sx
open Go Go.Proofs Go.RowKit
theorem hwXD {G G2 : Prop} (x : G2) (hwq : Hold G2 → G := by
    intro hQq
    repeat' (first | apply HL.fold | apply HA.fold | apply HL.nil | apply HX.n_then | apply HC.seq | apply HC.region | refine HL.pa ?_ | refine HL.ga rfl ?_ | refine HL.na rfl ?_ | refine HL.nu rfl rfl ?_ | apply HC.block | apply HC.skip | apply HC.exit | apply HC.ret | apply HX.e_block | refine HX.e_other rfl ?_ | apply HX.e_then | apply HX.e_again | apply HX.n_block | apply HX.r_then | apply HX.r_block | apply HX.r_again | refine HC.cond_yes rfl ?_ | refine HC.cond_no rfl ?_ | refine HL.one (H1.ldb rfl memA rfl rfl ?_) | refine HC.cond rfl (fun hc => ?_) (fun hc => ?_) | refine HC.cond_b rfl (fun hc => ?_) (fun hc => ?_))
    exact hQq.get) : G := hwq ⟨x⟩
/-- A literal, as a slice that may grow. -/
theorem Mm.blkGrow {w0 w : World} {b n sz : Nat} {cs : List Value} {e : TypeId} {H : List Atom} (h : Mm w0 (A.blk b cs e :: H) w) (hl : cs.length = n * sz) (hn : n ≤ 1000000) : Mm w0 (A.grow e sz (some ⟨b, 0, none⟩) n n cs :: H) w := by
  refine ⟨h.ext, fun x hx => ?_, h.nd, h.rng⟩
  rcases List.mem_cons.1 hx with rfl | hx
  · refine ⟨hl, .inr ⟨b, n, cs.toArray, rfl, Nat.zero_le _, h.blk (List.Mem.head _), Nat.le_refl _, by simp only [maxLen]; omega, by simpa using hl, ?_⟩⟩
    rw [← hl, List.take_of_length_le (by simp)]
  · exact h.all x (List.mem_cons_of_mem _ hx)
theorem HL.blkGrow {P : Program} {r : Option Nat} {N : Nat} {ds : List Deferred} {ol l : List Oper} {Q : Post} {E : Env} {w0 : World} {H : List Atom} {b n sz : Nat} {cs : List Value} {e : TypeId} (hl : cs.length = n * sz) (hn : n ≤ 1000000)
    (h : HL P r N ds ol l Q E w0 (A.grow e sz (some ⟨b, 0, none⟩) n n cs :: H)) : HL P r N ds ol l Q E w0 (A.blk b cs e :: H) := fun w hM => h w (hM.blkGrow hl hn)
abbrev fnV (f : Nat) : Value := .func (.func f) #[] #[]
/-- The function that finds a field, and where it is. -/
def fid : Nat → Nat
  | 0 => 227
  | 1 => 219
  | 2 => 220
  | 3 => 222
  | 4 => 215
  | 5 => 216
  | 6 => 223
  | 7 => 217
  | 9 => 224
  | _ => 0
def fpos : Nat → Nat
  | 0 => 1
  | 1 => 5
  | 2 => 6
  | 3 => 7
  | 4 => 8
  | 5 => 9
  | 6 => 10
  | 7 => 11
  | 8 => 12
  | 9 => 13
  | _ => 0
def fcells (p : Nat × Int × Int) : List Value := if p.1 = 8 then [.nilFunc, zv 0, zv 0] else [fnV (fid p.1), zv p.2.1, zv p.2.2]
def fcl (l : List (Nat × Int × Int)) : List Value := l.flatMap fcells
theorem fcells_len (p : Nat × Int × Int) : (fcells p).length = 3 := by unfold fcells; split <;> rfl
theorem fcl_len : ∀ l : List (Nat × Int × Int), (fcl l).length = l.length * 3
  | [] => rfl
  | p :: l => by
    have := fcl_len l
    unfold fcl at this ⊢
    rw [List.flatMap_cons, List.length_append, fcells_len, this, List.length_cons]; omega
theorem fcells_one (p : Nat × Int × Int) : ∀ u ∈ fcells p, u.oneCell' = true := by
  unfold fcells
  intro u hu
  split at hu <;> (simp only [List.mem_cons, List.not_mem_nil, or_false] at hu; rcases hu with rfl | rfl | rfl <;> rfl)
theorem fcl_one (l : List (Nat × Int × Int)) : ∀ u ∈ fcl l, u.oneCell' = true := fun u hu => by
  obtain ⟨p, -, h⟩ := List.mem_flatMap.1 hu
  exact fcells_one p u h
def baseF : List (Nat × Int × Int) := [(0, 1, 1000000), (1, 0, 100000), (2, 0, 100000)]
attribute [local irreducible] WC WL WX POp Then Again Fn NX W1 WA WO QL RP RA Yld LoopAt HC HL HX HN H1 HA HO HQ HB HP A.blk A.grow A.rd A.obj A.mp AgainH CutH
theorem id_fn (b : Nat) (w : World) : Fn Tryz.prog 227 #[.pointer (some ⟨b, 0, none⟩)] w fun v w' => v = .pointer (some ⟨b, 1, none⟩) ∧ w = w' := by
  refine enter (l := [_]) rfl Tryz.ntmps227 rfl ?_
  repeat' (first | apply WL.fold | apply WA.fold | apply WL.nil | apply WX.n_then | apply WC.seq | apply WC.region | refine WL.pa ?_ | refine WL.ga rfl ?_ | refine WL.na rfl ?_ | refine WL.nu rfl rfl ?_ | apply WC.block | apply WC.skip | apply WC.exit | apply WC.ret | apply WX.e_block | refine WX.e_other rfl ?_ | apply WX.e_then | apply WX.e_again | apply WX.n_block | apply WX.r_then | apply WX.r_block | apply WX.r_again | refine WC.cond_yes rfl ?_ | refine WC.cond_no rfl ?_ | refine WC.cond rfl (fun hc => ?_) (fun hc => ?_) | refine WC.cond_b rfl (fun hc => ?_) (fun hc => ?_))
  refine WL.pa ?_ (POp.nilCheck rfl)
  repeat' (first | apply WL.fold | apply WA.fold | apply WL.nil | apply WX.n_then | apply WC.seq | apply WC.region | refine WL.pa ?_ | refine WL.ga rfl ?_ | refine WL.na rfl ?_ | refine WL.nu rfl rfl ?_ | apply WC.block | apply WC.skip | apply WC.exit | apply WC.ret | apply WX.e_block | refine WX.e_other rfl ?_ | apply WX.e_then | apply WX.e_again | apply WX.n_block | apply WX.r_then | apply WX.r_block | apply WX.r_again | refine WC.cond_yes rfl ?_ | refine WC.cond_no rfl ?_ | refine WC.cond rfl (fun hc => ?_) (fun hc => ?_) | refine WC.cond_b rfl (fun hc => ?_) (fun hc => ?_))
  exact WX.ret1 rfl rfl ⟨rfl, rfl⟩
theorem from_fn (b : Nat) (w : World) : Fn Tryz.prog 219 #[.pointer (some ⟨b, 0, none⟩)] w fun v w' => v = .pointer (some ⟨b, 5, none⟩) ∧ w = w' := by
  refine enter (l := [_]) rfl Tryz.ntmps219 rfl ?_
  repeat' (first | apply WL.fold | apply WA.fold | apply WL.nil | apply WX.n_then | apply WC.seq | apply WC.region | refine WL.pa ?_ | refine WL.ga rfl ?_ | refine WL.na rfl ?_ | refine WL.nu rfl rfl ?_ | apply WC.block | apply WC.skip | apply WC.exit | apply WC.ret | apply WX.e_block | refine WX.e_other rfl ?_ | apply WX.e_then | apply WX.e_again | apply WX.n_block | apply WX.r_then | apply WX.r_block | apply WX.r_again | refine WC.cond_yes rfl ?_ | refine WC.cond_no rfl ?_ | refine WC.cond rfl (fun hc => ?_) (fun hc => ?_) | refine WC.cond_b rfl (fun hc => ?_) (fun hc => ?_))
  refine WL.pa ?_ (POp.nilCheck rfl)
  repeat' (first | apply WL.fold | apply WA.fold | apply WL.nil | apply WX.n_then | apply WC.seq | apply WC.region | refine WL.pa ?_ | refine WL.ga rfl ?_ | refine WL.na rfl ?_ | refine WL.nu rfl rfl ?_ | apply WC.block | apply WC.skip | apply WC.exit | apply WC.ret | apply WX.e_block | refine WX.e_other rfl ?_ | apply WX.e_then | apply WX.e_again | apply WX.n_block | apply WX.r_then | apply WX.r_block | apply WX.r_again | refine WC.cond_yes rfl ?_ | refine WC.cond_no rfl ?_ | refine WC.cond rfl (fun hc => ?_) (fun hc => ?_) | refine WC.cond_b rfl (fun hc => ?_) (fun hc => ?_))
  exact WX.ret1 rfl rfl ⟨rfl, rfl⟩
theorem until_fn (b : Nat) (w : World) : Fn Tryz.prog 220 #[.pointer (some ⟨b, 0, none⟩)] w fun v w' => v = .pointer (some ⟨b, 6, none⟩) ∧ w = w' := by
  refine enter (l := [_]) rfl Tryz.ntmps220 rfl ?_
  repeat' (first | apply WL.fold | apply WA.fold | apply WL.nil | apply WX.n_then | apply WC.seq | apply WC.region | refine WL.pa ?_ | refine WL.ga rfl ?_ | refine WL.na rfl ?_ | refine WL.nu rfl rfl ?_ | apply WC.block | apply WC.skip | apply WC.exit | apply WC.ret | apply WX.e_block | refine WX.e_other rfl ?_ | apply WX.e_then | apply WX.e_again | apply WX.n_block | apply WX.r_then | apply WX.r_block | apply WX.r_again | refine WC.cond_yes rfl ?_ | refine WC.cond_no rfl ?_ | refine WC.cond rfl (fun hc => ?_) (fun hc => ?_) | refine WC.cond_b rfl (fun hc => ?_) (fun hc => ?_))
  refine WL.pa ?_ (POp.nilCheck rfl)
  repeat' (first | apply WL.fold | apply WA.fold | apply WL.nil | apply WX.n_then | apply WC.seq | apply WC.region | refine WL.pa ?_ | refine WL.ga rfl ?_ | refine WL.na rfl ?_ | refine WL.nu rfl rfl ?_ | apply WC.block | apply WC.skip | apply WC.exit | apply WC.ret | apply WX.e_block | refine WX.e_other rfl ?_ | apply WX.e_then | apply WX.e_again | apply WX.n_block | apply WX.r_then | apply WX.r_block | apply WX.r_again | refine WC.cond_yes rfl ?_ | refine WC.cond_no rfl ?_ | refine WC.cond rfl (fun hc => ?_) (fun hc => ?_) | refine WC.cond_b rfl (fun hc => ?_) (fun hc => ?_))
  exact WX.ret1 rfl rfl ⟨rfl, rfl⟩
theorem pack_fn (b : Nat) (w : World) : Fn Tryz.prog 222 #[.pointer (some ⟨b, 0, none⟩)] w fun v w' => v = .pointer (some ⟨b, 7, none⟩) ∧ w = w' := by
  refine enter (l := [_]) rfl Tryz.ntmps222 rfl ?_
  repeat' (first | apply WL.fold | apply WA.fold | apply WL.nil | apply WX.n_then | apply WC.seq | apply WC.region | refine WL.pa ?_ | refine WL.ga rfl ?_ | refine WL.na rfl ?_ | refine WL.nu rfl rfl ?_ | apply WC.block | apply WC.skip | apply WC.exit | apply WC.ret | apply WX.e_block | refine WX.e_other rfl ?_ | apply WX.e_then | apply WX.e_again | apply WX.n_block | apply WX.r_then | apply WX.r_block | apply WX.r_again | refine WC.cond_yes rfl ?_ | refine WC.cond_no rfl ?_ | refine WC.cond rfl (fun hc => ?_) (fun hc => ?_) | refine WC.cond_b rfl (fun hc => ?_) (fun hc => ?_))
  refine WL.pa ?_ (POp.nilCheck rfl)
  repeat' (first | apply WL.fold | apply WA.fold | apply WL.nil | apply WX.n_then | apply WC.seq | apply WC.region | refine WL.pa ?_ | refine WL.ga rfl ?_ | refine WL.na rfl ?_ | refine WL.nu rfl rfl ?_ | apply WC.block | apply WC.skip | apply WC.exit | apply WC.ret | apply WX.e_block | refine WX.e_other rfl ?_ | apply WX.e_then | apply WX.e_again | apply WX.n_block | apply WX.r_then | apply WX.r_block | apply WX.r_again | refine WC.cond_yes rfl ?_ | refine WC.cond_no rfl ?_ | refine WC.cond rfl (fun hc => ?_) (fun hc => ?_) | refine WC.cond_b rfl (fun hc => ?_) (fun hc => ?_))
  exact WX.ret1 rfl rfl ⟨rfl, rfl⟩
theorem person_fn (b : Nat) (w : World) : Fn Tryz.prog 215 #[.pointer (some ⟨b, 0, none⟩)] w fun v w' => v = .pointer (some ⟨b, 8, none⟩) ∧ w = w' := by
  refine enter (l := [_]) rfl Tryz.ntmps215 rfl ?_
  repeat' (first | apply WL.fold | apply WA.fold | apply WL.nil | apply WX.n_then | apply WC.seq | apply WC.region | refine WL.pa ?_ | refine WL.ga rfl ?_ | refine WL.na rfl ?_ | refine WL.nu rfl rfl ?_ | apply WC.block | apply WC.skip | apply WC.exit | apply WC.ret | apply WX.e_block | refine WX.e_other rfl ?_ | apply WX.e_then | apply WX.e_again | apply WX.n_block | apply WX.r_then | apply WX.r_block | apply WX.r_again | refine WC.cond_yes rfl ?_ | refine WC.cond_no rfl ?_ | refine WC.cond rfl (fun hc => ?_) (fun hc => ?_) | refine WC.cond_b rfl (fun hc => ?_) (fun hc => ?_))
  refine WL.pa ?_ (POp.nilCheck rfl)
  repeat' (first | apply WL.fold | apply WA.fold | apply WL.nil | apply WX.n_then | apply WC.seq | apply WC.region | refine WL.pa ?_ | refine WL.ga rfl ?_ | refine WL.na rfl ?_ | refine WL.nu rfl rfl ?_ | apply WC.block | apply WC.skip | apply WC.exit | apply WC.ret | apply WX.e_block | refine WX.e_other rfl ?_ | apply WX.e_then | apply WX.e_again | apply WX.n_block | apply WX.r_then | apply WX.r_block | apply WX.r_again | refine WC.cond_yes rfl ?_ | refine WC.cond_no rfl ?_ | refine WC.cond rfl (fun hc => ?_) (fun hc => ?_) | refine WC.cond_b rfl (fun hc => ?_) (fun hc => ?_))
  exact WX.ret1 rfl rfl ⟨rfl, rfl⟩
theorem role_fn (b : Nat) (w : World) : Fn Tryz.prog 216 #[.pointer (some ⟨b, 0, none⟩)] w fun v w' => v = .pointer (some ⟨b, 9, none⟩) ∧ w = w' := by
  refine enter (l := [_]) rfl Tryz.ntmps216 rfl ?_
  repeat' (first | apply WL.fold | apply WA.fold | apply WL.nil | apply WX.n_then | apply WC.seq | apply WC.region | refine WL.pa ?_ | refine WL.ga rfl ?_ | refine WL.na rfl ?_ | refine WL.nu rfl rfl ?_ | apply WC.block | apply WC.skip | apply WC.exit | apply WC.ret | apply WX.e_block | refine WX.e_other rfl ?_ | apply WX.e_then | apply WX.e_again | apply WX.n_block | apply WX.r_then | apply WX.r_block | apply WX.r_again | refine WC.cond_yes rfl ?_ | refine WC.cond_no rfl ?_ | refine WC.cond rfl (fun hc => ?_) (fun hc => ?_) | refine WC.cond_b rfl (fun hc => ?_) (fun hc => ?_))
  refine WL.pa ?_ (POp.nilCheck rfl)
  repeat' (first | apply WL.fold | apply WA.fold | apply WL.nil | apply WX.n_then | apply WC.seq | apply WC.region | refine WL.pa ?_ | refine WL.ga rfl ?_ | refine WL.na rfl ?_ | refine WL.nu rfl rfl ?_ | apply WC.block | apply WC.skip | apply WC.exit | apply WC.ret | apply WX.e_block | refine WX.e_other rfl ?_ | apply WX.e_then | apply WX.e_again | apply WX.n_block | apply WX.r_then | apply WX.r_block | apply WX.r_again | refine WC.cond_yes rfl ?_ | refine WC.cond_no rfl ?_ | refine WC.cond rfl (fun hc => ?_) (fun hc => ?_) | refine WC.cond_b rfl (fun hc => ?_) (fun hc => ?_))
  exact WX.ret1 rfl rfl ⟨rfl, rfl⟩
theorem purpose_fn (b : Nat) (w : World) : Fn Tryz.prog 223 #[.pointer (some ⟨b, 0, none⟩)] w fun v w' => v = .pointer (some ⟨b, 10, none⟩) ∧ w = w' := by
  refine enter (l := [_]) rfl Tryz.ntmps223 rfl ?_
  repeat' (first | apply WL.fold | apply WA.fold | apply WL.nil | apply WX.n_then | apply WC.seq | apply WC.region | refine WL.pa ?_ | refine WL.ga rfl ?_ | refine WL.na rfl ?_ | refine WL.nu rfl rfl ?_ | apply WC.block | apply WC.skip | apply WC.exit | apply WC.ret | apply WX.e_block | refine WX.e_other rfl ?_ | apply WX.e_then | apply WX.e_again | apply WX.n_block | apply WX.r_then | apply WX.r_block | apply WX.r_again | refine WC.cond_yes rfl ?_ | refine WC.cond_no rfl ?_ | refine WC.cond rfl (fun hc => ?_) (fun hc => ?_) | refine WC.cond_b rfl (fun hc => ?_) (fun hc => ?_))
  refine WL.pa ?_ (POp.nilCheck rfl)
  repeat' (first | apply WL.fold | apply WA.fold | apply WL.nil | apply WX.n_then | apply WC.seq | apply WC.region | refine WL.pa ?_ | refine WL.ga rfl ?_ | refine WL.na rfl ?_ | refine WL.nu rfl rfl ?_ | apply WC.block | apply WC.skip | apply WC.exit | apply WC.ret | apply WX.e_block | refine WX.e_other rfl ?_ | apply WX.e_then | apply WX.e_again | apply WX.n_block | apply WX.r_then | apply WX.r_block | apply WX.r_again | refine WC.cond_yes rfl ?_ | refine WC.cond_no rfl ?_ | refine WC.cond rfl (fun hc => ?_) (fun hc => ?_) | refine WC.cond_b rfl (fun hc => ?_) (fun hc => ?_))
  exact WX.ret1 rfl rfl ⟨rfl, rfl⟩
theorem clause_fn (b : Nat) (w : World) : Fn Tryz.prog 217 #[.pointer (some ⟨b, 0, none⟩)] w fun v w' => v = .pointer (some ⟨b, 11, none⟩) ∧ w = w' := by
  refine enter (l := [_]) rfl Tryz.ntmps217 rfl ?_
  repeat' (first | apply WL.fold | apply WA.fold | apply WL.nil | apply WX.n_then | apply WC.seq | apply WC.region | refine WL.pa ?_ | refine WL.ga rfl ?_ | refine WL.na rfl ?_ | refine WL.nu rfl rfl ?_ | apply WC.block | apply WC.skip | apply WC.exit | apply WC.ret | apply WX.e_block | refine WX.e_other rfl ?_ | apply WX.e_then | apply WX.e_again | apply WX.n_block | apply WX.r_then | apply WX.r_block | apply WX.r_again | refine WC.cond_yes rfl ?_ | refine WC.cond_no rfl ?_ | refine WC.cond rfl (fun hc => ?_) (fun hc => ?_) | refine WC.cond_b rfl (fun hc => ?_) (fun hc => ?_))
  refine WL.pa ?_ (POp.nilCheck rfl)
  repeat' (first | apply WL.fold | apply WA.fold | apply WL.nil | apply WX.n_then | apply WC.seq | apply WC.region | refine WL.pa ?_ | refine WL.ga rfl ?_ | refine WL.na rfl ?_ | refine WL.nu rfl rfl ?_ | apply WC.block | apply WC.skip | apply WC.exit | apply WC.ret | apply WX.e_block | refine WX.e_other rfl ?_ | apply WX.e_then | apply WX.e_again | apply WX.n_block | apply WX.r_then | apply WX.r_block | apply WX.r_again | refine WC.cond_yes rfl ?_ | refine WC.cond_no rfl ?_ | refine WC.cond rfl (fun hc => ?_) (fun hc => ?_) | refine WC.cond_b rfl (fun hc => ?_) (fun hc => ?_))
  exact WX.ret1 rfl rfl ⟨rfl, rfl⟩
theorem party_fn (b : Nat) (w : World) : Fn Tryz.prog 224 #[.pointer (some ⟨b, 0, none⟩)] w fun v w' => v = .pointer (some ⟨b, 13, none⟩) ∧ w = w' := by
  refine enter (l := [_]) rfl Tryz.ntmps224 rfl ?_
  repeat' (first | apply WL.fold | apply WA.fold | apply WL.nil | apply WX.n_then | apply WC.seq | apply WC.region | refine WL.pa ?_ | refine WL.ga rfl ?_ | refine WL.na rfl ?_ | refine WL.nu rfl rfl ?_ | apply WC.block | apply WC.skip | apply WC.exit | apply WC.ret | apply WX.e_block | refine WX.e_other rfl ?_ | apply WX.e_then | apply WX.e_again | apply WX.n_block | apply WX.r_then | apply WX.r_block | apply WX.r_again | refine WC.cond_yes rfl ?_ | refine WC.cond_no rfl ?_ | refine WC.cond rfl (fun hc => ?_) (fun hc => ?_) | refine WC.cond_b rfl (fun hc => ?_) (fun hc => ?_))
  refine WL.pa ?_ (POp.nilCheck rfl)
  repeat' (first | apply WL.fold | apply WA.fold | apply WL.nil | apply WX.n_then | apply WC.seq | apply WC.region | refine WL.pa ?_ | refine WL.ga rfl ?_ | refine WL.na rfl ?_ | refine WL.nu rfl rfl ?_ | apply WC.block | apply WC.skip | apply WC.exit | apply WC.ret | apply WX.e_block | refine WX.e_other rfl ?_ | apply WX.e_then | apply WX.e_again | apply WX.n_block | apply WX.r_then | apply WX.r_block | apply WX.r_again | refine WC.cond_yes rfl ?_ | refine WC.cond_no rfl ?_ | refine WC.cond rfl (fun hc => ?_) (fun hc => ?_) | refine WC.cond_b rfl (fun hc => ?_) (fun hc => ?_))
  exact WX.ret1 rfl rfl ⟨rfl, rfl⟩
theorem getter_ok {i : Nat} (h : i < 10) (h8 : i ≠ 8) : CallOk Tryz.prog (fid i) ∧ ∀ (b : Nat) (w : World), Fn Tryz.prog (fid i) #[.pointer (some ⟨b, 0, none⟩)] w fun v w' => v = .pointer (some ⟨b, fpos i, none⟩) ∧ w = w' := by
  rcases (show i = 0 ∨ i = 1 ∨ i = 2 ∨ i = 3 ∨ i = 4 ∨ i = 5 ∨ i = 6 ∨ i = 7 ∨ i = 9 by omega) with rfl | rfl | rfl | rfl | rfl | rfl | rfl | rfl | rfl
  · exact ⟨inferInstanceAs (CallOk Tryz.prog 227), id_fn⟩
  · exact ⟨inferInstanceAs (CallOk Tryz.prog 219), from_fn⟩
  · exact ⟨inferInstanceAs (CallOk Tryz.prog 220), until_fn⟩
  · exact ⟨inferInstanceAs (CallOk Tryz.prog 222), pack_fn⟩
  · exact ⟨inferInstanceAs (CallOk Tryz.prog 215), person_fn⟩
  · exact ⟨inferInstanceAs (CallOk Tryz.prog 216), role_fn⟩
  · exact ⟨inferInstanceAs (CallOk Tryz.prog 223), purpose_fn⟩
  · exact ⟨inferInstanceAs (CallOk Tryz.prog 217), clause_fn⟩
  · exact ⟨inferInstanceAs (CallOk Tryz.prog 224), party_fn⟩
theorem number_fn (f : Nat) (w : World) : Fn Tryz.prog 214 #[fnV f] w fun v w' => v = .agg #[fnV f, zv 1, zv 1000000] ∧ Ext w w' := by
  refine enterH (l := [_]) rfl Tryz.ntmps214 rfl ?_
  refine hwXD ?_
  refine HL.one (H1.alloc (cs := [.nilFunc, zv 0, zv 0]) rfl rfl (fun b2 => ?_))
  refine hwXD ?_
  refine HL.build (cs := [fnV f, zv 1, zv 1000000]) rfl rfl rfl ?_
  refine hwXD ?_
  refine HL.one (H1.stAgg (cs := [.nilFunc, zv 0, zv 0]) (vs := [fnV f, zv 1, zv 1000000]) rfl rfl rfl (by intro v hv; simp only [List.mem_cons, List.not_mem_nil, or_false] at hv; rcases hv with rfl | rfl | rfl <;> rfl) rplA rfl ?_)
  refine hwXD ?_
  exact HX.retc1 (cs := [fnV f, zv 1, zv 1000000]) rfl rfl memA rfl fun w' hM => ⟨rfl, hM.ext⟩
theorem day_fn (f : Nat) (w : World) : Fn Tryz.prog 218 #[fnV f] w fun v w' => v = .agg #[fnV f, zv 0, zv 100000] ∧ Ext w w' := by
  refine enterH (l := [_]) rfl Tryz.ntmps218 rfl ?_
  refine hwXD ?_
  refine HL.one (H1.alloc (cs := [.nilFunc, zv 0, zv 0]) rfl rfl (fun b2 => ?_))
  refine hwXD ?_
  refine HL.build (cs := [fnV f, zv 0, zv 100000]) rfl rfl rfl ?_
  refine hwXD ?_
  refine HL.one (H1.stAgg (cs := [.nilFunc, zv 0, zv 0]) (vs := [fnV f, zv 0, zv 100000]) rfl rfl rfl (by intro v hv; simp only [List.mem_cons, List.not_mem_nil, or_false] at hv; rcases hv with rfl | rfl | rfl <;> rfl) rplA rfl ?_)
  refine hwXD ?_
  exact HX.retc1 (cs := [fnV f, zv 0, zv 100000]) rfl rfl memA rfl fun w' hM => ⟨rfl, hM.ext⟩
theorem maybe_fn (f : Nat) (w : World) : Fn Tryz.prog 221 #[fnV f] w fun v w' => v = .agg #[fnV f, zv 0, zv 1000000] ∧ Ext w w' := by
  refine enterH (l := [_]) rfl Tryz.ntmps221 rfl ?_
  refine hwXD ?_
  refine HL.one (H1.alloc (cs := [.nilFunc, zv 0, zv 0]) rfl rfl (fun b2 => ?_))
  refine hwXD ?_
  refine HL.build (cs := [fnV f, zv 0, zv 1000000]) rfl rfl rfl ?_
  refine hwXD ?_
  refine HL.one (H1.stAgg (cs := [.nilFunc, zv 0, zv 0]) (vs := [fnV f, zv 0, zv 1000000]) rfl rfl rfl (by intro v hv; simp only [List.mem_cons, List.not_mem_nil, or_false] at hv; rcases hv with rfl | rfl | rfl <;> rfl) rplA rfl ?_)
  refine hwXD ?_
  exact HX.retc1 (cs := [fnV f, zv 0, zv 1000000]) rfl rfl memA rfl fun w' hM => ⟨rfl, hM.ext⟩
end Go.Sx
/- Chapter 20: spanned, shapeOf. -/
namespace Go.Sx
open Go Go.Proofs Go.RowKit
theorem hwXE {G G2 : Prop} (x : G2) (hwq : Hold G2 → G := by
    intro hQq
    repeat' (first | refine HL.one (H1.callx rfl rfl (fun w' _ => maybe_fn _ w') ?_) | refine HL.one (H1.callx rfl rfl (fun w' _ => day_fn _ w') ?_) | refine HL.one (H1.callx rfl rfl (fun w' _ => number_fn _ w') ?_) | apply HL.fold | apply HA.fold | apply HL.nil | apply HX.n_then | apply HC.seq | apply HC.region | refine HL.pa ?_ | refine HL.ga rfl ?_ | refine HL.na rfl ?_ | refine HL.nu rfl rfl ?_ | apply HC.block | apply HC.skip | apply HC.exit | apply HC.ret | apply HX.e_block | refine HX.e_other rfl ?_ | apply HX.e_then | apply HX.e_again | apply HX.n_block | apply HX.r_then | apply HX.r_block | apply HX.r_again | refine HC.cond_yes rfl ?_ | refine HC.cond_no rfl ?_ | refine HL.one (H1.ldb rfl memA rfl rfl ?_) | refine HC.cond rfl (fun hc => ?_) (fun hc => ?_) | refine HC.cond_b rfl (fun hc => ?_) (fun hc => ?_))
    exact hQq.get) : G := hwq ⟨x⟩
instance restDec (r : Rc) : Decidable (restP r) := by unfold restP; infer_instance
def rid (k : Int) : Nat := if k = 2 then 225 else if k = 6 ∨ k = 8 then 226 else 265
def shapeC (z : Option Addr × Nat) (k : Int) : List Value := [.slice z.1 (specF k).length z.2, fnV (fid (keyF k)), zv 1, zv 1000000, fnV (rid k)]
attribute [local irreducible] WC WL WX POp Then Again Fn NX W1 WA WO QL RP RA Yld LoopAt HC HL HX HN H1 HA HO HQ HB HP A.blk A.grow A.rd A.obj A.mp AgainH CutH
theorem isSpan_fn (r : Rc) (w : World) : Fn Tryz.prog 265 #[recV r] w fun v w' => v = .bool (decide (r.start ≤ r.stop)) ∧ Ext w w' := by
  refine enterH (l := [_]) rfl Tryz.ntmps265 rfl ?_
  refine hwXE ?_
  refine HL.one (H1.boxAgg (cs := rcells r) rfl rfl (fun b1 => ?_))
  refine hwXE ?_
  exact HX.ret1 rfl rfl fun w' hM => ⟨rfl, hM.ext⟩
theorem isClause_fn (r : Rc) (w : World) : Fn Tryz.prog 225 #[recV r] w fun v w' => v = .bool (decide (r.start ≤ r.stop ∧ r.clause ≠ r.party)) ∧ Ext w w' := by
  refine enterH (l := [_]) rfl Tryz.ntmps225 rfl ?_
  refine hwXE ?_
  refine HL.one (H1.boxAgg (cs := rcells r) rfl rfl (fun b1 => ?_))
  refine hwXE ?_
  refine HL.one (H1.ldAgg (vs := rcells r) rfl memA rfl (fun i v hv => by rw [Nat.zero_add]; exact hv) rfl ?_)
  refine hwXE ?_
  refine HL.one (H1.callx (vs := [recV r]) rfl rfl (fun w' _ => isSpan_fn r w') ?_)
  by_cases h1 : r.start ≤ r.stop
  · rw [decide_eq_true h1]
    refine hwXE ?_
    exact HX.ret1 rfl rfl fun w' hM => ⟨by simp [h1], hM.ext⟩
  · rw [decide_eq_false h1]
    refine hwXE ?_
    exact HX.ret1 rfl rfl fun w' hM => ⟨by simp [h1], hM.ext⟩
theorem isAny_fn (r : Rc) (w : World) : Fn Tryz.prog 226 #[recV r] w fun v w' => v = .bool true ∧ Ext w w' := by
  refine enterH (l := [_]) rfl Tryz.ntmps226 rfl ?_
  refine hwXE ?_
  refine HL.one (H1.boxAgg (cs := rcells r) rfl rfl (fun b1 => ?_))
  refine hwXE ?_
  exact HX.ret1 rfl rfl fun w' hM => ⟨rfl, hM.ext⟩
theorem rest_ok (r : Rc) : CallOk Tryz.prog (rid r.kind) ∧ ∀ w : World, Fn Tryz.prog (rid r.kind) #[recV r] w fun v w' => v = .bool (decide (restP r)) ∧ Ext w w' := by
  unfold rid
  by_cases h2 : r.kind = 2
  · rw [if_pos h2]
    refine ⟨inferInstanceAs (CallOk Tryz.prog 225), fun w => (isClause_fn r w).mono fun v w' ⟨h, hx⟩ => ⟨?_, hx⟩⟩
    rw [h]
    congr 1
    simp only [decide_eq_decide]
    unfold restP
    constructor
    · exact fun h => ⟨fun _ _ => h.1, fun _ => h.2⟩
    · exact fun h => ⟨h.1 (by omega) (by omega), h.2 h2⟩
  · rw [if_neg h2]
    by_cases h6 : r.kind = 6 ∨ r.kind = 8
    · rw [if_pos h6]
      refine ⟨inferInstanceAs (CallOk Tryz.prog 226), fun w => (isAny_fn r w).mono fun v w' ⟨h, hx⟩ => ⟨?_, hx⟩⟩
      rw [h, decide_eq_true]
      exact ⟨fun a b => by omega, fun a => absurd a h2⟩
    · rw [if_neg h6]
      refine ⟨inferInstanceAs (CallOk Tryz.prog 265), fun w => (isSpan_fn r w).mono fun v w' ⟨h, hx⟩ => ⟨?_, hx⟩⟩
      rw [h]
      congr 1
      simp only [decide_eq_decide]
      unfold restP
      exact ⟨fun h => ⟨fun _ _ => h, fun a => absurd a h2⟩, fun h => h.1 (by omega) (by omega)⟩
theorem spanned_fn (m : List (Nat × Int × Int)) (bm : Nat) (hm : m.length ≤ 10) (w : World) (hc : ∀ j u, (fcl m)[j]? = some u → w.cell? ⟨bm, j, none⟩ = some u) :
    Fn Tryz.prog 213 #[.slice (some ⟨bm, 0, none⟩) m.length m.length] w fun v w' => ∃ z : Option Addr × Nat, True ∧ v = .agg #[.slice z.1 (3 + m.length) z.2, fnV 227, zv 1, zv 1000000, fnV 265] ∧
      Mm w [A.grow 225 3 z.1 z.2 (3 + m.length) (fcl baseF ++ fcl m)] w' := by
  refine enterH (l := [_]) rfl Tryz.ntmps213 rfl ?_
  refine hwXE ?_
  refine HL.one (H1.alloc (cs := [.slice none 0 0, .nilFunc, zv 0, zv 0, .nilFunc]) rfl rfl (fun b2 => ?_))
  refine hwXE ?_
  refine HL.one (H1.lit (cs := fcl baseF) rfl rfl rfl rfl rfl rfl (fun b3 => ?_))
  apply HL.fold
  refine HL.blkGrow (cs := fcl baseF) (n := 3) (sz := 3) rfl (by decide) ?_
  refine hwXE ?_
  refine HL.one (H1.app (sz := 3) (news := fcl m) rfl (by decide) rfl rfl (fun _ _ => by first | ((repeat (first | with_reducible exact Rpl.here | with_reducible apply Rpl.there)); done) | (repeat (first | exact Rpl.here | apply Rpl.there))) (fcl_len m) (fun w' hM j u hu => by
    rw [add_lit, Nat.zero_add]
    exact cell_ext hM.ext (hc j u hu)) (fcl_one m) (by omega) (by decide) rfl (fun a' c' _ => ?_))
  refine hwXE ?_
  refine HL.build (cs := [.slice a' (3 + m.length) c', fnV 227, zv 1, zv 1000000, fnV 265]) rfl rfl rfl ?_
  refine hwXE ?_
  refine HL.one (H1.stAgg (cs := [.slice none 0 0, .nilFunc, zv 0, zv 0, .nilFunc]) (vs := [.slice a' (3 + m.length) c', fnV 227, zv 1, zv 1000000, fnV 265]) rfl rfl rfl (by intro v hv; simp only [List.mem_cons, List.not_mem_nil, or_false] at hv; rcases hv with rfl | rfl | rfl | rfl | rfl <;> rfl) rplA rfl ?_)
  refine hwXE ?_
  exact HX.retc1 (cs := [.slice a' (3 + m.length) c', fnV 227, zv 1, zv 1000000, fnV 265]) rfl rfl memA rfl fun w' hM => ⟨(a', c'), trivial, rfl, hM.sub (by repeat (first | exact Hs.nil _ | (refine Hs.cons pickA ?_)))⟩
set_option maxHeartbeats 2000000 in
theorem shapeOf_fn (k : Int) (hk : 1 ≤ k ∧ k ≤ 8) (w : World) :
    Fn Tryz.prog 151 #[zv k] w fun v w' => ∃ z : Option Addr × Nat, True ∧ v = .tuple #[.agg (shapeC z k).toArray, .bool true] ∧ Mm w [A.grow 225 3 z.1 z.2 (specF k).length (fcl (specF k))] w' := by
  refine enterH (l := [_]) rfl Tryz.ntmps151 rfl ?_
  rcases (show k = 1 ∨ k = 2 ∨ k = 3 ∨ k = 4 ∨ k = 5 ∨ k = 6 ∨ k = 7 ∨ k = 8 by omega) with rfl | rfl | rfl | rfl | rfl | rfl | rfl | rfl
  · refine hwXE ?_
    refine HL.one (H1.alloc (cs := [.slice none 0 0, .nilFunc, zv 0, zv 0, .nilFunc]) rfl rfl (fun b2 => ?_))
    refine hwXE ?_
    refine HL.one (H1.lit (cs := fcl [(4, 1, 1000000), (5, 1, 1000000)]) rfl rfl rfl rfl rfl rfl (fun b3 => ?_))
    refine hwXE ?_
    refine HL.one (H1.callz1 (vs := [.slice (some ⟨b3, 0, none⟩) 2 2]) rfl rfl (fun w' hM => spanned_fn [(4, 1, 1000000), (5, 1, 1000000)] b3 (by decide) w' fun j u hu => (hM.blk (b := b3) memA).cell hu) ?_)
    rintro ⟨a, c⟩ -
    dsimp only
    rw [show fcl baseF ++ fcl [(4, 1, 1000000), (5, 1, 1000000)] = fcl (specF 1) from rfl]
    refine hwXE ?_
    refine HL.one (H1.stAgg (cs := [.slice none 0 0, .nilFunc, zv 0, zv 0, .nilFunc]) (vs := [.slice a 5 c, fnV 227, zv 1, zv 1000000, fnV 265]) rfl rfl rfl (by intro v hv; simp only [List.mem_cons, List.not_mem_nil, or_false] at hv; rcases hv with rfl | rfl | rfl | rfl | rfl <;> rfl) rplA rfl ?_)
    refine hwXE ?_
    exact HX.retc2 (cs := [.slice a 5 c, fnV 227, zv 1, zv 1000000, fnV 265]) rfl rfl rfl memA rfl fun w' hM => ⟨(a, c), trivial, rfl, hM.sub (by repeat (first | exact Hs.nil _ | (refine Hs.cons pickA ?_)))⟩
  · refine hwXE ?_
    refine HL.one (H1.alloc (cs := [.slice none 0 0, .nilFunc, zv 0, zv 0, .nilFunc]) rfl rfl (fun b2 => ?_))
    refine hwXE ?_
    refine HL.build (cs := [.nilFunc, zv 0, zv 0]) rfl rfl rfl ?_
    refine hwXE ?_
    refine HL.one (H1.lit (cs := fcl (specF 2)) rfl rfl rfl rfl rfl rfl (fun b3 => ?_))
    apply HL.fold
    refine HL.blkGrow (cs := fcl (specF 2)) (n := 8) (sz := 3) rfl (by decide) ?_
    refine hwXE ?_
    refine HL.build (cs := [.slice (some ⟨b3, 0, none⟩) 8 8, fnV 217, zv 1, zv 1000000, fnV 225]) rfl rfl rfl ?_
    refine hwXE ?_
    refine HL.one (H1.stAgg (cs := [.slice none 0 0, .nilFunc, zv 0, zv 0, .nilFunc]) (vs := [.slice (some ⟨b3, 0, none⟩) 8 8, fnV 217, zv 1, zv 1000000, fnV 225]) rfl rfl rfl (by intro v hv; simp only [List.mem_cons, List.not_mem_nil, or_false] at hv; rcases hv with rfl | rfl | rfl | rfl | rfl <;> rfl) rplA rfl ?_)
    refine hwXE ?_
    exact HX.retc2 (cs := [.slice (some ⟨b3, 0, none⟩) 8 8, fnV 217, zv 1, zv 1000000, fnV 225]) rfl rfl rfl memA rfl fun w' hM => ⟨(some ⟨b3, 0, none⟩, 8), trivial, rfl, hM.sub (by repeat (first | exact Hs.nil _ | (refine Hs.cons pickA ?_)))⟩
  · refine hwXE ?_
    refine HL.one (H1.alloc (cs := [.slice none 0 0, .nilFunc, zv 0, zv 0, .nilFunc]) rfl rfl (fun b2 => ?_))
    refine hwXE ?_
    refine HL.one (H1.lit (cs := fcl [(3, 1, 1000000), (6, 0, 1000000), (9, 1, 1000000)]) rfl rfl rfl rfl rfl rfl (fun b3 => ?_))
    refine hwXE ?_
    refine HL.one (H1.callz1 (vs := [.slice (some ⟨b3, 0, none⟩) 3 3]) rfl rfl (fun w' hM => spanned_fn [(3, 1, 1000000), (6, 0, 1000000), (9, 1, 1000000)] b3 (by decide) w' fun j u hu => (hM.blk (b := b3) memA).cell hu) ?_)
    rintro ⟨a, c⟩ -
    dsimp only
    rw [show fcl baseF ++ fcl [(3, 1, 1000000), (6, 0, 1000000), (9, 1, 1000000)] = fcl (specF 3) from rfl]
    refine hwXE ?_
    refine HL.one (H1.stAgg (cs := [.slice none 0 0, .nilFunc, zv 0, zv 0, .nilFunc]) (vs := [.slice a 6 c, fnV 227, zv 1, zv 1000000, fnV 265]) rfl rfl rfl (by intro v hv; simp only [List.mem_cons, List.not_mem_nil, or_false] at hv; rcases hv with rfl | rfl | rfl | rfl | rfl <;> rfl) rplA rfl ?_)
    refine hwXE ?_
    exact HX.retc2 (cs := [.slice a 6 c, fnV 227, zv 1, zv 1000000, fnV 265]) rfl rfl rfl memA rfl fun w' hM => ⟨(a, c), trivial, rfl, hM.sub (by repeat (first | exact Hs.nil _ | (refine Hs.cons pickA ?_)))⟩
  · refine hwXE ?_
    refine HL.one (H1.alloc (cs := [.slice none 0 0, .nilFunc, zv 0, zv 0, .nilFunc]) rfl rfl (fun b2 => ?_))
    refine hwXE ?_
    refine HL.one (H1.lit (cs := fcl [(3, 1, 1000000)]) rfl rfl rfl rfl rfl rfl (fun b3 => ?_))
    refine hwXE ?_
    refine HL.one (H1.callz1 (vs := [.slice (some ⟨b3, 0, none⟩) 1 1]) rfl rfl (fun w' hM => spanned_fn [(3, 1, 1000000)] b3 (by decide) w' fun j u hu => (hM.blk (b := b3) memA).cell hu) ?_)
    rintro ⟨a, c⟩ -
    dsimp only
    rw [show fcl baseF ++ fcl [(3, 1, 1000000)] = fcl (specF 4) from rfl]
    refine hwXE ?_
    refine HL.one (H1.stAgg (cs := [.slice none 0 0, .nilFunc, zv 0, zv 0, .nilFunc]) (vs := [.slice a 4 c, fnV 227, zv 1, zv 1000000, fnV 265]) rfl rfl rfl (by intro v hv; simp only [List.mem_cons, List.not_mem_nil, or_false] at hv; rcases hv with rfl | rfl | rfl | rfl | rfl <;> rfl) rplA rfl ?_)
    refine hwXE ?_
    exact HX.retc2 (cs := [.slice a 4 c, fnV 227, zv 1, zv 1000000, fnV 265]) rfl rfl rfl memA rfl fun w' hM => ⟨(a, c), trivial, rfl, hM.sub (by repeat (first | exact Hs.nil _ | (refine Hs.cons pickA ?_)))⟩
  · refine hwXE ?_
    refine HL.one (H1.alloc (cs := [.slice none 0 0, .nilFunc, zv 0, zv 0, .nilFunc]) rfl rfl (fun b2 => ?_))
    refine hwXE ?_
    refine HL.one (H1.lit (cs := fcl [(3, 0, 1000000)]) rfl rfl rfl rfl rfl rfl (fun b3 => ?_))
    refine hwXE ?_
    refine HL.one (H1.callz1 (vs := [.slice (some ⟨b3, 0, none⟩) 1 1]) rfl rfl (fun w' hM => spanned_fn [(3, 0, 1000000)] b3 (by decide) w' fun j u hu => (hM.blk (b := b3) memA).cell hu) ?_)
    rintro ⟨a, c⟩ -
    dsimp only
    rw [show fcl baseF ++ fcl [(3, 0, 1000000)] = fcl (specF 5) from rfl]
    refine hwXE ?_
    refine HL.one (H1.stAgg (cs := [.slice none 0 0, .nilFunc, zv 0, zv 0, .nilFunc]) (vs := [.slice a 4 c, fnV 227, zv 1, zv 1000000, fnV 265]) rfl rfl rfl (by intro v hv; simp only [List.mem_cons, List.not_mem_nil, or_false] at hv; rcases hv with rfl | rfl | rfl | rfl | rfl <;> rfl) rplA rfl ?_)
    refine hwXE ?_
    exact HX.retc2 (cs := [.slice a 4 c, fnV 227, zv 1, zv 1000000, fnV 265]) rfl rfl rfl memA rfl fun w' hM => ⟨(a, c), trivial, rfl, hM.sub (by repeat (first | exact Hs.nil _ | (refine Hs.cons pickA ?_)))⟩
  · refine hwXE ?_
    refine HL.one (H1.alloc (cs := [.slice none 0 0, .nilFunc, zv 0, zv 0, .nilFunc]) rfl rfl (fun b2 => ?_))
    refine hwXE ?_
    refine HL.one (H1.lit (cs := fcl (specF 6)) rfl rfl rfl rfl rfl rfl (fun b3 => ?_))
    apply HL.fold
    refine HL.blkGrow (cs := fcl (specF 6)) (n := 2) (sz := 3) rfl (by decide) ?_
    refine hwXE ?_
    refine HL.build (cs := [.slice (some ⟨b3, 0, none⟩) 2 2, fnV 224, zv 1, zv 1000000, fnV 226]) rfl rfl rfl ?_
    refine hwXE ?_
    refine HL.one (H1.stAgg (cs := [.slice none 0 0, .nilFunc, zv 0, zv 0, .nilFunc]) (vs := [.slice (some ⟨b3, 0, none⟩) 2 2, fnV 224, zv 1, zv 1000000, fnV 226]) rfl rfl rfl (by intro v hv; simp only [List.mem_cons, List.not_mem_nil, or_false] at hv; rcases hv with rfl | rfl | rfl | rfl | rfl <;> rfl) rplA rfl ?_)
    refine hwXE ?_
    exact HX.retc2 (cs := [.slice (some ⟨b3, 0, none⟩) 2 2, fnV 224, zv 1, zv 1000000, fnV 226]) rfl rfl rfl memA rfl fun w' hM => ⟨(some ⟨b3, 0, none⟩, 2), trivial, rfl, hM.sub (by repeat (first | exact Hs.nil _ | (refine Hs.cons pickA ?_)))⟩
  · refine hwXE ?_
    refine HL.one (H1.alloc (cs := [.slice none 0 0, .nilFunc, zv 0, zv 0, .nilFunc]) rfl rfl (fun b2 => ?_))
    refine hwXE ?_
    refine HL.build (cs := [fnV 217, zv 0, zv 63]) rfl rfl rfl ?_
    refine hwXE ?_
    refine HL.one (H1.lit (cs := fcl [(3, 1, 1000000), (6, 0, 1000000), (7, 0, 63)]) rfl rfl rfl rfl rfl rfl (fun b3 => ?_))
    refine hwXE ?_
    refine HL.one (H1.callz1 (vs := [.slice (some ⟨b3, 0, none⟩) 3 3]) rfl rfl (fun w' hM => spanned_fn [(3, 1, 1000000), (6, 0, 1000000), (7, 0, 63)] b3 (by decide) w' fun j u hu => (hM.blk (b := b3) memA).cell hu) ?_)
    rintro ⟨a, c⟩ -
    dsimp only
    rw [show fcl baseF ++ fcl [(3, 1, 1000000), (6, 0, 1000000), (7, 0, 63)] = fcl (specF 7) from rfl]
    refine hwXE ?_
    refine HL.one (H1.stAgg (cs := [.slice none 0 0, .nilFunc, zv 0, zv 0, .nilFunc]) (vs := [.slice a 6 c, fnV 227, zv 1, zv 1000000, fnV 265]) rfl rfl rfl (by intro v hv; simp only [List.mem_cons, List.not_mem_nil, or_false] at hv; rcases hv with rfl | rfl | rfl | rfl | rfl <;> rfl) rplA rfl ?_)
    refine hwXE ?_
    exact HX.retc2 (cs := [.slice a 6 c, fnV 227, zv 1, zv 1000000, fnV 265]) rfl rfl rfl memA rfl fun w' hM => ⟨(a, c), trivial, rfl, hM.sub (by repeat (first | exact Hs.nil _ | (refine Hs.cons pickA ?_)))⟩
  · refine hwXE ?_
    refine HL.one (H1.alloc (cs := [.slice none 0 0, .nilFunc, zv 0, zv 0, .nilFunc]) rfl rfl (fun b2 => ?_))
    refine hwXE ?_
    refine HL.one (H1.lit (cs := fcl (specF 8)) rfl rfl rfl rfl rfl rfl (fun b3 => ?_))
    apply HL.fold
    refine HL.blkGrow (cs := fcl (specF 8)) (n := 4) (sz := 3) rfl (by decide) ?_
    refine hwXE ?_
    refine HL.build (cs := [.slice (some ⟨b3, 0, none⟩) 4 4, fnV 227, zv 1, zv 1000000, fnV 226]) rfl rfl rfl ?_
    refine hwXE ?_
    refine HL.one (H1.stAgg (cs := [.slice none 0 0, .nilFunc, zv 0, zv 0, .nilFunc]) (vs := [.slice (some ⟨b3, 0, none⟩) 4 4, fnV 227, zv 1, zv 1000000, fnV 226]) rfl rfl rfl (by intro v hv; simp only [List.mem_cons, List.not_mem_nil, or_false] at hv; rcases hv with rfl | rfl | rfl | rfl | rfl <;> rfl) rplA rfl ?_)
    refine hwXE ?_
    exact HX.retc2 (cs := [.slice (some ⟨b3, 0, none⟩) 4 4, fnV 227, zv 1, zv 1000000, fnV 226]) rfl rfl rfl memA rfl fun w' hM => ⟨(some ⟨b3, 0, none⟩, 4), trivial, rfl, hM.sub (by repeat (first | exact Hs.nil _ | (refine Hs.cons pickA ?_)))⟩
theorem shapeOf_no (k : Int) (hk : ¬ (1 ≤ k ∧ k ≤ 8)) (w : World) :
    Fn Tryz.prog 151 #[zv k] w fun v w' => v = .tuple #[.agg #[.slice none 0 0, .nilFunc, zv 0, zv 0, .nilFunc], .bool false] ∧ Ext w w' := by
  refine enterH (l := [_]) rfl Tryz.ntmps151 rfl ?_
  have h1 : ¬ k = 1 := by omega
  have h2 : ¬ k = 2 := by omega
  have h3 : ¬ k = 3 := by omega
  have h4 : ¬ k = 4 := by omega
  have h5 : ¬ k = 5 := by omega
  have h6 : ¬ k = 6 := by omega
  have h7 : ¬ k = 7 := by omega
  have h8 : ¬ k = 8 := by omega
  refine hwXE ?_
  refine HL.one (H1.alloc (cs := [.slice none 0 0, .nilFunc, zv 0, zv 0, .nilFunc]) rfl rfl (fun b2 => ?_))
  refine hwXE ?_
  refine HL.build (cs := [.slice none 0 0, .nilFunc, zv 0, zv 0, .nilFunc]) rfl rfl rfl ?_
  refine hwXE ?_
  refine HL.one (H1.stAgg (cs := [.slice none 0 0, .nilFunc, zv 0, zv 0, .nilFunc]) (vs := [.slice none 0 0, .nilFunc, zv 0, zv 0, .nilFunc]) rfl rfl rfl (by intro v hv; simp only [List.mem_cons, List.not_mem_nil, or_false] at hv; rcases hv with rfl | rfl | rfl | rfl | rfl <;> rfl) rplA rfl ?_)
  refine hwXE ?_
  exact HX.retc2 (cs := [.slice none 0 0, .nilFunc, zv 0, zv 0, .nilFunc]) rfl rfl rfl memA rfl fun w' hM => ⟨rfl, hM.ext⟩
end Go.Sx
/- Chapter 20: Valid. -/
namespace Go.Sx
open Go Go.Proofs Go.RowKit
section
variable {P : Program} {N : Nat} {ds : List Deferred} {E : Env} {t t' ty : TypeId} {x y : Operand}
theorem run_equalIn_fnil {a b : Array TypeId} {c : Bool} [h : UTy P t (.func a b c)] (w : World) (d : Nat) : (Op.equalIn (d + 1) t .nilFunc .nilFunc).run P w = .ok true w := by
  simp [Op.equalIn, Sem.run_bind, run_underlying h.is, Result.andThen]
theorem run_equalIn_fsome {a b : Array TypeId} {c : Bool} {f : _root_.Go.Fn} {p q : Array Value} [h : UTy P t (.func a b c)] (w : World) (d : Nat) : (Op.equalIn (d + 1) t (.func f p q) .nilFunc).run P w = .ok false w := by
  simp [Op.equalIn, Sem.run_bind, run_underlying h.is, Result.andThen]
theorem POp.fnil1 {a b : Array TypeId} {c : Bool} [h : UTy P t (.func a b c)] (hx : Env.ev E x = some .nilFunc) (hy : Env.ev E y = some .nilFunc) : POp P N ds E (.binOp .eql t x y t') ty (.bool true) :=
  POp.bin hx hy (fun w => by rw [eqGuard_at_nilFunc]; rfl) fun w => by
    have e := run_equalIn_fnil (P := P) (t := t) w 9999
    show ((Op.equalIn (9999 + 1) t .nilFunc .nilFunc) >>= fun r => pure (Value.bool r)).run P w = _
    rw [Sem.run_bind, e]; rfl
theorem POp.fnil0 {a b : Array TypeId} {c : Bool} {f : _root_.Go.Fn} {p q : Array Value} [h : UTy P t (.func a b c)] (hx : Env.ev E x = some (.func f p q)) (hy : Env.ev E y = some .nilFunc) : POp P N ds E (.binOp .eql t x y t') ty (.bool false) :=
  POp.bin hx hy (fun w => by rw [eqGuard_at_func]; rfl) fun w => by
    have e := run_equalIn_fsome (P := P) (t := t) (f := f) (p := p) (q := q) w 9999
    show ((Op.equalIn (9999 + 1) t (.func f p q) .nilFunc) >>= fun r => pure (Value.bool r)).run P w = _
    rw [Sem.run_bind, e]; rfl
end
def Rc.clr (r : Rc) : Nat → Rc
  | 0 => { r with id := 0 }
  | 1 => { r with start := 0 }
  | 2 => { r with stop := 0 }
  | 3 => { r with pack := 0 }
  | 4 => { r with person := 0 }
  | 5 => { r with role := 0 }
  | 6 => { r with purpose := 0 }
  | 7 => { r with clause := 0 }
  | 8 => { r with adm := false }
  | 9 => { r with party := 0 }
  | _ => r
theorem ten {i : Nat} (h : i < 10) : i = 0 ∨ i = 1 ∨ i = 2 ∨ i = 3 ∨ i = 4 ∨ i = 5 ∨ i = 6 ∨ i = 7 ∨ i = 8 ∨ i = 9 := by omega
theorem cells_clr (r : Rc) {i : Nat} (h : i < 10) (h8 : i ≠ 8) : (rcells r).set (fpos i) (zv 0) = rcells (r.clr i) := by
  rcases ten h with rfl | rfl | rfl | rfl | rfl | rfl | rfl | rfl | rfl | rfl <;> first | rfl | exact absurd rfl h8
theorem cells_clr8 (r : Rc) : (rcells r).set 12 (.bool false) = rcells (r.clr 8) := rfl
theorem cells_get (r : Rc) {i : Nat} (h : i < 10) (h8 : i ≠ 8) : (rcells r)[fpos i]? = some (zv (r.get i)) := by
  rcases ten h with rfl | rfl | rfl | rfl | rfl | rfl | rfl | rfl | rfl | rfl <;> first | rfl | exact absurd rfl h8
theorem fpos_lt (i : Nat) : fpos i < 15 := by
  by_cases h : i < 10
  · rcases ten h with rfl | rfl | rfl | rfl | rfl | rfl | rfl | rfl | rfl | rfl <;> decide
  · match i, h with
    | n + 10, _ => exact (by decide : 0 < 15)
    | 0, h => omega
    | 1, h => omega
    | 2, h => omega
    | 3, h => omega
    | 4, h => omega
    | 5, h => omega
    | 6, h => omega
    | 7, h => omega
    | 8, h => omega
    | 9, h => omega
theorem get_clr (r : Rc) {i j : Nat} (hi : i < 10) (hj : j < 10) : (r.clr i).get j = if i = j then 0 else r.get j := by
  rcases ten hi with rfl | rfl | rfl | rfl | rfl | rfl | rfl | rfl | rfl | rfl <;> rcases ten hj with rfl | rfl | rfl | rfl | rfl | rfl | rfl | rfl | rfl | rfl <;> rfl
structure SameHead (r s : Rc) : Prop where
  kind : r.kind = s.kind
  version : r.version = s.version
  day : r.day = s.day
  gone : r.gone = s.gone
  text : r.text = s.text
theorem SameHead.clr {r s : Rc} (h : SameHead r s) (i : Nat) : SameHead (r.clr i) s := by
  obtain ⟨h1, h2, h3, h4, h5⟩ := h
  by_cases hi : i < 10
  · rcases ten hi with rfl | rfl | rfl | rfl | rfl | rfl | rfl | rfl | rfl | rfl <;> exact ⟨h1, h2, h3, h4, h5⟩
  · have e : r.clr i = r := by
      match i, hi with
      | n + 10, _ => rfl
      | 0, h => omega
      | 1, h => omega
      | 2, h => omega
      | 3, h => omega
      | 4, h => omega
      | 5, h => omega
      | 6, h => omega
      | 7, h => omega
      | 8, h => omega
      | 9, h => omega
    rw [e]; exact ⟨h1, h2, h3, h4, h5⟩
theorem RcOk.clr {r : Rc} (h : RcOk r) {i : Nat} (hi : i < 10) : RcOk (r.clr i) := by
  obtain ⟨h1, h2, h3, h4, h5, h6, h7, h8, h9, h10, h11, h12, h13⟩ := h
  have z : i64W 0 := by unfold i64W; omega
  rcases ten hi with rfl | rfl | rfl | rfl | rfl | rfl | rfl | rfl | rfl | rfl <;> constructor <;> assumption
/-- A record without some of its fields. -/
def zr (r : Rc) (l : List (Nat × Int × Int)) : Rc := l.foldl (fun r p => r.clr p.1) r
theorem zr_snoc (r : Rc) (l : List (Nat × Int × Int)) (p : Nat × Int × Int) : zr r (l ++ [p]) = (zr r l).clr p.1 := by unfold zr; rw [List.foldl_append]; rfl
theorem zr_head : ∀ (l : List (Nat × Int × Int)) (r s : Rc), SameHead r s → SameHead (zr r l) s
  | [], _, _, h => h
  | p :: l, _, _, h => zr_head l _ _ (h.clr p.1)
theorem zr_ok : ∀ (l : List (Nat × Int × Int)) (r : Rc), (∀ p ∈ l, p.1 < 10) → RcOk r → RcOk (zr r l)
  | [], _, _, h => h
  | p :: l, _, hl, h => zr_ok l _ (fun q hq => hl q (List.mem_cons_of_mem _ hq)) (h.clr (hl p (List.mem_cons_self ..)))
theorem zr_get : ∀ (l : List (Nat × Int × Int)) (r : Rc), (∀ p ∈ l, p.1 < 10) → ∀ j, j < 10 → (zr r l).get j = if j ∈ l.map Prod.fst then 0 else r.get j
  | [], _, _, _, _ => rfl
  | p :: l, r, hl, j, hj => by
    show (zr (r.clr p.1) l).get j = _
    rw [zr_get l (r.clr p.1) (fun q hq => hl q (List.mem_cons_of_mem _ hq)) j hj, get_clr r (hl p (List.mem_cons_self ..)) hj]
    by_cases h1 : j ∈ l.map Prod.fst
    · rw [if_pos h1, if_pos (by rw [List.map_cons]; exact List.mem_cons_of_mem _ h1)]
    · rw [if_neg h1]
      by_cases h2 : p.1 = j
      · rw [if_pos h2, if_pos (by rw [List.map_cons, h2]; exact List.mem_cons_self ..)]
      · rw [if_neg h2, if_neg (by rw [List.map_cons, List.mem_cons]; rintro (h | h); exact h2 h.symm; exact h1 h)]
theorem spec_nodup (k : Int) : ((specF k).map Prod.fst).Nodup := by
  unfold specF
  repeat' split
  all_goals decide
theorem spec_len (k : Int) : (specF k).length ≤ 8 := by
  unfold specF
  repeat' split
  all_goals decide
theorem spec_pos {k : Int} (h : 1 ≤ k ∧ k ≤ 8) : 0 < (specF k).length := by
  rcases (show k = 1 ∨ k = 2 ∨ k = 3 ∨ k = 4 ∨ k = 5 ∨ k = 6 ∨ k = 7 ∨ k = 8 by omega) with rfl | rfl | rfl | rfl | rfl | rfl | rfl | rfl <;> decide
theorem spec8 {k : Int} {p : Nat × Int × Int} (h : p ∈ specF k) (h8 : p.1 = 8) : p.2.1 = 0 ∧ p.2.2 = 1 := by
  unfold specF at h
  repeat' split at h
  all_goals (simp only [List.mem_cons, List.not_mem_nil, or_false] at h)
  all_goals (first | (rcases h with rfl | rfl | rfl | rfl | rfl | rfl | rfl | rfl <;> first | (exact absurd h8 (by decide)) | decide) | (rcases h with rfl | rfl | rfl | rfl | rfl | rfl <;> first | (exact absurd h8 (by decide)) | decide) | (rcases h with rfl | rfl | rfl | rfl | rfl <;> first | (exact absurd h8 (by decide)) | decide) | (rcases h with rfl | rfl | rfl | rfl <;> first | (exact absurd h8 (by decide)) | decide) | (rcases h with rfl | rfl <;> first | (exact absurd h8 (by decide)) | decide))
theorem spec_hi {k : Int} {p : Nat × Int × Int} (h : p ∈ specF k) : p.2.2 ≤ 1000000 := by
  unfold specF at h
  repeat' split at h
  all_goals (simp only [List.mem_cons, List.not_mem_nil, or_false] at h)
  all_goals (first | (rcases h with rfl | rfl | rfl | rfl | rfl | rfl | rfl | rfl <;> decide) | (rcases h with rfl | rfl | rfl | rfl | rfl | rfl <;> decide) | (rcases h with rfl | rfl | rfl | rfl | rfl <;> decide) | (rcases h with rfl | rfl | rfl | rfl <;> decide) | (rcases h with rfl | rfl <;> decide))
/-- Its kind, its version, its day, whether it is gone, its text. -/
def headR (r : Rc) : Rc := ⟨r.kind, 0, r.version, r.day, r.gone, 0, 0, 0, 0, 0, 0, 0, false, 0, r.text⟩
theorem head_get (r : Rc) {j : Nat} (h : j < 10) : (headR r).get j = 0 := by
  rcases ten h with rfl | rfl | rfl | rfl | rfl | rfl | rfl | rfl | rfl | rfl <;> rfl
theorem zr_eq_head (r : Rc) : zr r (specF r.kind) = headR r ↔ ∀ i, i < 10 → i ∉ (specF r.kind).map Prod.fst → r.get i = 0 := by
  have hl : ∀ p ∈ specF r.kind, p.1 < 10 := fun p hp => (spec_lo hp).2
  constructor
  · intro h i hi hm
    have h1 := zr_get (specF r.kind) r hl i hi
    rw [if_neg hm, h, head_get r hi] at h1
    exact h1.symm
  · intro h
    have hh := zr_head (specF r.kind) r r ⟨rfl, rfl, rfl, rfl, rfl⟩
    refine Rc.ext_get hh.kind hh.version hh.day hh.gone hh.text fun i hi => ?_
    rw [zr_get (specF r.kind) r hl i hi, head_get r hi]
    by_cases hm : i ∈ (specF r.kind).map Prod.fst
    · rw [if_pos hm]
    · rw [if_neg hm]; exact h i hi hm
theorem headR_ok {r : Rc} (h : RcOk r) : RcOk (headR r) := by
  obtain ⟨h1, h2, h3, h4, h5, h6, h7, h8, h9, h10, h11, h12, h13⟩ := h
  have z : i64W 0 := by unfold i64W; omega
  constructor <;> assumption
noncomputable def validB (r : Rc) : Bool := @decide (ValidR r) (Classical.propDecidable _)
theorem validB_yes {r : Rc} (h : ValidR r) : validB r = true := by unfold validB; exact @decide_eq_true _ (Classical.propDecidable _) h
theorem validB_no {r : Rc} (h : ¬ ValidR r) : validB r = false := by unfold validB; exact @decide_eq_false _ (Classical.propDecidable _) h
theorem validB_iff {r : Rc} : validB r = true ↔ ValidR r := by unfold validB; exact @decide_eq_true_iff _ (Classical.propDecidable _)
theorem rcells_one (r : Rc) : ∀ v ∈ rcells r, v.oneCell' = true := by
  unfold rcells
  intro v hv
  simp only [List.mem_cons, List.not_mem_nil, or_false] at hv
  rcases hv with rfl | rfl | rfl | rfl | rfl | rfl | rfl | rfl | rfl | rfl | rfl | rfl | rfl | rfl | rfl <;> rfl
theorem fcl_get {l : List (Nat × Int × Int)} : ∀ {j : Nat} {p : Nat × Int × Int}, l[j]? = some p → ∀ (i : Nat) (v : Value), (fcells p)[i]? = some v → (fcl l)[j * 3 + i]? = some v := by
  induction l with
  | nil => intro j p h; simp at h
  | cons q l ih =>
    intro j p h i v hv
    have e : fcl (q :: l) = fcells q ++ fcl l := rfl
    rw [e]
    cases j with
    | zero =>
      simp only [List.getElem?_cons_zero, Option.some.injEq] at h
      subst h
      rw [Nat.zero_mul, Nat.zero_add, List.getElem?_append_left (by rw [fcells_len]; have := (List.getElem?_eq_some_iff.1 hv).1; rwa [fcells_len] at this)]
      exact hv
    | succ j =>
      rw [List.getElem?_cons_succ] at h
      have h1 := ih h i v hv
      rw [List.getElem?_append_right (by rw [fcells_len]; omega), fcells_len, show (j + 1) * 3 + i - 3 = j * 3 + i by omega]
      exact h1
def rcZ : Rc := ⟨0, 0, 0, 0, false, 0, 0, 0, 0, 0, 0, 0, false, 0, ByteArray.mk #[]⟩
end Go.Sx
/- Chapter 20: Valid is ValidR. -/
namespace Go.Sx
open Go Go.Proofs Go.RowKit
theorem hwXG {G G2 : Prop} (x : G2) (hwq : Hold G2 → G := by
    intro hQq
    repeat' (first | refine HL.pa ?_ (POp.fnil0 rfl rfl) | refine HL.pa ?_ (POp.fnil1 rfl rfl) | refine HL.pa ?_ (POp.nilCheck rfl) | apply HL.fold | apply HA.fold | apply HL.nil | apply HX.n_then | apply HC.seq | apply HC.region | refine HL.pa ?_ | refine HL.ga rfl ?_ | refine HL.na rfl ?_ | refine HL.nu rfl rfl ?_ | apply HC.block | apply HC.skip | apply HC.exit | apply HC.ret | apply HX.e_block | refine HX.e_other rfl ?_ | apply HX.e_then | apply HX.e_again | apply HX.n_block | apply HX.r_then | apply HX.r_block | apply HX.r_again | refine HC.cond_yes rfl ?_ | refine HC.cond_no rfl ?_ | refine HL.one (H1.ldb rfl memA rfl rfl ?_) | refine HC.cond rfl (fun hc => ?_) (fun hc => ?_) | refine HC.cond_b rfl (fun hc => ?_) (fun hc => ?_))
    exact hQq.get) : G := hwq ⟨x⟩
instance utyFn : UTy Tryz.prog 223 (.func #[231] #[230] false) := ⟨by kernel_rfl⟩
theorem call1 {P : Program} {f : FuncId} {v u : Value} {w : World} (h : Fn P f #[v] w fun x w' => x = u ∧ Ext w w') : Fn P f ([v] ++ ([] : List Value)).toArray w fun x w' => x = u ∧ Ext w w' := h
theorem call1w {P : Program} {f : FuncId} {v u : Value} {w : World} (h : Fn P f #[v] w fun x w' => x = u ∧ w = w') : Fn P f ([v] ++ ([] : List Value)).toArray w fun x w' => x = u ∧ Ext w w' := h.mono fun _ _ ⟨h1, h2⟩ => ⟨h1, h2 ▸ Ext.refl _⟩
attribute [local irreducible] WC WL WX POp Then Again Fn NX W1 WA WO QL RP RA Yld LoopAt HC HL HX HN H1 HA HO HQ HB HP A.blk A.grow A.rd A.obj A.mp AgainH CutH
attribute [local irreducible] specF zr
set_option maxHeartbeats 4000000 in
theorem valid_fn (r : Rc) (hr : RcOk r) (w : World) : Fn Tryz.prog 75 #[recV r] w fun v w' => v = .bool (validB r) ∧ Ext w w' := by
  refine enterH (l := [_]) rfl Tryz.ntmps75 rfl ?_
  refine hwXG ?_
  refine HL.one (H1.boxAgg (cs := rcells r) rfl rfl (fun b1 => ?_))
  refine hwXG ?_
  by_cases hk : 1 ≤ r.kind ∧ r.kind ≤ 8
  rotate_left
  · refine HL.one (H1.callx (vs := [zv r.kind]) rfl rfl (fun w' _ => shapeOf_no r.kind hk w') ?_)
    refine hwXG ?_
    refine HL.one (H1.alloc (cs := [.slice none 0 0, .nilFunc, zv 0, zv 0, .nilFunc]) rfl rfl (fun b3 => ?_))
    refine hwXG ?_
    refine HL.one (H1.stAgg (cs := [.slice none 0 0, .nilFunc, zv 0, zv 0, .nilFunc]) (vs := [.slice none 0 0, .nilFunc, zv 0, zv 0, .nilFunc]) rfl rfl rfl (by intro v hv; simp only [List.mem_cons, List.not_mem_nil, or_false] at hv; rcases hv with rfl | rfl | rfl | rfl | rfl <;> rfl) rplA rfl ?_)
    refine hwXG ?_
    exact HX.ret1 rfl rfl fun w' hM => ⟨by rw [validB_no fun h => hk h.kind], hM.ext⟩
  refine HL.one (H1.callz1 (vs := [zv r.kind]) rfl rfl (fun w' _ => shapeOf_fn r.kind hk w') ?_)
  rintro ⟨a, c⟩ -
  have hlen := spec_len r.kind
  have hpos := spec_pos hk
  refine hwXG ?_
  refine HL.openg (e := 225) (a := a) (xs := fcl (specF r.kind)) memA (by omega) ?_
  rintro bz rfl
  refine HL.one (H1.alloc (cs := [.slice none 0 0, .nilFunc, zv 0, zv 0, .nilFunc]) rfl rfl (fun b3 => ?_))
  refine hwXG ?_
  refine HL.one (H1.stAgg (cs := [.slice none 0 0, .nilFunc, zv 0, zv 0, .nilFunc]) (vs := shapeC (some ⟨bz, 0, none⟩, c) r.kind) rfl rfl rfl (by unfold shapeC; intro v hv; simp only [List.mem_cons, List.not_mem_nil, or_false] at hv; rcases hv with rfl | rfl | rfl | rfl | rfl <;> rfl) rplA rfl ?_)
  simp only [shapeC]
  by_cases c1 : r.version < 1
  · refine hwXG ?_
    exact HX.ret1 rfl rfl fun w' hM => ⟨by rw [validB_no fun h => by have := h.ver; omega], hM.ext⟩
  by_cases c2 : 1000000 < r.version
  · refine hwXG ?_
    exact HX.ret1 rfl rfl fun w' hM => ⟨by rw [validB_no fun h => by have := h.ver; omega], hM.ext⟩
  by_cases c3 : r.day < 0
  · refine hwXG ?_
    exact HX.ret1 rfl rfl fun w' hM => ⟨by rw [validB_no fun h => by have := h.day; omega], hM.ext⟩
  by_cases c4 : 100000 < r.day
  · refine hwXG ?_
    exact HX.ret1 rfl rfl fun w' hM => ⟨by rw [validB_no fun h => by have := h.day; omega], hM.ext⟩
  by_cases c5 : (200 : Int) < r.text.size
  · refine hwXG ?_
    exact HX.ret1 rfl rfl fun w' hM => ⟨by rw [validB_no fun h => by have := h.text; omega], hM.ext⟩
  have hro := rest_ok r
  obtain ⟨ho, hrest⟩ := hro
  refine hwXG ?_
  refine HL.one (H1.ldAgg (vs := rcells r) rfl memA rfl (fun i v hv => by rw [Nat.zero_add]; exact hv) rfl ?_)
  refine hwXG ?_
  refine HL.one (H1.callv0 (hf := ho) (f := rid r.kind) (cap := []) (vs := [recV r]) rfl rfl rfl (fun w' _ => call1 (hrest w')) ?_)
  by_cases c6 : restP r
  rotate_left
  · rw [decide_eq_false c6]
    refine hwXG ?_
    exact HX.ret1 rfl rfl fun w' hM => ⟨by rw [validB_no fun h => c6 h.rest], hM.ext⟩
  rw [decide_eq_true c6]
  refine hwXG ?_
  refine HL.one (H1.ldAgg (vs := rcells r) rfl memA rfl (fun i v hv => by rw [Nat.zero_add]; exact hv) rfl ?_)
  refine hwXG ?_
  refine HL.one (H1.alloc (cs := rcells rcZ) rfl rfl (fun b5 => ?_))
  refine hwXG ?_
  refine HL.one (H1.stAgg (cs := rcells rcZ) (vs := rcells r) rfl rfl rfl (rcells_one r) rplA rfl ?_)
  refine hwXG ?_
  obtain ⟨L, hL⟩ : ∃ L, L = specF r.kind := ⟨_, rfl⟩
  have hl10 : ∀ p ∈ L, p.1 < 10 := fun p hp => (spec_lo (hL ▸ hp)).2
  have hnd : (L.map Prod.fst).Nodup := by rw [hL]; exact spec_nodup r.kind
  have hl8 : ∀ p ∈ L, p.1 = 8 → p.2.1 = 0 ∧ p.2.2 = 1 := fun p hp => spec8 (hL ▸ hp)
  have hhi : ∀ p ∈ L, p.2.2 ≤ 1000000 ∧ 0 ≤ p.2.1 := fun p hp => ⟨spec_hi (hL ▸ hp), (spec_lo (hL ▸ hp)).1⟩
  rw [← hL] at hlen hpos ⊢
  refine HC.loop (α := Nat) (fun j => [(1, .pointer (some ⟨b1, 0, none⟩)), (5, .pointer (some ⟨b5, 0, none⟩)), (52, .slice (some ⟨bz, 0, none⟩) L.length c), (53, zv (L.length : Int)), (54, zv (j : Int))])
    (fun j => [A.blk b5 (rcells (zr r (L.take j))) 36, A.grow 225 3 (some ⟨bz, 0, none⟩) c L.length (fcl L), A.blk b1 (rcells r) 36]) (fun j => j ≤ L.length ∧ ∀ p ∈ L.take j, p.2.1 ≤ r.get p.1 ∧ r.get p.1 ≤ p.2.2) (fun j => L.length - j) 0 ⟨Nat.zero_le _, fun p hp => by rw [List.take_zero] at hp; cases hp⟩ esA (Hs.blk (by rw [List.take_zero, zr]; rfl) (by repeat (first | exact Hs.nil _ | (refine Hs.cons pickA ?_)))) ?_
  rintro j ⟨hj, hI⟩
  by_cases hlt : j < L.length
  · obtain ⟨p, hp⟩ : ∃ p, L[j]? = some p := ⟨_, List.getElem?_eq_getElem hlt⟩
    have hpm := List.mem_of_getElem? hp
    have htk : L.take (j + 1) = L.take j ++ [p] := by rw [List.take_add_one, hp]; rfl
    have hp10 := hl10 p hpm
    have hz := zr_snoc r (L.take j) p
    rw [← htk] at hz
    have hnot : p.1 ∉ (L.take j).map Prod.fst := by
      have h1 : (L.map Prod.fst)[j]? = some p.1 := by rw [List.getElem?_map, hp]; rfl
      intro hm
      rw [List.map_take] at hm
      obtain ⟨i, hi, e⟩ := List.getElem_of_mem hm
      rw [List.length_take] at hi
      have h2 : (L.map Prod.fst)[i]? = some p.1 := by
        rw [List.getElem?_eq_getElem (by omega)]
        rw [List.getElem_take] at e
        rw [e]
      have := (List.getElem?_inj (by omega) hnd).1 (h2.trans h1.symm)
      omega
    have hget : (zr r (L.take j)).get p.1 = r.get p.1 := by
      rw [zr_get (L.take j) r (fun q hq => hl10 q (List.mem_of_mem_take hq)) p.1 hp10, if_neg hnot]
    have hI2 : p.2.1 ≤ r.get p.1 ∧ r.get p.1 ≤ p.2.2 → ∀ q ∈ L.take (j + 1), q.2.1 ≤ r.get q.1 ∧ r.get q.1 ≤ q.2.2 := fun h q hq => by
      rw [htk] at hq
      rcases List.mem_append.1 hq with hq | hq
      · exact hI q hq
      · obtain rfl := List.mem_singleton.1 hq; exact h
    have hno : ¬ (p.2.1 ≤ r.get p.1 ∧ r.get p.1 ≤ p.2.2) → validB r = false := fun h => validB_no fun hv => h (hv.lim p (hL ▸ hpm))
    have hfg := fcl_get hp
    have h8 := hl8 p hpm
    have hb := hhi p hpm
    obtain ⟨i, lo, hi⟩ := p
    dsimp only at hp10 hz hnot hget hI2 hno h8 hb
    refine hwXG ?_
    by_cases e8 : i = 8
    · subst e8
      obtain ⟨rfl, rfl⟩ := h8 rfl
      refine HL.one (H1.ldAggw (vs := [.nilFunc, zv 0, zv 0]) rfl rfl (fun w' hM i v hv => ownsRow_cell (hM.own memA) (hfg i v hv)) rfl ?_)
      refine hwXG ?_
      refine HL.one (H1.alloc (cs := [.nilFunc, zv 0, zv 0]) rfl rfl (fun b7 => ?_))
      refine hwXG ?_
      refine HL.one (H1.stAgg (cs := [.nilFunc, zv 0, zv 0]) (vs := [.nilFunc, zv 0, zv 0]) rfl rfl rfl (by intro v hv; simp only [List.mem_cons, List.not_mem_nil, or_false] at hv; rcases hv with rfl | rfl | rfl <;> rfl) rplA rfl ?_)
      refine hwXG ?_
      refine HL.one (H1.st rfl rfl (by intro _ h; cases h) (by intro _ h; cases h) rplA (by show 12 < 15; decide) ?_)
      refine hwXG ?_
      have h12 : (rcells (zr r (L.take j))).set (0 + 12) (.bool false) = rcells (zr r (L.take (j + 1))) := by rw [hz]; exact cells_clr8 _
      rw [h12]
      refine hwXG ?_
      exact HX.again (j + 1) ⟨hlt, hI2 (by show (0 : Int) ≤ b01 r.adm ∧ b01 r.adm ≤ 1; cases r.adm <;> decide)⟩ (by omega) esA (by repeat (first | exact Hs.nil _ | (refine Hs.cons pickA ?_)))
    · have hfc : fcells (i, lo, hi) = [fnV (fid i), zv lo, zv hi] := if_neg e8
      rw [hfc] at hfg
      obtain ⟨go, hgf⟩ := getter_ok hp10 e8
      have hcell := cells_get (zr r (L.take j)) hp10 e8
      rw [hget] at hcell
      have hset := cells_clr (zr r (L.take j)) hp10 e8
      rw [← hz] at hset
      refine HL.one (H1.ldAggw (vs := [fnV (fid i), zv lo, zv hi]) rfl rfl (fun w' hM i v hv => ownsRow_cell (hM.own memA) (hfg i v hv)) rfl ?_)
      refine hwXG ?_
      refine HL.one (H1.alloc (cs := [.nilFunc, zv 0, zv 0]) rfl rfl (fun b7 => ?_))
      refine hwXG ?_
      refine HL.one (H1.stAgg (cs := [.nilFunc, zv 0, zv 0]) (vs := [fnV (fid i), zv lo, zv hi]) rfl rfl rfl (by intro v hv; simp only [List.mem_cons, List.not_mem_nil, or_false] at hv; rcases hv with rfl | rfl | rfl <;> rfl) rplA rfl ?_)
      refine hwXG ?_
      refine HL.one (H1.callv0 (hf := go) (f := fid i) (cap := []) (vs := [.pointer (some ⟨b5, 0, none⟩)]) rfl rfl rfl (fun w' _ => call1w (hgf b5 w')) ?_)
      generalize r.get i = x at *
      refine hwXG ?_
      by_cases d1 : x < lo
      · refine HC.any rfl ?_
        refine HA.pa 0 rfl ?_
        refine HA.pa 1 rfl ?_ (POp.nilCheck rfl)
        refine HA.pa 3 rfl ?_
        refine HA.all [2, 4] (by kernel_rfl) rfl ⟨⟨_, rfl, ?_⟩, ⟨_, rfl, ?_⟩, trivial⟩
        · refine HO.one ?_
          refine H1.ldb (v := zv x) rfl memA hcell rfl ?_
          apply HA.fold
          refine HA.all [4] (by kernel_rfl) rfl ⟨⟨_, rfl, ?_⟩, trivial⟩
          refine HO.one ?_
          refine H1.ldb (v := zv lo) rfl memA rfl rfl ?_
          apply HA.fold
          refine HA.pa 5 rfl ?_
          refine HA.pa 6 rfl ?_
          first | refine HA.ga 7 rfl rfl ?_ | refine HA.na 7 rfl rfl ?_ | refine HA.nu 7 rfl rfl ?_
          first | refine HA.ga 8 rfl rfl ?_ | refine HA.na 8 rfl rfl ?_ | refine HA.nu 8 rfl rfl ?_
          first | refine HA.ga 9 rfl rfl ?_ | refine HA.na 9 rfl rfl ?_ | refine HA.nu 9 rfl rfl ?_
          first | refine HA.ga 10 rfl rfl ?_ | refine HA.na 10 rfl rfl ?_ | refine HA.nu 10 rfl rfl ?_
          first | refine HA.ga 11 rfl rfl ?_ | refine HA.na 11 rfl rfl ?_ | refine HA.nu 11 rfl rfl ?_
          first | refine HA.ga 12 rfl rfl ?_ | refine HA.na 12 rfl rfl ?_ | refine HA.nu 12 rfl rfl ?_
          refine HA.pa 13 rfl ?_
          refine HA.done (by kernel_rfl) ?_
          refine hwXG ?_
          exact HX.ret1 rfl rfl fun w' hM => ⟨by rw [hno (by omega)], hM.ext⟩
        · refine HO.one ?_
          refine H1.ldb (v := zv lo) rfl memA rfl rfl ?_
          apply HA.fold
          refine HA.all [2] (by kernel_rfl) rfl ⟨⟨_, rfl, ?_⟩, trivial⟩
          refine HO.one ?_
          refine H1.ldb (v := zv x) rfl memA hcell rfl ?_
          apply HA.fold
          refine HA.pa 5 rfl ?_
          refine HA.pa 6 rfl ?_
          first | refine HA.ga 7 rfl rfl ?_ | refine HA.na 7 rfl rfl ?_ | refine HA.nu 7 rfl rfl ?_
          first | refine HA.ga 8 rfl rfl ?_ | refine HA.na 8 rfl rfl ?_ | refine HA.nu 8 rfl rfl ?_
          first | refine HA.ga 9 rfl rfl ?_ | refine HA.na 9 rfl rfl ?_ | refine HA.nu 9 rfl rfl ?_
          first | refine HA.ga 10 rfl rfl ?_ | refine HA.na 10 rfl rfl ?_ | refine HA.nu 10 rfl rfl ?_
          first | refine HA.ga 11 rfl rfl ?_ | refine HA.na 11 rfl rfl ?_ | refine HA.nu 11 rfl rfl ?_
          first | refine HA.ga 12 rfl rfl ?_ | refine HA.na 12 rfl rfl ?_ | refine HA.nu 12 rfl rfl ?_
          refine HA.pa 13 rfl ?_
          refine HA.done (by kernel_rfl) ?_
          refine hwXG ?_
          exact HX.ret1 rfl rfl fun w' hM => ⟨by rw [hno (by omega)], hM.ext⟩
      by_cases d2 : hi < x
      · refine HC.any rfl ?_
        refine HA.pa 0 rfl ?_
        refine HA.pa 1 rfl ?_ (POp.nilCheck rfl)
        refine HA.pa 3 rfl ?_
        refine HA.all [2, 4] (by kernel_rfl) rfl ⟨⟨_, rfl, ?_⟩, ⟨_, rfl, ?_⟩, trivial⟩
        · refine HO.one ?_
          refine H1.ldb (v := zv x) rfl memA hcell rfl ?_
          apply HA.fold
          refine HA.all [4] (by kernel_rfl) rfl ⟨⟨_, rfl, ?_⟩, trivial⟩
          refine HO.one ?_
          refine H1.ldb (v := zv lo) rfl memA rfl rfl ?_
          apply HA.fold
          refine HA.pa 5 rfl ?_
          refine HA.pa 6 rfl ?_
          first | refine HA.ga 7 rfl rfl ?_ | refine HA.na 7 rfl rfl ?_ | refine HA.nu 7 rfl rfl ?_
          refine HA.ga (hp := POp.nilCheck rfl) 8 rfl rfl ?_
          first | refine HA.ga 10 rfl rfl ?_ | refine HA.na 10 rfl rfl ?_ | refine HA.nu 10 rfl rfl ?_
          refine HA.all [9, 11] (by kernel_rfl) rfl ⟨⟨_, rfl, ?_⟩, ⟨_, rfl, ?_⟩, trivial⟩
          · refine HO.one_a rfl ?_
            refine H1.ldb (v := zv x) rfl memA hcell rfl ?_
            apply HA.fold
            refine HA.all [11] (by kernel_rfl) rfl ⟨⟨_, rfl, ?_⟩, trivial⟩
            refine HO.one_a rfl ?_
            refine H1.ldb (v := zv hi) rfl memA rfl rfl ?_
            apply HA.fold
            first | refine HA.ga 12 rfl rfl ?_ | refine HA.na 12 rfl rfl ?_ | refine HA.nu 12 rfl rfl ?_
            refine HA.pa 13 rfl ?_
            refine HA.done (by kernel_rfl) ?_
            refine hwXG ?_
            exact HX.ret1 rfl rfl fun w' hM => ⟨by rw [hno (by omega)], hM.ext⟩
          · refine HO.one_a rfl ?_
            refine H1.ldb (v := zv hi) rfl memA rfl rfl ?_
            apply HA.fold
            refine HA.all [9] (by kernel_rfl) rfl ⟨⟨_, rfl, ?_⟩, trivial⟩
            refine HO.one_a rfl ?_
            refine H1.ldb (v := zv x) rfl memA hcell rfl ?_
            apply HA.fold
            first | refine HA.ga 12 rfl rfl ?_ | refine HA.na 12 rfl rfl ?_ | refine HA.nu 12 rfl rfl ?_
            refine HA.pa 13 rfl ?_
            refine HA.done (by kernel_rfl) ?_
            refine hwXG ?_
            exact HX.ret1 rfl rfl fun w' hM => ⟨by rw [hno (by omega)], hM.ext⟩
        · refine HO.one ?_
          refine H1.ldb (v := zv lo) rfl memA rfl rfl ?_
          apply HA.fold
          refine HA.all [2] (by kernel_rfl) rfl ⟨⟨_, rfl, ?_⟩, trivial⟩
          refine HO.one ?_
          refine H1.ldb (v := zv x) rfl memA hcell rfl ?_
          apply HA.fold
          refine HA.pa 5 rfl ?_
          refine HA.pa 6 rfl ?_
          first | refine HA.ga 7 rfl rfl ?_ | refine HA.na 7 rfl rfl ?_ | refine HA.nu 7 rfl rfl ?_
          refine HA.ga (hp := POp.nilCheck rfl) 8 rfl rfl ?_
          first | refine HA.ga 10 rfl rfl ?_ | refine HA.na 10 rfl rfl ?_ | refine HA.nu 10 rfl rfl ?_
          refine HA.all [9, 11] (by kernel_rfl) rfl ⟨⟨_, rfl, ?_⟩, ⟨_, rfl, ?_⟩, trivial⟩
          · refine HO.one_a rfl ?_
            refine H1.ldb (v := zv x) rfl memA hcell rfl ?_
            apply HA.fold
            refine HA.all [11] (by kernel_rfl) rfl ⟨⟨_, rfl, ?_⟩, trivial⟩
            refine HO.one_a rfl ?_
            refine H1.ldb (v := zv hi) rfl memA rfl rfl ?_
            apply HA.fold
            first | refine HA.ga 12 rfl rfl ?_ | refine HA.na 12 rfl rfl ?_ | refine HA.nu 12 rfl rfl ?_
            refine HA.pa 13 rfl ?_
            refine HA.done (by kernel_rfl) ?_
            refine hwXG ?_
            exact HX.ret1 rfl rfl fun w' hM => ⟨by rw [hno (by omega)], hM.ext⟩
          · refine HO.one_a rfl ?_
            refine H1.ldb (v := zv hi) rfl memA rfl rfl ?_
            apply HA.fold
            refine HA.all [9] (by kernel_rfl) rfl ⟨⟨_, rfl, ?_⟩, trivial⟩
            refine HO.one_a rfl ?_
            refine H1.ldb (v := zv x) rfl memA hcell rfl ?_
            apply HA.fold
            first | refine HA.ga 12 rfl rfl ?_ | refine HA.na 12 rfl rfl ?_ | refine HA.nu 12 rfl rfl ?_
            refine HA.pa 13 rfl ?_
            refine HA.done (by kernel_rfl) ?_
            refine hwXG ?_
            exact HX.ret1 rfl rfl fun w' hM => ⟨by rw [hno (by omega)], hM.ext⟩
      refine HC.any rfl ?_
      refine HA.pa 0 rfl ?_
      refine HA.pa 1 rfl ?_ (POp.nilCheck rfl)
      refine HA.pa 3 rfl ?_
      refine HA.all [2, 4] (by kernel_rfl) rfl ⟨⟨_, rfl, ?_⟩, ⟨_, rfl, ?_⟩, trivial⟩
      · refine HO.one ?_
        refine H1.ldb (v := zv x) rfl memA hcell rfl ?_
        apply HA.fold
        refine HA.all [4] (by kernel_rfl) rfl ⟨⟨_, rfl, ?_⟩, trivial⟩
        refine HO.one ?_
        refine H1.ldb (v := zv lo) rfl memA rfl rfl ?_
        apply HA.fold
        refine HA.pa 5 rfl ?_
        refine HA.pa 6 rfl ?_
        first | refine HA.ga 7 rfl rfl ?_ | refine HA.na 7 rfl rfl ?_ | refine HA.nu 7 rfl rfl ?_
        refine HA.ga (hp := POp.nilCheck rfl) 8 rfl rfl ?_
        first | refine HA.ga 10 rfl rfl ?_ | refine HA.na 10 rfl rfl ?_ | refine HA.nu 10 rfl rfl ?_
        refine HA.all [9, 11] (by kernel_rfl) rfl ⟨⟨_, rfl, ?_⟩, ⟨_, rfl, ?_⟩, trivial⟩
        · refine HO.one_a rfl ?_
          refine H1.ldb (v := zv x) rfl memA hcell rfl ?_
          apply HA.fold
          refine HA.all [11] (by kernel_rfl) rfl ⟨⟨_, rfl, ?_⟩, trivial⟩
          refine HO.one_a rfl ?_
          refine H1.ldb (v := zv hi) rfl memA rfl rfl ?_
          apply HA.fold
          first | refine HA.ga 12 rfl rfl ?_ | refine HA.na 12 rfl rfl ?_ | refine HA.nu 12 rfl rfl ?_
          refine HA.pa 13 rfl ?_
          refine HA.done (by kernel_rfl) ?_
          refine hwXG ?_
          refine HL.one (H1.st rfl rfl (by intro _ h; cases h) (by intro _ h; cases h) rplA (by exact fpos_lt i) ?_)
          rw [hset]
          refine hwXG ?_
          exact HX.again (j + 1) ⟨hlt, hI2 (by omega)⟩ (by omega) esA (by repeat (first | exact Hs.nil _ | (refine Hs.cons pickA ?_)))
        · refine HO.one_a rfl ?_
          refine H1.ldb (v := zv hi) rfl memA rfl rfl ?_
          apply HA.fold
          refine HA.all [9] (by kernel_rfl) rfl ⟨⟨_, rfl, ?_⟩, trivial⟩
          refine HO.one_a rfl ?_
          refine H1.ldb (v := zv x) rfl memA hcell rfl ?_
          apply HA.fold
          first | refine HA.ga 12 rfl rfl ?_ | refine HA.na 12 rfl rfl ?_ | refine HA.nu 12 rfl rfl ?_
          refine HA.pa 13 rfl ?_
          refine HA.done (by kernel_rfl) ?_
          refine hwXG ?_
          refine HL.one (H1.st rfl rfl (by intro _ h; cases h) (by intro _ h; cases h) rplA (by exact fpos_lt i) ?_)
          rw [hset]
          refine hwXG ?_
          exact HX.again (j + 1) ⟨hlt, hI2 (by omega)⟩ (by omega) esA (by repeat (first | exact Hs.nil _ | (refine Hs.cons pickA ?_)))
      · refine HO.one ?_
        refine H1.ldb (v := zv lo) rfl memA rfl rfl ?_
        apply HA.fold
        refine HA.all [2] (by kernel_rfl) rfl ⟨⟨_, rfl, ?_⟩, trivial⟩
        refine HO.one ?_
        refine H1.ldb (v := zv x) rfl memA hcell rfl ?_
        apply HA.fold
        refine HA.pa 5 rfl ?_
        refine HA.pa 6 rfl ?_
        first | refine HA.ga 7 rfl rfl ?_ | refine HA.na 7 rfl rfl ?_ | refine HA.nu 7 rfl rfl ?_
        refine HA.ga (hp := POp.nilCheck rfl) 8 rfl rfl ?_
        first | refine HA.ga 10 rfl rfl ?_ | refine HA.na 10 rfl rfl ?_ | refine HA.nu 10 rfl rfl ?_
        refine HA.all [9, 11] (by kernel_rfl) rfl ⟨⟨_, rfl, ?_⟩, ⟨_, rfl, ?_⟩, trivial⟩
        · refine HO.one_a rfl ?_
          refine H1.ldb (v := zv x) rfl memA hcell rfl ?_
          apply HA.fold
          refine HA.all [11] (by kernel_rfl) rfl ⟨⟨_, rfl, ?_⟩, trivial⟩
          refine HO.one_a rfl ?_
          refine H1.ldb (v := zv hi) rfl memA rfl rfl ?_
          apply HA.fold
          first | refine HA.ga 12 rfl rfl ?_ | refine HA.na 12 rfl rfl ?_ | refine HA.nu 12 rfl rfl ?_
          refine HA.pa 13 rfl ?_
          refine HA.done (by kernel_rfl) ?_
          refine hwXG ?_
          refine HL.one (H1.st rfl rfl (by intro _ h; cases h) (by intro _ h; cases h) rplA (by exact fpos_lt i) ?_)
          rw [hset]
          refine hwXG ?_
          exact HX.again (j + 1) ⟨hlt, hI2 (by omega)⟩ (by omega) esA (by repeat (first | exact Hs.nil _ | (refine Hs.cons pickA ?_)))
        · refine HO.one_a rfl ?_
          refine H1.ldb (v := zv hi) rfl memA rfl rfl ?_
          apply HA.fold
          refine HA.all [9] (by kernel_rfl) rfl ⟨⟨_, rfl, ?_⟩, trivial⟩
          refine HO.one_a rfl ?_
          refine H1.ldb (v := zv x) rfl memA hcell rfl ?_
          apply HA.fold
          first | refine HA.ga 12 rfl rfl ?_ | refine HA.na 12 rfl rfl ?_ | refine HA.nu 12 rfl rfl ?_
          refine HA.pa 13 rfl ?_
          refine HA.done (by kernel_rfl) ?_
          refine hwXG ?_
          refine HL.one (H1.st rfl rfl (by intro _ h; cases h) (by intro _ h; cases h) rplA (by exact fpos_lt i) ?_)
          rw [hset]
          refine hwXG ?_
          exact HX.again (j + 1) ⟨hlt, hI2 (by omega)⟩ (by omega) esA (by repeat (first | exact Hs.nil _ | (refine Hs.cons pickA ?_)))
  obtain rfl : j = L.length := by omega
  rw [List.take_length] at hI ⊢
  have hzk := zr_ok L r hl10 hr
  have hhk := headR_ok hr
  have hzh := zr_eq_head r
  rw [← hL] at hzh
  refine hwXG ?_
  refine HL.one (H1.ldAgg (vs := rcells (zr r L)) rfl memA rfl (fun i v hv => by rw [Nat.zero_add]; exact hv) rfl ?_)
  refine hwXG ?_
  refine HL.build (cs := rcells (headR r)) rfl rfl rfl ?_
  refine HL.pa ?_ (POp.eqRec rfl rfl hzk hhk)
  refine hwXG ?_
  exact HX.ret1 rfl rfl fun w' hM => ⟨congrArg Value.bool (by
    rw [Bool.eq_iff_iff, validB_iff, @decide_eq_true_iff, hzh]
    constructor
    · exact fun h => ⟨hk, ⟨by omega, by omega⟩, ⟨by omega, by omega⟩, by omega, c6, fun p hp => hI p (hL ▸ hp), fun i hi hm => h i hi (hL ▸ hm)⟩
    · exact fun h i hi hm => h.zero i hi (hL ▸ hm)), hM.ext⟩
end Go.Sx
/- Chapter 1: the encoding of a number, by groups of seven bits. -/
namespace Go.Sx
open Go Go.Proofs Go.RowKit
theorem hwXH {G G2 : Prop} (x : G2) (hwq : Hold G2 → G := by
    intro hQq
    repeat' (first | apply HL.fold | apply HA.fold | apply HL.nil | apply HX.n_then | apply HC.seq | apply HC.region | refine HL.pa ?_ | refine HL.ga rfl ?_ | refine HL.na rfl ?_ | refine HL.nu rfl rfl ?_ | apply HC.block | apply HC.skip | apply HC.exit | apply HC.ret | apply HX.e_block | refine HX.e_other rfl ?_ | apply HX.e_then | apply HX.e_again | apply HX.n_block | apply HX.r_then | apply HX.r_block | apply HX.r_again | refine HC.cond_yes rfl ?_ | refine HC.cond_no rfl ?_ | refine HL.one (H1.ldb rfl memA rfl rfl ?_) | refine HC.cond rfl (fun hc => ?_) (fun hc => ?_) | refine HC.cond_b rfl (fun hc => ?_) (fun hc => ?_))
    exact hQq.get) : G := hwq ⟨x⟩
theorem bits_or_u8 (a b : Nat) (ha : a < 256) (hb : b < 256) : bits .or .u8 (a : Int) (b : Int) = ((a ||| b : Nat) : Int) := by
  show IntKind.u8.wrap (((BitVec.ofInt 8 a ||| BitVec.ofInt 8 b).toNat : Nat) : Int) = _
  have h1 : (BitVec.ofInt 8 (a : Int)).toNat = a := by simp; omega
  have h2 : (BitVec.ofInt 8 (b : Int)).toNat = b := by simp; omega
  have h3 : a ||| b < 256 := Nat.or_lt_two_pow (n := 8) ha hb
  rw [BitVec.toNat_or, h1, h2]
  exact wrap_u8 (by omega) (by omega)
theorem POp.or8 {P : Program} {N : Nat} {ds : List Deferred} {E : Env} {t t' ty : TypeId} {x y : Operand} {m n : Int} {a b : Nat} (hx : Env.ev E x = some (.int .u8 m)) (hy : Env.ev E y = some (.int .u8 n)) (em : m = (a : Int)) (en : n = (b : Int)) (h1 : a < 256) (h2 : b < 256) :
    POp P N ds E (.binOp .or t x y t') ty (.int .u8 ((a ||| b : Nat) : Int)) := POp.bin hx hy guard_int fun w => by
  subst em; subst en
  rw [binOp_or, intBits_or, bits_or_u8 a b h1 h2]; rfl
theorem or_128 {a : Nat} (h : a < 128) : a ||| 128 = a + 128 := by
  have e := Nat.two_pow_add_eq_or_of_lt (i := 7) (b := a) (by omega) 1
  rw [show 2 ^ 7 * 1 = 128 from rfl] at e
  rw [Nat.or_comm, ← e]; omega
theorem vint_len : ∀ (n z : Nat), z < 128 ^ (n + 1) → (vint z).length ≤ n + 1
  | 0, z, h => by rw [vint_lt (by omega)]; simp
  | n + 1, z, h => by
    by_cases hz : z < 128
    · rw [vint_lt hz]; simp
    · rw [vint_ge hz, List.length_cons]
      have := vint_len n (z / 128) (by rw [Nat.pow_succ] at h; omega)
      omega
theorem vint_pos (z : Nat) : 0 < (vint z).length := by
  by_cases h : z < 128
  · rw [vint_lt h]; simp
  · rw [vint_ge h]; simp
def ub (l : List UInt8) : List Value := l.map fun b => .int .u8 ((b.toNat : Nat) : Int)
def bytG (b4 : Nat) (ys : List UInt8) (a : Option Addr) (c : Nat) : List Atom := [A.blk b4 [.slice a ys.length c] 148, A.grow 5 1 a c ys.length (ub ys)]
theorem H1.bstrg {P : Program} {r : Option Nat} {N : Nat} {ds : List Deferred} {Q : Post} {E : Env} {w0 : World} {H : List Atom} {next : Act → World → Prop} {g : Option (Nat × Bool)} {d : Nat} {t ty : TypeId} {pos : String} {af : Array Edge} {x : Operand}
    {dst e : TypeId} {b c : Nat} {ys : List UInt8} [h : UTy P t (.slice e)] [he : UTy P e (.int .u8)] [hs : UTy P dst .string] (hx : Env.ev E x = some (.slice (some ⟨b, 0, none⟩) ys.length c)) (hm : A.grow e 1 (some ⟨b, 0, none⟩) c ys.length (ub ys) ∈ H)
    (hd : Nat.blt d N = true) (hn : HN N ds next ((d, .string ⟨ys.toArray⟩) :: E) w0 H) : H1 P r N ds next ⟨some d, .convert t dst x, ty, pos, af, g⟩ Q E w0 H := fun w hM =>
  W1.bytes_string hx rfl (fun j hj => by
    rw [add_lit, Nat.zero_add]
    exact ownsRow_cell (hM.own hm) (by simp [ub, hj])) hd (hn w hM)
attribute [local irreducible] WC WL WX POp Then Again Fn NX W1 WA WO QL RP RA Yld LoopAt HC HL HX HN H1 HA HO HQ HB HP A.blk A.grow A.rd A.obj A.mp AgainH CutH
set_option maxHeartbeats 2000000 in
theorem groups1_fn {w0 : World} {K0 K1 : Atom} {bz b4 l : Nat} (z0 : Nat) (hz0 : z0 < 9223372036854775808)
    (hy : ∀ (z : Nat) (ys : List UInt8) (a : Option Addr) (c : Nat), z < 9223372036854775808 → ys.length ≤ 9 → ∀ w, Mm w0 (K0 :: K1 :: A.blk bz [.int .u64 (z : Int)] 244 :: bytG b4 ys a c) w →
      Yld Tryz.prog l [.int .u8 ((z % 128 : Nat) : Int), .bool (decide (z < 128))] w fun b w' => b = true ∧ ∃ q : Option Addr × Nat, True ∧
        Mm w0 (K0 :: K1 :: A.blk bz [.int .u64 (z : Int)] 244 :: bytG b4 (ys ++ [UInt8.ofNat (if z < 128 then z else z % 128 + 128)]) q.1 q.2) w') :
    ∀ w, Mm w0 (K0 :: K1 :: A.blk bz [.int .u64 (z0 : Int)] 244 :: bytG b4 [] none 0) w →
      Fn Tryz.prog 251 (.func (.yield l) #[] #[] :: [.pointer (some ⟨bz, 0, none⟩)]).toArray w fun _ w' => ∃ q : Nat × Option Addr × Nat, True ∧ Mm w0 (K0 :: K1 :: A.blk bz [.int .u64 (q.1 : Int)] 244 :: bytG b4 (vint z0) q.2.1 q.2.2) w' := by
  intro w hM
  refine enterK (l := [_, _]) hM rfl Tryz.ntmps251 rfl ?_
  refine hwXH ?_
  refine HC.loop (α := Nat × List UInt8 × Option Addr × Nat) (fun z => [(0, .func (.yield l) #[] #[]), (1, .pointer (some ⟨bz, 0, none⟩))]) (fun z => K0 :: K1 :: A.blk bz [.int .u64 (z.1 : Int)] 244 :: bytG b4 z.2.1 z.2.2.1 z.2.2.2)
    (fun z => z.1 < 9223372036854775808 ∧ z.2.1 ++ vint z.1 = vint z0) (fun z => z.1) (z0, [], none, 0) ⟨hz0, rfl⟩ esA (Hs.refl _) ?_
  rintro ⟨z, ys, a, c⟩ ⟨hz, hv⟩
  dsimp only at hz hv ⊢
  have hlen : ys.length ≤ 9 := by
    have h1 := vint_len 8 z0 (by omega)
    rw [← hv, List.length_append] at h1
    omega
  have hand : z &&& 127 = z % 128 := Nat.and_two_pow_sub_one_eq_mod z 7
  have hsh : z >>> 7 = z / 128 := Nat.shiftRight_eq_div_pow z 7
  have hy' := hy z ys a c hz hlen
  by_cases hlt : z < 128
  · rw [if_pos hlt, decide_eq_true hlt] at hy'
    have hlt' : (z : Int) < 128 := by omega
    have hvz := vint_lt hlt
    refine hwXH ?_
    refine HL.pa ?_ (POp.and64 rfl rfl rfl rfl (by omega) (by decide))
    rw [hand]
    refine hwXH ?_
    rw [decide_eq_true hlt']
    refine HL.one (H1.yield rfl rfl rfl hy' ?_)
    rintro ⟨a', c'⟩ -
    dsimp only
    refine hwXH ?_
    refine HX.ret0 rfl fun w' hM => ⟨(z, a', c'), trivial, ?_⟩
    rw [← hv, hvz]; exact hM
  · rw [if_neg hlt, decide_eq_false hlt] at hy'
    have hlt' : ¬ (z : Int) < 128 := by omega
    have hvz := vint_ge hlt
    refine hwXH ?_
    refine HL.pa ?_ (POp.and64 rfl rfl rfl rfl (by omega) (by decide))
    rw [hand]
    refine hwXH ?_
    rw [decide_eq_false hlt']
    refine HL.one (H1.yield rfl rfl rfl hy' ?_)
    rintro ⟨a', c'⟩ -
    dsimp only
    refine hwXH ?_
    refine HL.pa ?_ (POp.shr64 rfl rfl rfl rfl (by decide))
    rw [hsh]
    refine hwXH ?_
    refine HL.one (H1.st (b := bz) rfl rfl (by intro _ h; cases h) (by intro _ h; cases h) rplA (by exact Nat.zero_lt_one) ?_)
    refine hwXH ?_
    exact HX.again (z / 128, ys ++ [UInt8.ofNat (z % 128 + 128)], a', c') ⟨by show z / 128 < _; omega, by show (ys ++ _) ++ vint (z / 128) = _; rw [← hv, hvz, List.append_assoc]; rfl⟩ (by show z / 128 < z; omega) esA (Hs.refl _)
theorem POp.xor64 {P : Program} {N : Nat} {ds : List Deferred} {E : Env} {t t' ty : TypeId} {x y : Operand} {m n : Int} {a b : Nat} (hx : Env.ev E x = some (.int .u64 m)) (hy : Env.ev E y = some (.int .u64 n)) (em : m = (a : Int)) (en : n = (b : Int)) (h1 : a < 18446744073709551616) (h2 : b < 18446744073709551616) :
    POp P N ds E (.binOp .xor t x y t') ty (.int .u64 ((a ^^^ b : Nat) : Int)) := POp.bin hx hy guard_int fun w => by
  subst em; subst en
  have e : bits .xor .u64 (a : Int) (b : Int) = ((a ^^^ b : Nat) : Int) := by
    show IntKind.u64.wrap (((BitVec.ofInt 64 a ^^^ BitVec.ofInt 64 b).toNat : Nat) : Int) = _
    rw [BitVec.toNat_xor, ofInt_toNat a h1, ofInt_toNat b h2]
    exact wrap_u64 (Nat.xor_lt_two_pow (n := 64) h1 h2)
  rw [binOp_xor, intBits_xor, e]; rfl
theorem groups_fn (z : Nat) (w : World) : Fn Tryz.prog 188 #[.int .u64 (z : Int)] w fun v w' => ∃ b : Nat, True ∧ v = .func (.func 251) #[] #[.pointer (some ⟨b, 0, none⟩)] ∧ Mm w [A.blk b [.int .u64 (z : Int)] 244] w' := by
  refine enterH (l := [_]) rfl Tryz.ntmps188 rfl ?_
  refine hwXH ?_
  refine HL.one (H1.box rfl rfl rfl (fun b1 => ?_))
  refine hwXH ?_
  exact HX.ret1 rfl rfl fun w' hM => ⟨b1, trivial, rfl, hM⟩
theorem ub_snoc (ys : List UInt8) {g : Nat} (h : g < 256) : ub ys ++ [.int .u8 (g : Int)] = ub (ys ++ [UInt8.ofNat g]) := by
  unfold ub
  rw [List.map_append]
  simp only [List.map_cons, List.map_nil, UInt8.toNat_ofNat']
  rw [Nat.mod_eq_of_lt (by omega)]
/-- A number, as it is encoded. -/
def strN (n : Nat) : ByteArray := ⟨(putN n).toArray⟩
set_option maxHeartbeats 2000000 in
theorem putInt_fn (n : Nat) (hn : n ≤ 1099511627776) (w : World) : Fn Tryz.prog 111 #[zv (n : Int)] w fun v w' => v = .tuple #[.string (strN n), .int .i64 0] ∧ Ext w w' := by
  refine enterMH (l := [_]) rfl Tryz.ntmps111 rfl ?_
  have hsl : n <<< 1 = 2 * n := by rw [Nat.shiftLeft_eq]; omega
  have hsr : n >>> 63 = 0 := by rw [Nat.shiftRight_eq_div_pow]; exact Nat.div_eq_of_lt (by omega)
  refine hwXH ?_
  refine HL.one (H1.alloc (cs := [.slice none 0 0]) rfl rfl (fun b4 => ?_))
  refine hwXH ?_
  refine HL.pa ?_ ((POp.conv (k' := .u64) rfl).of (v' := .int .u64 (n : Int)) (by rw [wrap_u64 (by omega)]))
  refine hwXH ?_
  refine HL.pa ?_ (POp.shl64 rfl rfl rfl rfl (by decide) (by rw [hsl]; omega))
  rw [hsl]
  refine hwXH ?_
  rw [hsr]
  refine HL.pa ?_ ((POp.conv (k' := .u64) rfl).of (v' := .int .u64 ((0 : Nat) : Int)) (by rfl))
  refine hwXH ?_
  refine HL.pa ?_ (POp.xor64 (a := 2 * n) (b := 0) rfl rfl rfl rfl (by omega) (by decide))
  rw [Nat.xor_zero]
  refine hwXH ?_
  refine HL.one (H1.callz1 (vs := [.int .u64 ((2 * n : Nat) : Int)]) rfl rfl (fun w' _ => groups_fn (2 * n) w') ?_)
  rintro bz -
  refine hwXH ?_
  refine HC.grow0 5 1 ?_
  refine HC.sub [(4, .pointer (some ⟨b4, 0, none⟩)), (20, .func (.func 251) #[] #[.pointer (some ⟨bz, 0, none⟩)])] (A.blk bz [.int .u64 ((2 * n : Nat) : Int)] 244 :: bytG b4 [] none 0) ?_ esA (by unfold bytG; repeat (first | exact Hs.nil _ | (refine Hs.cons pickA ?_)))
  refine HC.rangeFunc (α := Nat × Option Addr × Nat) (lb := [.pointer (some ⟨bz, 0, none⟩)]) (fun q => A.blk bz [.int .u64 (q.1 : Int)] 244 :: bytG b4 (vint (2 * n)) q.2.1 q.2.2) (fun _ => True) rfl ?_ ?_
  · intro D l L hL w1 hM1
    refine groups1_fn (2 * n) (by omega) ?_ w1 hM1
    intro z ys a c hz hlen
    refine Yld.ofH hL memA rfl rfl ?_
    dsimp only [List.zip_cons_cons, List.zip_nil_right, putAll]
    refine hwXH ?_
    refine HX.ra hL rplA ?_
    unfold bytG
    by_cases hlt : z < 128
    · rw [decide_eq_true hlt, if_pos hlt]
      have hz2 : z % 128 = z := Nat.mod_eq_of_lt hlt
      rw [hz2]
      have hub := ub_snoc ys (g := z) (by omega)
      refine hwXH ?_
      refine HL.one (H1.lit (cs := [.int .u8 (z : Int)]) rfl rfl rfl rfl rfl rfl (fun b9 => ?_))
      refine hwXH ?_
      refine HL.one (H1.app1 (u := .int .u8 (z : Int)) rfl rfl (fun _ _ => by first | ((repeat (first | with_reducible exact Rpl.here | with_reducible apply Rpl.there)); done) | (repeat (first | exact Rpl.here | apply Rpl.there))) memA rfl rfl (by omega) rfl rfl (fun a' c' => ?_))
      rw [hub]
      refine hwXH ?_
      refine HL.one (H1.st (b := b4) rfl rfl (by intro _ h; cases h) (by intro _ h; cases h) rplA (by exact Nat.zero_lt_one) ?_)
      refine hwXH ?_
      refine HX.rp_n hL rplA fun w' hM => ⟨rfl, (some ⟨a', 0, none⟩, c'), trivial, ?_⟩
      dsimp only
      rw [List.length_append]
      exact hM.tail
    · rw [decide_eq_false hlt, if_neg hlt]
      have hub := ub_snoc ys (g := z % 128 + 128) (by omega)
      refine hwXH ?_
      refine HL.pa ?_ (POp.or8 (a := z % 128) (b := 128) rfl rfl rfl rfl (by omega) (by decide))
      rw [or_128 (by omega)]
      refine hwXH ?_
      refine HL.one (H1.lit (cs := [.int .u8 ((z % 128 + 128 : Nat) : Int)]) rfl rfl rfl rfl rfl rfl (fun b9 => ?_))
      refine hwXH ?_
      refine HL.one (H1.app1 (u := .int .u8 ((z % 128 + 128 : Nat) : Int)) rfl rfl (fun _ _ => by first | ((repeat (first | with_reducible exact Rpl.here | with_reducible apply Rpl.there)); done) | (repeat (first | exact Rpl.here | apply Rpl.there))) memA rfl rfl (by omega) rfl rfl (fun a' c' => ?_))
      rw [hub]
      refine hwXH ?_
      refine HL.one (H1.st (b := b4) rfl rfl (by intro _ h; cases h) (by intro _ h; cases h) rplA (by exact Nat.zero_lt_one) ?_)
      refine hwXH ?_
      refine HX.rp_n hL rplA fun w' hM => ⟨rfl, (some ⟨a', 0, none⟩, c'), trivial, ?_⟩
      dsimp only
      rw [List.length_append]
      exact hM.tail
  · rintro D ⟨zf, a, c⟩ -
    dsimp only
    unfold bytG
    refine hwXH ?_
    refine HL.openg (e := 5) (a := a) (xs := ub (vint (2 * n))) memA (by have := vint_pos (2 * n); omega) ?_
    rintro b rfl
    refine HL.one (H1.bstrg (ys := vint (2 * n)) rfl memA rfl ?_)
    refine hwXH ?_
    exact HX.retM2 rfl rfl rfl (by repeat (first | exact Pick.here | apply Pick.there)) fun w' hM => ⟨rfl, hM.ext⟩
end Go.Sx
/- Chapter 1: the encoding of a string: the walk. -/
namespace Go.Sx
open Go Go.Proofs Go.RowKit
theorem hwDW {G G2 : Prop} (x : G2) (hwq : Hold G2 → G := by
    intro hQq
    repeat' (first | apply HL.fold | apply HA.fold | apply HL.nil | apply HX.n_then | apply HC.seq | apply HC.region | refine HL.pa ?_ | refine HL.ga rfl ?_ | refine HL.na rfl ?_ | refine HL.nu rfl rfl ?_ | apply HC.block | apply HC.skip | apply HC.exit | apply HC.ret | apply HX.e_block | refine HX.e_other rfl ?_ | apply HX.e_then | apply HX.e_again | apply HX.n_block | apply HX.r_then | apply HX.r_block | apply HX.r_again | refine HC.cond_yes rfl ?_ | refine HC.cond_no rfl ?_ | refine HL.one (H1.ldb rfl memA rfl rfl ?_) | refine HC.cond rfl (fun hc => ?_) (fun hc => ?_) | refine HC.cond_b rfl (fun hc => ?_) (fun hc => ?_))
    exact hQq.get) : G := hwq ⟨x⟩
theorem strN_size {n : Nat} (h : n ≤ 1099511627776) : (strN n).size ≤ 9 := by
  show (putN n).length ≤ 9
  exact vint_len 8 (2 * n) (by omega)
attribute [local irreducible] WC WL WX POp Then Again Fn NX W1 WA WO QL RP RA Yld LoopAt HC HL HX HN H1 HA HO HQ HB HP A.blk A.grow A.rd A.obj A.mp AgainH CutH
theorem putString_fn (s : ByteArray) (hs : s.size ≤ 65536) (w : World) : Fn Tryz.prog 150 #[.string s] w fun v w' => v = .tuple #[.string (strN s.size ++ s), .int .i64 0] ∧ Ext w w' := by
  have hz := strN_size (n := s.size) (by omega)
  refine enterH (l := [_]) rfl Tryz.ntmps150 rfl ?_
  refine hwDW ?_
  refine HL.one (H1.callx (vs := [zv (s.size : Int)]) rfl rfl (fun w' _ => putInt_fn s.size (by omega) w') ?_)
  refine hwDW ?_
  exact HX.ret2 rfl rfl rfl fun w' hM => ⟨rfl, hM.ext⟩
end Go.Sx
/- Chapters 1 and 20: the encoding of a string; flag; strings compared. -/
namespace Go.Sx
open Go Go.Proofs Go.RowKit
theorem less_asym {x y : List UInt8} (h : Op.bytesLess x y = true) : Op.bytesLess y x = false := by
  cases e : Op.bytesLess y x with
  | false => rfl
  | true =>
    have := less_trans x y x h e
    rw [less_irr] at this; cases this
theorem POp.sgtr {P : Program} {N : Nat} {ds : List Deferred} {E : Env} {t t' ty : TypeId} {x y : Operand} {s u : ByteArray} (hx : Env.ev E x = some (.string s)) (hy : Env.ev E y = some (.string u)) :
    POp P N ds E (.binOp .gtr t x y t') ty (.bool (Op.bytesLess u.data.toList s.data.toList)) := POp.bin hx hy guard_str fun w => by
  have e : (!(Op.bytesLess s.toList u.toList || s.toList == u.toList)) = Op.bytesLess u.data.toList s.data.toList := by
    rw [str_eq, ba_toList, ba_toList]
    by_cases h : s = u
    · subst h; rw [less_irr, decide_eq_true rfl]; rfl
    · rw [decide_eq_false h, Bool.or_false]
      have hne : s.data.toList ≠ u.data.toList := fun e => h (ByteArray_ext' e)
      rcases less_tri _ _ hne with h1 | h1
      · rw [h1, less_asym h1]; rfl
      · rw [h1, less_asym h1]; rfl
  rw [← e]
  simp only [Go.binOp, Op.stringOp]; rfl
attribute [local irreducible] WC WL WX POp Then Again Fn NX W1 WA WO QL RP RA Yld LoopAt HC HL HX HN H1 HA HO HQ HB HP A.blk A.grow A.rd A.obj A.mp AgainH CutH
theorem flag_fn (b : Bool) (w : World) : Fn Tryz.prog 228 #[.bool b] w fun v w' => v = zv (b01 b) ∧ w = w' := by
  refine enter (l := [_]) rfl Tryz.ntmps228 rfl ?_
  cases b <;> (repeat' (first | apply WL.fold | apply WA.fold | apply WL.nil | apply WX.n_then | apply WC.seq | apply WC.region | refine WL.pa ?_ | refine WL.ga rfl ?_ | refine WL.na rfl ?_ | refine WL.nu rfl rfl ?_ | apply WC.block | apply WC.skip | apply WC.exit | apply WC.ret | apply WX.e_block | refine WX.e_other rfl ?_ | apply WX.e_then | apply WX.e_again | apply WX.n_block | apply WX.r_then | apply WX.r_block | apply WX.r_again | refine WC.cond_yes rfl ?_ | refine WC.cond_no rfl ?_ | refine WC.cond rfl (fun hc => ?_) (fun hc => ?_) | refine WC.cond_b rfl (fun hc => ?_) (fun hc => ?_)))
  all_goals exact WX.ret1 rfl rfl ⟨rfl, rfl⟩
end Go.Sx
/- Chapter 2 in plain words: the digest of a string. -/
namespace Go.Sx
def rot (x : UInt32) (n : Nat) : UInt32 := x <<< UInt32.ofNat (32 - n) ||| x >>> UInt32.ofNat n
def mixW (x : UInt32) (l : List Nat) : UInt32 := l.foldl (fun o n => o ^^^ rot x n) 0
def bt (b : List UInt8) (i : Nat) : UInt32 := (b.getD i 0).toUInt32
def wordAt (b : List UInt8) (i : Nat) : UInt32 := bt b (4 * i) <<< UInt32.ofNat 24 ||| bt b (4 * i + 1) <<< UInt32.ofNat 16 ||| bt b (4 * i + 2) <<< UInt32.ofNat 8 ||| bt b (4 * i + 3)
/-- The words of a block. -/
def wW (b : List UInt8) (i : Nat) : UInt32 :=
  if i < 16 then wordAt b i
  else wW b (i - 16) + (mixW (wW b (i - 15)) [7, 18] ^^^ wW b (i - 15) >>> UInt32.ofNat 3) + wW b (i - 7) + (mixW (wW b (i - 2)) [17, 19] ^^^ wW b (i - 2) >>> UInt32.ofNat 10)
termination_by i
decreasing_by all_goals omega
structure S8 where
  a : UInt32
  b : UInt32
  c : UInt32
  d : UInt32
  e : UInt32
  f : UInt32
  g : UInt32
  h : UInt32
def S8.l (s : S8) : List UInt32 := [s.a, s.b, s.c, s.d, s.e, s.f, s.g, s.h]
def kL : List UInt32 := [
  0x428a2f98, 0x71374491, 0xb5c0fbcf, 0xe9b5dba5, 0x3956c25b, 0x59f111f1, 0x923f82a4, 0xab1c5ed5,
  0xd807aa98, 0x12835b01, 0x243185be, 0x550c7dc3, 0x72be5d74, 0x80deb1fe, 0x9bdc06a7, 0xc19bf174,
  0xe49b69c1, 0xefbe4786, 0x0fc19dc6, 0x240ca1cc, 0x2de92c6f, 0x4a7484aa, 0x5cb0a9dc, 0x76f988da,
  0x983e5152, 0xa831c66d, 0xb00327c8, 0xbf597fc7, 0xc6e00bf3, 0xd5a79147, 0x06ca6351, 0x14292967,
  0x27b70a85, 0x2e1b2138, 0x4d2c6dfc, 0x53380d13, 0x650a7354, 0x766a0abb, 0x81c2c92e, 0x92722c85,
  0xa2bfe8a1, 0xa81a664b, 0xc24b8b70, 0xc76c51a3, 0xd192e819, 0xd6990624, 0xf40e3585, 0x106aa070,
  0x19a4c116, 0x1e376c08, 0x2748774c, 0x34b0bcb5, 0x391c0cb3, 0x4ed8aa4a, 0x5b9cca4f, 0x682e6ff3,
  0x748f82ee, 0x78a5636f, 0x84c87814, 0x8cc70208, 0x90befffa, 0xa4506ceb, 0xbef9a3f7, 0xc67178f2]
def kW (i : Nat) : UInt32 := kL.getD i 0
def rT (k w : UInt32) (s : S8) : UInt32 := s.h + mixW s.e [6, 11, 25] + (s.e &&& s.f ^^^ ~~~s.e &&& s.g) + k + w
def rU (s : S8) : UInt32 := mixW s.a [2, 13, 22] + (s.a &&& s.b ^^^ s.a &&& s.c ^^^ s.b &&& s.c)
def rnd (k w : UInt32) (s : S8) : S8 := ⟨rT k w s + rU s, s.a, s.b, s.c, s.d + rT k w s, s.e, s.f, s.g⟩
def rnds (b : List UInt8) (s : S8) : Nat → S8
  | 0 => s
  | i + 1 => rnd (kW i) (wW b i) (rnds b s i)
def S8.add (s t : S8) : S8 := ⟨s.a + t.a, s.b + t.b, s.c + t.c, s.d + t.d, s.e + t.e, s.f + t.f, s.g + t.g, s.h + t.h⟩
def comp (s : S8) (b : List UInt8) : S8 := s.add (rnds b s 64)
def shaI : S8 := ⟨0x6a09e667, 0xbb67ae85, 0x3c6ef372, 0xa54ff53a, 0x510e527f, 0x9b05688c, 0x1f83d9ab, 0x5be0cd19⟩
def by4 (x : UInt32) : List UInt8 := [(x >>> UInt32.ofNat 24).toUInt8, (x >>> UInt32.ofNat 16).toUInt8, (x >>> UInt32.ofNat 8).toUInt8, (x >>> UInt32.ofNat 0).toUInt8]
def digL (s : S8) : List UInt8 := s.l.flatMap by4
theorem digL_len (s : S8) : (digL s).length = 32 := rfl
def shaZ (n : Nat) : Nat := (119 - n % 64) % 64
def shaT (n j : Nat) : UInt8 := UInt8.ofNat ((8 * n) >>> (8 * (7 - j)))
def shaP (s : List UInt8) : List UInt8 := s ++ [128] ++ List.replicate (shaZ s.length) 0 ++ (List.range 8).map (shaT s.length)
/-- The digest of the first i blocks. -/
def sums (b : List UInt8) : Nat → S8
  | 0 => shaI
  | i + 1 => comp (sums b i) ((b.drop (64 * i)).take 64)
def sumL (s : List UInt8) : List UInt8 := digL (sums (shaP s) ((shaP s).length / 64))
theorem sumL_len (s : List UInt8) : (sumL s).length = 32 := digL_len _
def sumS (s : ByteArray) : ByteArray := ⟨(sumL s.data.toList).toArray⟩
theorem sumS_size (s : ByteArray) : (sumS s).size = 32 := by
  show (sumL s.data.toList).toArray.size = 32
  rw [List.size_toArray, sumL_len]
end Go.Sx
/- The layer with atoms: words of 32 bits. -/
namespace Go.Sx
open Go Go.RowKit
abbrev w32 (x : UInt32) : Value := .int .u32 (x.toNat : Int)
abbrev b8 (x : UInt8) : Value := .int .u8 (x.toNat : Int)
section
variable {P : Program} {r : Option Nat} {N : Nat} {ds : List Deferred} {E : Env} {t t' ty : TypeId} {x y : Operand} {k k' : IntKind} {a b : UInt32} {n : Int}
end
end Go.Sx
/-
  The layer with atoms: arrays by value, slices of arrays, copies into a block.
-/
namespace Go.Sx
open Go Go.RowKit
section
variable {P : Program} {r : Option Nat} {N : Nat} {ds : List Deferred} {ol rest : List Oper} {Q : Post} {E : Env} {w0 : World} {H : List Atom} {next : Act → World → Prop} {g : Option (Nat × Bool)}
variable {d : Nat} {t t' ty : TypeId} {pos : String} {af : Array Edge} {x y lo hi : Operand} {k k' : IntKind} {m n : Int}
/-- A call that turns own atoms. -/
theorem H1.callk {α : Type} {V : α → Value} {H' : α → List Atom} {I : α → Prop} {d : Option Nat} {f : FuncId} {args : List Operand} {ats : Array TypeId} {vs : List Value}
    [hf : CallOk P f] (hd : dOk d N = true) (ha : Env.evs E args = some vs) (hc : ∀ w, Mm w0 H w → Fn P f vs.toArray w fun v w' => ∃ z, I z ∧ v = V z ∧ Mm w0 (H' z) w')
    (h : ∀ z, I z → HN N ds next (putE d (V z) E) w0 (H' z)) :
    H1 P r N ds next ⟨d, .call ⟨.value (.func f), args.toArray, ats⟩, ty, pos, af, g⟩ Q E w0 H := fun w hM => W1.call hd ha (hc w hM) (by
    rintro v w' ⟨z, hz, rfl, hn⟩; exact h z hz w' hn)
variable {e : TypeId}
theorem run_equalIn_pnil [h : UTy P t (.pointer e)] (w : World) (d : Nat) (a : Option Addr) : (Op.equalIn (d + 1) t (.pointer a) (.pointer none)).run P w = .ok a.isNone w := by
  cases a <;> simp [Op.equalIn, Sem.run_bind, run_underlying h.is, Result.andThen]
theorem POp.pnil1 [h : UTy P t (.pointer e)] (hx : Env.ev E x = some (.pointer none)) (hy : Env.ev E y = some (.pointer none)) : POp P N ds E (.binOp .eql t x y t') ty (.bool true) :=
  POp.bin hx hy (fun w => by rw [eqGuard_at_pointer]; rfl) fun w => by
    have e1 := run_equalIn_pnil (P := P) (t := t) w 9999 none
    show ((Op.equalIn (9999 + 1) t (.pointer none) (.pointer none)) >>= fun r => pure (Value.bool r)).run P w = _
    rw [Sem.run_bind, e1]; rfl
theorem POp.pnil0 {a : Addr} [h : UTy P t (.pointer e)] (hx : Env.ev E x = some (.pointer (some a))) (hy : Env.ev E y = some (.pointer none)) : POp P N ds E (.binOp .eql t x y t') ty (.bool false) :=
  POp.bin hx hy (fun w => by rw [eqGuard_at_pointer]; rfl) fun w => by
    have e1 := run_equalIn_pnil (P := P) (t := t) w 9999 (some a)
    show ((Op.equalIn (9999 + 1) t (.pointer (some a)) (.pointer none)) >>= fun r => pure (Value.bool r)).run P w = _
    rw [Sem.run_bind, e1]; rfl
end
end Go.Sx
/-
  The layer with atoms: calls that may panic, functions that panic, deferred closures that recover.
-/
namespace Go.Sx
open Go Go.RowKit
section
variable {P : Program} {r : Option Nat} {N : Nat} {ds : List Deferred} {ol rest : List Oper} {Q : Post} {E : Env} {w0 : World} {H : List Atom} {next : Act → World → Prop} {g : Option (Nat × Bool)}
variable {d : Option Nat} {ty : TypeId} {pos : String} {af : Array Edge} {x : Operand}
/-- A call that returns, or panics with one chain. -/
def EndP {α β : Type} (I : α → Prop) (V : α → Value) (Ha : α → List Atom) (J : β → Prop) (ch : List PanicEntry) (Hb : β → List Atom) (w0 : World) (e : Ending) (w' : World) : Prop :=
  (∃ z, I z ∧ e = .returned (V z) ∧ Mm w0 (Ha z) w') ∨ (∃ z, J z ∧ e = .panicked ch ∧ Mm w0 (Hb z) w')
/-- A function that defers one closure; what it hands back lies in two variables. -/
theorem enterD {f : FuncId} {fn : Func} {c : Code} {l : List Value} {R : Ending → World → Prop} {w : World} [hf : FnIs P f fn] (hM : Mm w0 H w) (hb : fn.body = some c) (hN : fn.ntmps = N) (hl : Nat.ble l.length N = true)
    (h : HC P none N [] c (bodyPostDIn Fence.wide 0 P fn R) (Env.of 0 l) w0 H) : Calls P f l.toArray w R := by
  refine (callsIn_wide (n := 0)).1 (callsIn_of_wp_defers hf.is hb trivial ?_ rfl)
  have hl' : l.length ≤ N := by simpa using hl
  refine h w hM _ ⟨by simp [hN]; omega, rfl, fun t v ht => ?_⟩
  obtain ⟨-, h2⟩ := Env.of_g l 0 t v ht
  have hlt : t < l.length := by
    rcases Nat.lt_or_ge t l.length with h | h
    · exact h
    · simp [List.getElem?_eq_none h] at h2
  rw [Array.getElem?_append_left (by simpa using hlt)]
  simpa using h2
/-- A call that is made at the door: what becomes of the frame below and of the world. -/
def DFn (P : Program) (f : FuncId) (args : Array Value) (u u' : FrameMode) (w : World) (R : World → Prop) : Prop :=
  CallsDIn Fence.wide 0 P f args u w fun e v w' => e = .returned (.tuple #[]) ∧ v = u' ∧ R w'
end
theorem wpS_of_HC {P : Program} {N : Nat} {c : Code} {Q : Exit → Act → List Frame → World → Prop} {a : Act} {cs : List Frame} {w w0 : World} {H : List Atom} {E : Env} (hM : Mm w0 H w) (hr : Rep N [] E a) (h : HC P none N [] c (fun e a' w' => Q e a' cs w') E w0 H) :
    c.wpSIn Fence.wide 0 P Q a cs w := wpSIn_of_wpIn rfl (h w hM a hr)
theorem HX.endS {P : Program} {N : Nat} {E : Env} {w0 : World} {H : List Atom} {fn : Func} {c₀ : Frame} {cs : List Frame} {u : FrameMode} {R : Ending → FrameMode → World → Prop} (hr : fn.results = #[]) (h : ∀ w, Mm w0 H w → R (.returned (.tuple #[])) u w) :
    HX N [] .normal (fun e a' w' => bodyPostS P fn c₀ cs R e a' ({ c₀ with mode := u } :: cs) w') E w0 H := fun w hM _ ha => ⟨ha.defers, u, rfl, _, results_none hr _ _ _, h w hM⟩
theorem frame_same {c : Frame} {u : FrameMode} (h : c.mode = u) : c = { c with mode := u } := by
  cases c; simp only at h; subst h; rfl
end Go.Sx
/- Chapter 20: strings.Builder inside of the writer; put. -/
namespace Go.Sx
open Go Go.Proofs Go.RowKit
theorem hwXJ {G G2 : Prop} (x : G2) (hwq : Hold G2 → G := by
    intro hQq
    repeat' (first | apply HL.fold | apply HA.fold | apply HL.nil | apply HX.n_then | apply HC.seq | apply HC.region | refine HL.pa ?_ | refine HL.ga rfl ?_ | refine HL.na rfl ?_ | refine HL.nu rfl rfl ?_ | apply HC.block | apply HC.skip | apply HC.exit | apply HC.ret | apply HX.e_block | refine HX.e_other rfl ?_ | apply HX.e_then | apply HX.e_again | apply HX.n_block | apply HX.r_then | apply HX.r_block | apply HX.r_again | refine HC.cond_yes rfl ?_ | refine HC.cond_no rfl ?_ | refine HL.one (H1.ldb rfl memA rfl rfl ?_) | refine HC.cond rfl (fun hc => ?_) (fun hc => ?_) | refine HC.cond_b rfl (fun hc => ?_) (fun hc => ?_))
    exact hQq.get) : G := hwq ⟨x⟩
section
variable {P : Program} {r : Option Nat} {N : Nat} {ds : List Deferred} {Q : Post} {E : Env} {w0 : World} {H : List Atom} {next : Act → World → Prop} {g : Option (Nat × Bool)}
variable {d : Nat} {t t' ty e : TypeId} {pos : String} {af : Array Edge} {x y : Operand}
theorem POp.pneq {a : Addr} {z : Value} {n bb : Nat} [h : UTy P t (.pointer e)] [hi : ITy P e z n bb] (hx : Env.ev E x = some (.pointer (some a))) (hy : Env.ev E y = some (.pointer (some a))) : POp P N ds E (.binOp .neq t x y t') ty (.bool false) :=
  POp.bin hx hy (fun w => by rw [eqGuard_at_pointer]; rfl) fun w => by
    obtain ⟨i, hi1, -⟩ := hi.parts
    exact Lib.run_neq_ptr_same w a h.is hi1
theorem H1.toUnsafe {src dst u eb : TypeId} {b n bb : Nat} {cs : List Value} {z : Value} [h1 : UTy P src (.pointer u)] [h2 : UTy P dst .unsafePointer] [h3 : ITy P u z n bb] (hx : Env.ev E x = some (.pointer (some ⟨b, 0, none⟩))) (hm : A.blk b cs eb ∈ H)
    (hn : Nat.beq n 0 = false) (hc : 0 < cs.length) (hd : Nat.blt d N = true) (h : HN N ds next ((d, .pointer (some ⟨b, 0, none⟩)) :: E) w0 H) : H1 P r N ds next ⟨some d, .convert src dst x, ty, pos, af, g⟩ Q E w0 H := fun w hM =>
  W1.run (fun a ha => by
    obtain ⟨i, hi1, -, hi3, -⟩ := h3.parts
    have hb : w.heap[b]? = some (.cells cs.toArray eb (0, 0)) := hM.blk hm
    have := Lib.run_to_unsafe w ⟨b, 0, none⟩ h1.is h2.is hi1 (by rw [hi3]; intro e; subst e; cases hn) (show w.shape? b = some (eb, cs.length) by simp [World.shape?, hb]) hc
    simp only [execOp, ha.ev hx, Sem.run_bind, this, Result.andThen, Sem.run_pure]) rfl hd (h w hM)
theorem H1.fromUnsafe {src dst u eb : TypeId} {b n bb : Nat} {cs : List Value} {z : Value} [h1 : UTy P src .unsafePointer] [h2 : UTy P dst (.pointer u)] [h3 : ITy P u z n bb] (hx : Env.ev E x = some (.pointer (some ⟨b, 0, none⟩))) (hm : A.blk b cs eb ∈ H)
    (hl : liesAt P P.depth eb (cs.length / P.cellsOf eb) 0 u 1 = true) (hd : Nat.blt d N = true) (h : HN N ds next ((d, .pointer (some ⟨b, 0, none⟩)) :: E) w0 H) : H1 P r N ds next ⟨some d, .convert src dst x, ty, pos, af, g⟩ Q E w0 H := fun w hM =>
  W1.run (fun a ha => by
    obtain ⟨i, hi1, -, hi3, -⟩ := h3.parts
    have hb : w.heap[b]? = some (.cells cs.toArray eb (0, 0)) := hM.blk hm
    have := Lib.run_from_unsafe w ⟨b, 0, none⟩ h1.is h2.is hi1 (show w.shape? b = some (eb, cs.length) by simp [World.shape?, hb]) hl
    simp only [execOp, ha.ev hx, Sem.run_bind, this, Result.andThen, Sem.run_pure]) rfl hd (h w hM)
theorem H1.noEscape {f : FuncId} {fn : Func} {v : Value} {ats : Array TypeId} (hf : P.funcs[f]? = some fn) (hname : (fn.name == "runtime.NumGoroutine") = false) (hb : fn.body.isNone = true) (hn : Extern.findNext fn = none) (he : Extern.find fn = some Extern.AbiNoEscape.same)
    (hx : Env.ev E x = some v) (hd : Nat.blt d N = true) (h : HN N ds next ((d, v) :: E) w0 H) : H1 P r N ds next ⟨some d, .call ⟨.value (.func f), #[x], ats⟩, ty, pos, af, g⟩ Q E w0 H := fun w hM =>
  W1.run (fun a ha => by
    have h1 := run_callFunc_extern hf hname hb hn he #[v] w
    rw [Lib.run_noEscape] at h1
    have h2 := ha.ev hx
    show ((resolve a.eval ⟨.value (.func f), #[x], ats⟩ ty) >>= fun df => invoke df.target df.args).run P w = _
    simp only [resolve, List.map_toArray, List.map_cons, List.map_nil, h2]
    exact h1) rfl hd (h w hM)
theorem run_append_str2 {w : World} {u : TypeId} (i : TypeInfo) (ht : P.underlying t = some (.slice e)) (hu : P.underlying u = some .string) (hi : P.info? e = some i) (hz : i.zero = some (.int .u8 0)) (hsize : i.size = 1) (hby : i.bytes = 1)
    (v : Value) (n : Nat) (xs : List Value) (hown : w.ownsRow 0 e 1 v n xs) (s : ByteArray) (h6 : n + s.size ≤ 1000000) :
    ∃ a' c' w', (Builtin.append_ #[t, u] ty #[v, .string s]).run P w = .ok (.slice a' (n + s.size) c') w' ∧ w'.ownsRow 0 e 1 (.slice a' (n + s.size) c') (n + s.size) (xs ++ Lib.strCells s) ∧ w.grownBy w' v.ownBlock ∧
      (∀ b, (Value.slice a' (n + s.size) c').ownBlock = some b → v.ownBlock = some b ∨ w.heap.size ≤ b) := by
  have h63 : n + s.size ≤ maxLen := by simp only [maxLen]; omega
  have h48 : n + s.size ≤ 140737488355328 := by omega
  obtain ⟨v', w', hr, h2, h3, -⟩ := Lib.run_append_own_string (P := P) (w := w) 0 t u ty e i ht hu hi hz hsize hby v n xs hown s h63 h48 (Nat.zero_le _)
  have hnew : ∀ b, v'.ownBlock = some b → v.ownBlock = some b ∨ w.heap.size ≤ b := by
    intro b hb
    rcases hown.2 with ⟨rfl, rfl⟩ | ⟨g, cap, cur, rfl, hbg, hg, hnc, hcm, hcs, htake⟩
    · have hx : xs = [] := List.eq_nil_of_length_eq_zero (by simpa using hown.1)
      subst hx
      obtain ⟨v'', w'', hr', h2', -, -⟩ := Lib.run_append_own_string (P := P) (w := w) w.heap.size t u ty e i ht hu hi hz hsize hby _ 0 [] (World.ownsRow_nil w w.heap.size e 1) s h63 h48 (Nat.le_refl _)
      rw [hr] at hr'
      cases hr'
      exact .inr (h2'.lt b hb).1
    · by_cases hroom : n + s.size ≤ cap
      · have hr' := Lib.run_append_room_string (P := P) (w := w) t u ty e i ht hu hi hsize g n cap cur hg s hroom (by omega)
        rw [hr] at hr'
        cases hr'
        exact .inl hb
      · have holds : ∀ j u, xs[j]? = some u → w.cell? ((⟨g, 0, none⟩ : Addr).add j) = some u := hown.cells (g := g) rfl
        have hr' := Lib.run_append_grow_string (P := P) (w := w) t u ty e i (.int .u8 0) ht hu hi hz ⟨g, 0, none⟩ n cap xs (by rw [hown.1, hsize]) holds s (by omega) (by omega) (growslice_fits (by omega) (by rw [hby]; omega))
        rw [hr] at hr'
        cases hr'
        right
        simp only [Value.ownBlock, Option.some.injEq] at hb
        subst hb
        simp
  rcases h2.2 with ⟨rfl, h0⟩ | ⟨g, cap, cur, rfl, hbg, hg, hnc, hcm, hcs, htake⟩
  · refine ⟨none, 0, w', ?_, ?_, h3, ?_⟩ <;> rw [h0]
    · exact hr
    · rwa [h0] at h2
    · exact hnew
  · exact ⟨_, cap, w', hr, h2, h3, hnew⟩
theorem ub_str (ys : List UInt8) (s : ByteArray) : ub ys ++ Lib.strCells s = ub (ys ++ s.data.toList) := by
  unfold ub
  rw [List.map_append]; rfl
theorem str_len (ys : List UInt8) (s : ByteArray) : (ys ++ s.data.toList).length = ys.length + s.size := by
  rw [List.length_append, Array.length_toList]; rfl
/-- append of a string, onto a slice of the call's own. -/
theorem H1.appS {u : TypeId} {c : Nat} {a : Option Addr} {ys : List UInt8} {s : ByteArray} {H' : Option Addr → Nat → List Atom} [h : UTy P t (.slice e)] [h2 : UTy P u .string] [hi : ITy P e (.int .u8 0) 1 1]
    (hx : Env.ev E x = some (.slice a ys.length c)) (hy : Env.ev E y = some (.string s)) (hr : ∀ a' c', Rpl (A.grow e 1 a c ys.length (ub ys)) (A.grow e 1 a' c' (ys ++ s.data.toList).length (ub (ys ++ s.data.toList))) H (H' a' c'))
    (hnm : ys.length + s.size ≤ 1000000) (hd : Nat.blt d N = true)
    (hn : ∀ a' c', HN N ds next ((d, .slice a' (ys ++ s.data.toList).length c') :: E) w0 (H' a' c')) :
    H1 P r N ds next ⟨some d, .call ⟨.builtin .append, #[x, y], #[t, u]⟩, ty, pos, af, g⟩ Q E w0 H := fun w hM => by
  obtain ⟨i, hi1, hi2, hi3, hi4⟩ := hi.parts
  obtain ⟨a', c', w', hrun, h3, h4, h5⟩ := run_append_str2 (P := P) (ty := ty) (w := w) i h.is h2.is hi1 hi2 hi3 hi4 (.slice a ys.length c) ys.length (ub ys) (hM.own (hr none 0).mem) s hnm
  rw [ub_str, ← str_len] at h3
  rw [← str_len] at hrun h5
  refine W1.run (v := .slice a' (ys ++ s.data.toList).length c') (w' := w') (fun b ha => ?_) rfl hd (hn a' c' w' (hM.turn (hr a' c') h4.os h4.tape h4.output h4.size (fun k hk hk' => h4.block k hk fun e => hk' (by simp [A.grow, ← e])) h3 ?_ fun b hb => ?_))
  · simp only [execOp, resolve, invoke, Go.builtin, Sem.run_bind, Sem.run_pure, Result.andThen, List.map_toArray, List.map_cons, List.map_nil, ha.ev hx, ha.ev hy, hrun]
  · show (Option.toList _).Nodup
    cases (Value.slice a' (ys ++ s.data.toList).length c').ownBlock <;> simp
  · have hb' : (Value.slice a' (ys ++ s.data.toList).length c').ownBlock = some b := by simpa [A.grow] using hb
    rcases h5 b hb' with h6 | h6
    · left; simp only [A.grow, h6]; simp
    · exact .inr ⟨h6, (h3.lt b hb').2⟩
theorem POp.sliceData {b n c : Nat} {ats : Array TypeId} (hx : Env.ev E x = some (.slice (some ⟨b, 0, none⟩) n c)) (hc : c ≠ 0) : POp P N ds E (.call ⟨.builtin .unsafeSliceData, #[x], ats⟩) ty (.pointer (some ⟨b, 0, none⟩)) := fun a ha d pos af g w => by
  have h1 : (Builtin.unsafeSliceData_ ats ty #[.slice (some ⟨b, 0, none⟩) n c]).run P w = .ok (.pointer (some ⟨b, 0, none⟩)) w := Lib.run_unsafeSliceData_row _ _ _ _ _ _ hc
  simp only [execOp, resolve, invoke, Go.builtin, Sem.run_bind, Sem.run_pure, Result.andThen, List.map_toArray, List.map_cons, List.map_nil, ha.ev hx, h1]
theorem HC.capOfG {co : Code} {n c : Nat} {a : Option Addr} {xs : List Value} (hm : A.grow e 1 a c n xs ∈ H) (h : n ≤ c → HC P r N ds co Q E w0 H) : HC P r N ds co Q E w0 H := fun w hM => by
  refine h ?_ w hM
  rcases (hM.own hm).2 with ⟨h1, rfl⟩ | ⟨g, cap, cur, hv, -, -, hnc, -⟩
  · exact Nat.zero_le _
  · cases hv; exact hnc
theorem H1.unsafeStr {pt it : TypeId} {b c : Nat} {ys : List UInt8} {H' : List Atom} [hp : UTy P pt (.pointer e)] (hc : P.cellsOf e = 1) (hx : Env.ev E x = some (.pointer (some ⟨b, 0, none⟩))) (hy : Env.ev E y = some (zv (ys.length : Int))) (h0 : ys ≠ [])
    (hm : Pick (A.grow e 1 (some ⟨b, 0, none⟩) c ys.length (ub ys)) H H') (hd : Nat.blt d N = true) (hn : HN N ds next ((d, .string ⟨ys.toArray⟩) :: E) w0 H') :
    H1 P r N ds next ⟨some d, .call ⟨.builtin .unsafeString, #[x, y], #[pt, it]⟩, ty, pos, af, g⟩ Q E w0 H := fun w hM => by
  have hM2 := hM.perm hm.perm
  have hown := hM2.own (List.Mem.head _)
  obtain ⟨g', cap, cur, hv, -, hg, hnc, hcm, hcs, htake⟩ : ∃ g' cap cur, (Value.slice (some ⟨b, 0, none⟩) ys.length c) = .slice (some ⟨g', 0, none⟩) ys.length cap ∧ 0 ≤ g' ∧ w.heap[g']? = some (.cells cur e (0, 0)) ∧ ys.length ≤ cap ∧ cap ≤ maxLen ∧ cur.size = cap * 1 ∧ cur.toList.take (ys.length * 1) = ub ys := by
    rcases hown.2 with ⟨hv, -⟩ | h
    · cases hv
    · exact h
  cases hv
  have hrun := Lib.run_unsafeString_row (P := P) w pt it ty e hp.is hc b cur.size (by simp [World.shape?, hg]) ys h0 (by omega) (by simp only [maxLen] at hcm; omega) (fun j x hx => by
    rw [add_lit, Nat.zero_add]
    exact ownsRow_cell hown (by simp [ub, hx]))
  refine W1.run (v := .string ⟨ys.toArray⟩) (w' := w.freeze ⟨b, 0, none⟩ ys.length) (fun a ha => ?_) rfl hd (hn _ (hM2.drop1 (l := b) rfl ?_))
  · simp only [execOp, resolve, invoke, Go.builtin, Sem.run_bind, Sem.run_pure, Result.andThen, List.map_toArray, List.map_cons, List.map_nil, ha.ev hx, ha.ev hy, hrun]
  · unfold World.freeze
    by_cases hz : ys.length = 0
    · rw [if_pos hz]; exact ⟨rfl, rfl, rfl, rfl, fun _ _ => rfl⟩
    · rw [if_neg hz]
      refine ⟨rfl, rfl, rfl, by simp, fun k hk => ?_⟩
      simp only [Array.getElem?_modify]
      rw [if_neg (fun e => hk e.symm)]
end
def putL (l : List Int) : List UInt8 := (l.map fun n => putN n.toNat).flatten
abbrev bldH (b : Nat) (p : Option Addr) (a : Option Addr) (c : Nat) (ys : List UInt8) (H : List Atom) : List Atom := A.blk b [.pointer p, .slice a ys.length c] 232 :: A.grow 5 1 a c ys.length (ub ys) :: H
attribute [local irreducible] WC WL WX POp Then Again Fn NX W1 WA WO QL RP RA Yld LoopAt HC HL HX HN H1 HA HO HQ HB HP A.blk A.grow A.rd A.obj A.mp AgainH CutH
theorem copyCheck_fn {w0 w : World} {H : List Atom} {b : Nat} {p : Option Addr} {s : Value} (hM : Mm w0 (A.blk b [.pointer p, s] 232 :: H) w) (hp : p = none ∨ p = some ⟨b, 0, none⟩) :
    Fn Tryz.prog 252 #[.pointer (some ⟨b, 0, none⟩)] w fun v w' => v = .tuple #[] ∧ Mm w0 (A.blk b [.pointer (some ⟨b, 0, none⟩), s] 232 :: H) w' := by
  refine enterK (l := [_]) hM rfl Tryz.ntmps252 rfl ?_
  rcases hp with rfl | rfl
  · refine hwXJ ?_
    refine HL.pa ?_ (POp.nilCheck rfl)
    refine hwXJ ?_
    refine HL.pa ?_ (POp.pnil1 rfl rfl)
    refine hwXJ ?_
    refine HL.one (H1.toUnsafe (cs := [.pointer none, s]) rfl memA rfl (Nat.zero_lt_succ 1) rfl ?_)
    refine hwXJ ?_
    refine HL.one (H1.noEscape Tryz.func272 (by kernel_rfl) (by kernel_rfl) (by kernel_rfl) (by kernel_rfl) rfl rfl ?_)
    refine hwXJ ?_
    refine HL.one (H1.fromUnsafe (cs := [.pointer none, s]) rfl memA (by kernel_rfl) rfl ?_)
    refine hwXJ ?_
    refine HL.pa ?_ (POp.nilCheck rfl)
    refine hwXJ ?_
    refine HL.one (H1.st rfl rfl (by intro _ h; cases h) (by intro _ h; cases h) rplA (by simp) ?_)
    refine hwXJ ?_
    exact HX.end0 rfl fun w' hM => ⟨rfl, hM⟩
  · refine hwXJ ?_
    refine HL.pa ?_ (POp.nilCheck rfl)
    refine hwXJ ?_
    refine HL.pa ?_ (POp.pnil0 rfl rfl)
    refine hwXJ ?_
    refine HL.pa ?_ (POp.nilCheck rfl)
    refine hwXJ ?_
    refine HL.pa ?_ (POp.pneq rfl rfl)
    refine hwXJ ?_
    exact HX.end0 rfl fun w' hM => ⟨rfl, hM⟩
theorem writeString_fn {w0 w : World} {H : List Atom} {b c : Nat} {p a : Option Addr} {ys : List UInt8} (s : ByteArray) (hM : Mm w0 (bldH b p a c ys H) w) (hp : p = none ∨ p = some ⟨b, 0, none⟩) (hs : ys.length + s.size ≤ 1000000) :
    Fn Tryz.prog 190 #[.pointer (some ⟨b, 0, none⟩), .string s] w fun v w' => ∃ q : Option Addr × Nat, True ∧ v = .tuple #[zv (s.size : Int), .nilIface] ∧ Mm w0 (bldH b (some ⟨b, 0, none⟩) q.1 q.2 (ys ++ s.data.toList) H) w' := by
  refine enterK (l := [_, _]) hM rfl Tryz.ntmps190 rfl ?_
  refine hwXJ ?_
  refine HL.one (H1.callk (α := Unit) (V := fun _ => .tuple #[]) (I := fun _ => True) (H' := fun _ => bldH b (some ⟨b, 0, none⟩) a c ys H) (vs := [.pointer (some ⟨b, 0, none⟩)]) rfl rfl (fun w' hM => (copyCheck_fn hM hp).mono fun v w' h => ⟨(), trivial, h⟩) ?_)
  rintro - -
  refine hwXJ ?_
  refine HL.pa ?_ (POp.nilCheck rfl)
  refine hwXJ ?_
  refine HL.one (H1.appS rfl rfl (fun _ _ => by first | ((repeat (first | with_reducible exact Rpl.here | with_reducible apply Rpl.there)); done) | (repeat (first | exact Rpl.here | apply Rpl.there))) hs rfl (fun a' c' => ?_))
  refine hwXJ ?_
  refine HL.pa ?_ (POp.nilCheck rfl)
  refine hwXJ ?_
  refine HL.one (H1.st rfl rfl (by intro _ h; cases h) (by intro _ h; cases h) rplA (by simp) ?_)
  refine hwXJ ?_
  exact HX.ret2 rfl rfl rfl fun w' hM => ⟨(a', c'), trivial, rfl, hM⟩
theorem putL_take {l : List Int} {j : Nat} (h : j < l.length) : putL (l.take (j + 1)) = putL (l.take j) ++ putN (at' l j).toNat := by
  unfold putL
  rw [take_at h, List.map_append, List.flatten_append]
  simp
theorem putL_len {l : List Int} (h : ∀ x ∈ l, 0 ≤ x ∧ x ≤ 1099511627776) : (putL l).length ≤ 9 * l.length := by
  induction l with
  | nil => simp [putL]
  | cons x l ih =>
    have h1 := ih fun y hy => h y (List.mem_cons_of_mem _ hy)
    have h2 := h x (List.mem_cons_self ..)
    have h3 : (putN x.toNat).length ≤ 9 := strN_size (n := x.toNat) (by omega)
    have e : putL (x :: l) = putN x.toNat ++ putL l := rfl
    rw [e, List.length_append, List.length_cons]; omega
theorem put_fn {w0 w : World} {H : List Atom} {b bl c : Nat} {p a : Option Addr} {ys : List UInt8} (l : List Int) (hM : Mm w0 (bldH b p a c ys (A.blk bl (ints l) 3 :: H)) w) (hp : p = none ∨ p = some ⟨b, 0, none⟩) (hl : ∀ x ∈ l, 0 ≤ x ∧ x ≤ 1099511627776) (hlen : ys.length + 9 * l.length ≤ 1000000) :
    Fn Tryz.prog 152 #[.pointer (some ⟨b, 0, none⟩), .slice (some ⟨bl, 0, none⟩) l.length l.length] w fun v w' => ∃ q : Option Addr × Option Addr × Nat, (q.1 = none ∨ q.1 = some ⟨b, 0, none⟩) ∧ v = .tuple #[] ∧ Mm w0 (bldH b q.1 q.2.1 q.2.2 (ys ++ putL l) H) w' := by
  refine enterK (l := [_, _]) hM rfl Tryz.ntmps152 rfl ?_
  refine hwXJ ?_
  refine HC.loop (α := Nat × Option Addr × Option Addr × Nat) (fun z => [(0, .pointer (some ⟨b, 0, none⟩)), (8, .slice (some ⟨bl, 0, none⟩) l.length l.length), (9, zv (l.length : Int)), (10, zv (z.1 : Int))])
    (fun z => bldH b z.2.1 z.2.2.1 z.2.2.2 (ys ++ putL (l.take z.1)) (A.blk bl (ints l) 3 :: H)) (fun z => z.1 ≤ l.length ∧ (z.2.1 = none ∨ z.2.1 = some ⟨b, 0, none⟩)) (fun z => l.length - z.1) (0, p, a, c) ⟨Nat.zero_le _, hp⟩ esA
    (by show Hs (bldH b p a c ys _) (bldH b p a c (ys ++ putL (l.take 0)) _); rw [List.take_zero, show putL [] = [] from rfl, List.append_nil]; exact Hs.refl _) ?_
  rintro ⟨j, p', a', c'⟩ ⟨hj, hp'⟩
  dsimp only at hj hp' ⊢
  by_cases hlt : j < l.length
  · have hx := hl _ (at_mem hlt)
    have hget := ints_get hlt
    have htk := putL_take hlt
    obtain ⟨n, hn⟩ := Int.eq_ofNat_of_zero_le hx.1
    rw [hn] at hget htk hx
    rw [Int.toNat_natCast] at htk
    have hpl := putL_len (l := l.take j) fun x hx => hl x (List.mem_of_mem_take hx)
    rw [List.length_take, Nat.min_eq_left hj] at hpl
    have hsz := strN_size (n := n) (by omega)
    refine hwXJ ?_
    refine HL.one (H1.ldb (v := zv (n : Int)) rfl memA hget rfl ?_)
    refine hwXJ ?_
    refine HL.one (H1.callx (vs := [zv (n : Int)]) rfl rfl (fun w' _ => putInt_fn n (by omega) w') ?_)
    refine hwXJ ?_
    refine HL.pa ?_ (POp.nilCheck rfl)
    refine hwXJ ?_
    refine HL.one (H1.callk (α := Option Addr × Nat) (V := fun _ => .tuple #[zv ((strN n).size : Int), .nilIface]) (I := fun _ => True) (H' := fun q => bldH b (some ⟨b, 0, none⟩) q.1 q.2 (ys ++ putL (l.take j) ++ (strN n).data.toList) (A.blk bl (ints l) 3 :: H)) (vs := [.pointer (some ⟨b, 0, none⟩), .string (strN n)]) rfl rfl
      (fun w' hM => writeString_fn (strN n) hM hp' (by rw [List.length_append]; omega)) ?_)
    rintro ⟨a2, c2⟩ -
    dsimp only
    rw [List.append_assoc, show (strN n).data.toList = putN n from rfl, ← htk]
    refine hwXJ ?_
    exact HX.again (j + 1, some ⟨b, 0, none⟩, a2, c2) ⟨hlt, .inr rfl⟩ (by show l.length - (j + 1) < l.length - j; omega) esA (Hs.refl _)
  · obtain rfl : j = l.length := by omega
    rw [List.take_length]
    refine hwXJ ?_
    exact HX.end0 rfl fun w' hM => ⟨(p', a', c'), hp', rfl, hM.sub (Hs.cons Pick.here (Hs.cons Pick.here (Hs.refl _).skip))⟩
set_option maxHeartbeats 1000000 in
theorem builderString_fn {w0 w : World} {H : List Atom} {b c : Nat} {p a : Option Addr} {ys : List UInt8} (hM : Mm w0 (bldH b p a c ys H) w) (h0 : ys ≠ []) :
    Fn Tryz.prog 68 #[.pointer (some ⟨b, 0, none⟩)] w fun v w' => v = .string ⟨ys.toArray⟩ ∧ Mm w0 H w' := by
  have hne : ys.length ≠ 0 := by simpa using h0
  refine enterK (l := [_]) hM rfl Tryz.ntmps68 rfl ?_
  refine HC.openg (e := 5) (a := a) (xs := ub ys) memA hne ?_
  rintro g rfl
  refine hwXJ ?_
  refine HC.capOfG (e := 5) (xs := ub ys) memA fun hcap => ?_
  have hc0 : c ≠ 0 := by omega
  refine HC.anyC ([(⟨b, 1, none⟩, .slice (some ⟨g, 0, none⟩) ys.length c)]) rfl ?_
  refine HB.pa 0 rfl ?_
  refine HB.pa 1 rfl ?_ (POp.nilCheck rfl)
  refine HB.pa 2 rfl ?_
  refine HB.ld 3 rfl rfl memD ?_
  refine HB.pa 4 rfl ?_ (POp.sliceData rfl hc0)
  refine HB.pa 5 rfl ?_
  refine HB.pa 6 rfl ?_ (POp.nilCheck rfl)
  refine HB.pa 7 rfl ?_
  refine HB.ld 8 rfl rfl memD ?_
  refine HB.pa 9 rfl ?_
  refine HB.all (by repeat (first | exact Keep.nil | refine Keep.blk (by (repeat (first | exact List.Mem.head _ | apply List.Mem.tail)); done) rfl ?_ | refine Keep.grow (by (repeat (first | exact List.Mem.head _ | apply List.Mem.tail)); done) (by assumption) ?_ | refine Keep.base (by assumption) ?_)) [10] (by kernel_rfl) rfl ⟨⟨_, rfl, ?_⟩, trivial⟩
  refine HP.one ?_
  refine H1.unsafeStr (b := g) (c := c) (ys := ys) (by kernel_rfl) rfl rfl h0 (Pick.there Pick.here) rfl ?_
  apply HB.fold
  refine HB.pa 11 rfl ?_
  refine HB.done (by repeat (first | exact Keep.nil | refine Keep.blk (by (repeat (first | exact List.Mem.head _ | apply List.Mem.tail)); done) rfl ?_ | refine Keep.grow (by (repeat (first | exact List.Mem.head _ | apply List.Mem.tail)); done) (by assumption) ?_ | refine Keep.base (by assumption) ?_)) (by kernel_rfl) ?_
  refine hwXJ ?_
  exact HX.ret1 rfl rfl fun w' hM => ⟨rfl, hM.tail⟩
end Go.Sx
/- Chapter 20: Key, Encode. -/
namespace Go.Sx
open Go Go.Proofs Go.RowKit
theorem hwXK {G G2 : Prop} (x : G2) (hwq : Hold G2 → G := by
    intro hQq
    repeat' (first | refine HL.pa ?_ (POp.fnil0 rfl rfl) | refine HL.pa ?_ (POp.fnil1 rfl rfl) | refine HL.pa ?_ (POp.nilCheck rfl) | apply HL.fold | apply HA.fold | apply HL.nil | apply HX.n_then | apply HC.seq | apply HC.region | refine HL.pa ?_ | refine HL.ga rfl ?_ | refine HL.na rfl ?_ | refine HL.nu rfl rfl ?_ | apply HC.block | apply HC.skip | apply HC.exit | apply HC.ret | apply HX.e_block | refine HX.e_other rfl ?_ | apply HX.e_then | apply HX.e_again | apply HX.n_block | apply HX.r_then | apply HX.r_block | apply HX.r_again | refine HC.cond_yes rfl ?_ | refine HC.cond_no rfl ?_ | refine HL.one (H1.ldb rfl memA rfl rfl ?_) | refine HC.cond rfl (fun hc => ?_) (fun hc => ?_) | refine HC.cond_b rfl (fun hc => ?_) (fun hc => ?_))
    exact hQq.get) : G := hwq ⟨x⟩
noncomputable def keyS (r : Rc) : ByteArray := if validB r = true then ⟨(keyR r).toArray⟩ else ⟨#[]⟩
noncomputable def encS (r : Rc) : ByteArray := if validB r = true then ⟨(encR r).toArray⟩ else ⟨#[]⟩
theorem keyF_ok (k : Int) : keyF k < 10 ∧ keyF k ≠ 8 := by
  unfold keyF
  repeat' split
  all_goals decide
theorem key_field {k : Int} (h : 1 ≤ k ∧ k ≤ 8) : (keyF k, 1, 1000000) ∈ specF k := by
  rcases (show k = 1 ∨ k = 2 ∨ k = 3 ∨ k = 4 ∨ k = 5 ∨ k = 6 ∨ k = 7 ∨ k = 8 by omega) with rfl | rfl | rfl | rfl | rfl | rfl | rfl | rfl <;> decide
theorem num_lim {r : Rc} (h : ValidR r) : 1 ≤ r.get (keyF r.kind) ∧ r.get (keyF r.kind) ≤ 1000000 := h.lim _ (key_field h.kind)
theorem keyR_put (r : Rc) : [] ++ putL [r.kind, r.get (keyF r.kind)] = keyR r := by
  unfold putL keyR
  simp
theorem putN_ne (n : Nat) : 0 < (putN n).length := vint_pos _
theorem keyR_ne (r : Rc) : keyR r ≠ [] := fun e => by
  have h1 := putN_ne r.kind.toNat
  have h2 := congrArg List.length e
  unfold keyR at h2
  rw [List.length_append, List.length_nil] at h2
  omega
theorem shapeC_one (z : Option Addr × Nat) (k : Int) : ∀ v ∈ shapeC z k, v.oneCell' = true := by
  unfold shapeC; intro v hv; simp only [List.mem_cons, List.not_mem_nil, or_false] at hv; rcases hv with rfl | rfl | rfl | rfl | rfl <;> rfl
attribute [local irreducible] WC WL WX POp Then Again Fn NX W1 WA WO QL RP RA Yld LoopAt HC HL HX HN H1 HA HO HQ HB HP A.blk A.grow A.rd A.obj A.mp AgainH CutH
attribute [local irreducible] specF keyF
set_option maxHeartbeats 2000000 in
theorem key_fn (r : Rc) (hr : RcOk r) (w : World) : Fn Tryz.prog 76 #[recV r] w fun v w' => v = .string (keyS r) ∧ Ext w w' := by
  refine enterH (l := [_]) rfl Tryz.ntmps76 rfl ?_
  refine hwXK ?_
  refine HL.one (H1.boxAgg (cs := rcells r) rfl rfl (fun b1 => ?_))
  refine hwXK ?_
  refine HL.one (H1.ldAgg (vs := rcells r) rfl memA rfl (fun i v hv => by rw [Nat.zero_add]; exact hv) rfl ?_)
  refine hwXK ?_
  refine HL.one (H1.callx (vs := [recV r]) rfl rfl (fun w' _ => valid_fn r hr w') ?_)
  by_cases hv : ValidR r
  rotate_left
  · rw [validB_no hv]
    refine hwXK ?_
    exact HX.ret1 rfl rfl fun w' hM => ⟨by unfold keyS; rw [validB_no hv]; rfl, hM.ext⟩
  rw [validB_yes hv]
  refine hwXK ?_
  refine HL.one (H1.callz1 (vs := [zv r.kind]) rfl rfl (fun w' _ => shapeOf_fn r.kind hv.kind w') ?_)
  rintro ⟨a, c⟩ -
  refine hwXK ?_
  refine HL.one (H1.alloc (cs := [.slice none 0 0, .nilFunc, zv 0, zv 0, .nilFunc]) rfl rfl (fun b3 => ?_))
  refine hwXK ?_
  refine HL.one (H1.stAgg (cs := [.slice none 0 0, .nilFunc, zv 0, zv 0, .nilFunc]) (vs := shapeC (a, c) r.kind) rfl rfl rfl (shapeC_one _ _) rplA rfl ?_)
  simp only [shapeC]
  refine hwXK ?_
  refine HL.one (H1.alloc (cs := [.pointer none, .slice none 0 0]) rfl rfl (fun b5 => ?_))
  refine hwXK ?_
  refine HC.grow0 5 1 ?_
  have hkf := keyF_ok r.kind
  have hnum := num_lim hv
  have hkind := hv.kind
  have hkR := keyR_put r
  obtain ⟨go, hgf⟩ := getter_ok hkf.1 hkf.2
  have hcell := cells_get r hkf.1 hkf.2
  have hok : ∀ x ∈ [r.kind, r.get (keyF r.kind)], 0 ≤ x ∧ x ≤ 1099511627776 := by
    intro x hx
    simp only [List.mem_cons, List.not_mem_nil, or_false] at hx
    rcases hx with rfl | rfl <;> omega
  refine HC.anyC ([(⟨b1, 0, none⟩, zv r.kind), (⟨b3, 1, none⟩, fnV (fid (keyF r.kind)))]) rfl ?_
  refine HB.pa 0 rfl ?_
  refine HB.ld 1 rfl rfl memD ?_
  refine HB.pa 2 rfl ?_
  refine HB.pa 3 rfl ?_
  refine HB.ld 4 rfl rfl memD ?_
  refine HB.all (by repeat (first | exact Keep.nil | refine Keep.blk (by (repeat (first | exact List.Mem.head _ | apply List.Mem.tail)); done) rfl ?_ | refine Keep.grow (by (repeat (first | exact List.Mem.head _ | apply List.Mem.tail)); done) (by assumption) ?_ | refine Keep.base (by assumption) ?_)) [5] (by kernel_rfl) rfl ⟨⟨_, rfl, ?_⟩, trivial⟩
  refine HP.one ?_
  refine H1.callv0 (hf := go) (f := fid (keyF r.kind)) (cap := []) (vs := [.pointer (some ⟨b1, 0, none⟩)]) rfl rfl rfl (fun w' _ => call1w (hgf b1 w')) ?_
  apply HB.fold
  refine HB.pa 6 rfl ?_ (POp.nilCheck rfl)
  refine HB.all (by repeat (first | exact Keep.nil | refine Keep.blk (by (repeat (first | exact List.Mem.head _ | apply List.Mem.tail)); done) rfl ?_ | refine Keep.grow (by (repeat (first | exact List.Mem.head _ | apply List.Mem.tail)); done) (by assumption) ?_ | refine Keep.base (by assumption) ?_)) [7] (by kernel_rfl) rfl ⟨⟨_, rfl, ?_⟩, trivial⟩
  refine HP.one ?_
  refine H1.ldb (v := zv (r.get (keyF r.kind))) rfl memA hcell rfl ?_
  apply HB.fold
  refine HB.all (by repeat (first | exact Keep.nil | refine Keep.blk (by (repeat (first | exact List.Mem.head _ | apply List.Mem.tail)); done) rfl ?_ | refine Keep.grow (by (repeat (first | exact List.Mem.head _ | apply List.Mem.tail)); done) (by assumption) ?_ | refine Keep.base (by assumption) ?_)) [8] (by kernel_rfl) rfl ⟨⟨_, rfl, ?_⟩, trivial⟩
  refine HP.one ?_
  refine H1.lit (cs := [zv r.kind, zv (r.get (keyF r.kind))]) rfl rfl rfl rfl rfl rfl (fun b8 => ?_)
  apply HB.fold
  refine HB.all (by repeat (first | exact Keep.nil | refine Keep.blk (by (repeat (first | exact List.Mem.head _ | apply List.Mem.tail)); done) rfl ?_ | refine Keep.grow (by (repeat (first | exact List.Mem.head _ | apply List.Mem.tail)); done) (by assumption) ?_ | refine Keep.base (by assumption) ?_)) [9] (by kernel_rfl) rfl ⟨⟨_, rfl, ?_⟩, trivial⟩
  refine HP.one ?_
  refine H1.callk (α := Option Addr × Option Addr × Nat) (V := fun _ => .tuple #[]) (I := fun q => q.1 = none ∨ q.1 = some ⟨b5, 0, none⟩) (H' := fun q => bldH b5 q.1 q.2.1 q.2.2 ([] ++ putL [r.kind, r.get (keyF r.kind)]) [A.blk b3 [.slice a (specF r.kind).length c, fnV (fid (keyF r.kind)), zv 1, zv 1000000, fnV (rid r.kind)] 227, A.blk b1 (rcells r) 36]) (vs := [.pointer (some ⟨b5, 0, none⟩), .slice (some ⟨b8, 0, none⟩) 2 2]) rfl rfl (fun w' hM => put_fn (ys := []) (p := none) (a := none) (c := 0) [r.kind, r.get (keyF r.kind)] (hM.sub (by show Hs _ [A.blk b5 [.pointer none, .slice none 0 0] 232, A.grow 5 1 none 0 0 [], A.blk b8 [zv r.kind, zv (r.get (keyF r.kind))] 3, A.blk b3 _ _, A.blk b1 _ _]; repeat (first | exact Hs.nil _ | (refine Hs.cons pickA ?_)))) (.inl rfl) hok (by show 0 + 9 * 2 ≤ 1000000; decide)) ?_
  rintro ⟨p', a', c'⟩ hp'
  rw [hkR]
  apply HB.fold
  refine HB.done (by repeat (first | exact Keep.nil | refine Keep.blk (by (repeat (first | exact List.Mem.head _ | apply List.Mem.tail)); done) rfl ?_ | refine Keep.grow (by (repeat (first | exact List.Mem.head _ | apply List.Mem.tail)); done) (by assumption) ?_ | refine Keep.base (by assumption) ?_)) (by kernel_rfl) ?_
  refine hwXK ?_
  refine HL.one (H1.callk (α := Unit) (V := fun _ => .string ⟨(keyR r).toArray⟩) (I := fun _ => True) (H' := fun _ => []) (vs := [.pointer (some ⟨b5, 0, none⟩)]) rfl rfl (fun w' hM => (builderString_fn (hM.sub (Hs.cons Pick.here (Hs.cons Pick.here (Hs.nil _)))) (keyR_ne r)).mono fun v w' h => ⟨(), trivial, h⟩) ?_)
  rintro - -
  refine hwXK ?_
  exact HX.ret1 rfl rfl fun w' hM => ⟨by unfold keyS; rw [validB_yes hv]; rfl, hM.ext⟩
end Go.Sx

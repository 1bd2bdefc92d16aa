/-
  Scopes; maps whose keys are pairs of numbers.
-/
import Derived.Test.YtfjkdciblblalaaGreatDoorHx6
import Derived.Scope
namespace Go.Sx
open Go Go.RowKit
theorem run_equal2 {P : Program} {w : World} {t e : TypeId} {z : Value} {bb : Nat} (ht : P.underlying t = some (.array 2 e)) (he : P.underlying e = some (.int .i64)) [hi : ITy P e z 1 bb] [ha : ATy P e false] (d : Nat) (a b c f : Int) :
    (Op.equalIn (d + 2) t (.agg #[.int .i64 a, .int .i64 b]) (.agg #[.int .i64 c, .int .i64 f])).run P w = .ok ((a == c) && (b == f)) w := by
  have hp : ∀ (cs : Array Value) (i : Nat) (v : Value), cs[i]? = some v → (part e cs i).run P w = .ok v w := fun cs i v hv => by
    simp [part, Sem.run_bind, run_isAgg, Result.andThen, hv]
  have hq : ∀ x y : Int, (Op.equalIn (d + 1) e (.int .i64 x) (.int .i64 y)).run P w = .ok (x == y) w := fun x y => by
    simp [Op.equalIn, Sem.run_bind, run_underlying he, Result.andThen]
  have h0 := hp #[.int .i64 a, .int .i64 b] 0 (.int .i64 a) rfl
  have h1 := hp #[.int .i64 a, .int .i64 b] 1 (.int .i64 b) rfl
  have h2 := hp #[.int .i64 c, .int .i64 f] 0 (.int .i64 c) rfl
  have h3 := hp #[.int .i64 c, .int .i64 f] 1 (.int .i64 f) rfl
  have h4 := hq a c
  have h5 := hq b f
  generalize (a == c) = u at *
  generalize (b == f) = v at *
  rw [show d + 2 = (d + 1) + 1 from rfl]
  unfold Op.equalIn
  simp only [Sem.run_bind, run_underlying ht, Result.andThen, run_sizeOf (h := hi)]
  cases u <;> cases v <;> simp [Std.Legacy.Range.forIn_eq_forIn_range', Std.Legacy.Range.size, List.range', Sem.run_bind, Result.andThen, h0, h1, h2, h3, h4, h5]
def kv (a b : Int) : Value := .agg #[.int .i64 a, .int .i64 b]
theorem kv_inj {a b c d : Int} (h : kv a b = kv c d) : a = c ∧ b = d := by
  unfold kv at h
  injection h with h
  have := congrArg Array.toList h
  simpa using this
/-- A map of counts: what is not there counts 0. -/
structure M2 (g : Int → Int → Int) (es : Array MapEntry) (clk : Nat) : Prop where
  born : ∀ (i : Nat) (e : MapEntry), es[i]? = some e → e.born < clk
  bnd : ∀ (i j : Nat) (e f : MapEntry), es[i]? = some e → es[j]? = some f → e.born = f.born → i = j
  knd : ∀ (i j : Nat) (e f : MapEntry), es[i]? = some e → es[j]? = some f → e.key = f.key → i = j
  ent : ∀ (i : Nat) (e : MapEntry), es[i]? = some e → ∃ a b, e.key = kv a b ∧ e.val = .int .i64 (g a b)
  out : ∀ a b, (∀ (i : Nat) (e : MapEntry), es[i]? = some e → e.key ≠ kv a b) → g a b = 0
def m2P (g : Int → Int → Int) (o : Obj) : Prop := ∃ es clk, o = .map es clk ∧ M2 g es clk
def m2E (g : Int → Int → Int) (a b : Int) (st : Nat) (o : Obj) : Prop := ∃ es clk, o = .map es clk ∧ M2 g es clk ∧ ∃ (i : Nat) (e : MapEntry), es[i]? = some e ∧ e.born = st ∧ e.key = kv a b
def upd2 (g : Int → Int → Int) (a b v : Int) : Int → Int → Int := fun x y => if x = a ∧ y = b then v else g x y
theorem m2_empty : M2 (fun _ _ => 0) #[] 0 := ⟨by simp, by simp, by simp, by simp, fun _ _ _ => rfl⟩
section
variable {P : Program} {w : World} {t k e : TypeId} {z : Value} {bb : Nat}
theorem run_checkKey2 (hk : P.underlying k = some (.array 2 e)) (he : P.underlying e = some (.int .i64)) [hi : ITy P e z 1 bb] [ha : ATy P e false] (em : Bool) (n : Nat) (a b : Int) : (Instr.checkKey em (n + 2) k (kv a b)).run P w = .ok () w := by
  have hp : ∀ (cs : Array Value) (i : Nat) (v : Value), cs[i]? = some v → (part e cs i).run P w = .ok v w := fun cs i v hv => by
    simp [part, Sem.run_bind, run_isAgg, Result.andThen, hv]
  have hc : ∀ x : Int, (Instr.checkKey em (n + 1) e (.int .i64 x)).run P w = .ok () w := fun x => run_checkKey_int he em n x
  have h0 := hp #[.int .i64 a, .int .i64 b] 0 (.int .i64 a) rfl
  have h1 := hp #[.int .i64 a, .int .i64 b] 1 (.int .i64 b) rfl
  rw [show n + 2 = (n + 1) + 1 from rfl]
  unfold Instr.checkKey kv
  simp only [Sem.run_bind, run_underlying hk, Result.andThen]
  simp [Std.Legacy.Range.forIn_eq_forIn_range', Std.Legacy.Range.size, List.range', Sem.run_bind, Result.andThen, run_sizeOf (h := hi), h0, h1, hc]
theorem run_keyStays2 (a b : Int) : (Instr.keyThatStays (kv a b) (kv a b)).run P w = .ok (kv a b) w := by
  have : Instr.sameBits 10000 (kv a b) (kv a b) = true := by unfold kv Instr.sameBits; simp [Instr.sameBits]
  unfold Instr.keyThatStays
  rw [this]; rfl
theorem run_asking2 (hk : P.underlying k = some (.array 2 e)) (he : P.underlying e = some (.int .i64)) [hi : ITy P e z 1 bb] [ha : ATy P e false] (a b : Int) : ∀ (l : List MapEntry) (i : Nat), (∀ x ∈ l, ∃ c d, x.key = kv c d) →
    ((Instr.findAsking k (kv a b) l i).run P w = .ok none w ∧ ∀ x ∈ l, x.key ≠ kv a b) ∨ ∃ j x, l[j]? = some x ∧ x.key = kv a b ∧ (Instr.findAsking k (kv a b) l i).run P w = .ok (some (i + j, x.val)) w
  | [], i, _ => .inl ⟨rfl, by simp⟩
  | x :: l, i, h => by
    obtain ⟨c, d, hx⟩ := h x (by simp)
    have heq : (Op.equal k (kv a b) x.key).run P w = .ok ((a == c) && (b == d)) w := by rw [hx]; exact run_equal2 hk he 9998 a b c d
    unfold Instr.findAsking
    simp only [Sem.run_bind, heq, Result.andThen]
    by_cases h1 : a = c ∧ b = d
    · right
      obtain ⟨rfl, rfl⟩ := h1
      exact ⟨0, x, rfl, hx, by simp⟩
    · have hb : ((a == c) && (b == d)) = false := by
        rw [Bool.and_eq_false_iff]
        by_cases e1 : a = c
        · right; exact beq_eq_false_iff_ne.2 fun e2 => h1 ⟨e1, e2⟩
        · left; exact beq_eq_false_iff_ne.2 e1
      have hne : x.key ≠ kv a b := fun e2 => by rw [hx] at e2; have := kv_inj e2; exact h1 ⟨this.1.symm, this.2.symm⟩
      rw [hb]
      rcases run_asking2 hk he a b l (i + 1) (fun y hy => h y (by simp [hy])) with ⟨h2, h3⟩ | ⟨j, y, h2, h3, h4⟩
      · left
        refine ⟨by simpa using h2, fun y hy => ?_⟩
        rcases List.mem_cons.1 hy with rfl | hy
        · exact hne
        · exact h3 y hy
      · right
        refine ⟨j + 1, y, by simpa using h2, h3, ?_⟩
        rw [show i + (j + 1) = i + 1 + j by omega]
        simpa using h4
theorem run_find2 (hk : P.underlying k = some (.array 2 e)) (he : P.underlying e = some (.int .i64)) [hi : ITy P e z 1 bb] [ha : ATy P e false] {g : Int → Int → Int} {es : Array MapEntry} {clk : Nat} (h : M2 g es clk) (a b : Int) :
    ((Instr.findKey k (kv a b) es.toList).run P w = .ok none w ∧ ∀ (i : Nat) (x : MapEntry), es[i]? = some x → x.key ≠ kv a b) ∨ ∃ (j : Nat) (x : MapEntry), es[j]? = some x ∧ x.key = kv a b ∧ (Instr.findKey k (kv a b) es.toList).run P w = .ok (some (j, x.val)) w := by
  have hkey : ∀ x ∈ es.toList, ∃ c d, x.key = kv c d := fun x hx => by
    obtain ⟨i, hi, rfl⟩ := List.getElem_of_mem hx
    obtain ⟨c, d, h1, -⟩ := h.ent i _ (by simpa using (Array.getElem?_eq_getElem (xs := es) (by simpa using hi)))
    exact ⟨c, d, by simpa using h1⟩
  have hf : (Instr.findKey k (kv a b) es.toList).run P w = (Instr.findAsking k (kv a b) es.toList).run P w := by
    unfold Instr.findKey
    simp only [Sem.run_bind, run_underlying hk, Result.andThen]
    cases hl : es.toList with
    | nil => rfl
    | cons x l =>
      obtain ⟨c, d, hx⟩ := hkey x (by rw [hl]; simp)
      have : Instr.findNow (.array 2 e) (kv a b) (x :: l) 0 = none := by unfold Instr.findNow; rw [hx]; rfl
      rw [this]
  rw [hf]
  rcases run_asking2 (w := w) hk he a b es.toList 0 hkey with ⟨h1, h2⟩ | ⟨j, x, h1, h2, h3⟩
  · exact .inl ⟨h1, fun i x hx => h2 x (by rw [← Array.getElem?_toList] at hx; exact List.mem_of_getElem? hx)⟩
  · exact .inr ⟨j, x, by rw [← Array.getElem?_toList]; exact h1, h2, by rw [h3, Nat.zero_add]⟩
theorem run_lookup2 (ht : P.underlying t = some (.map k e)) (hk : P.underlying k = some (.array 2 e)) (he : P.underlying e = some (.int .i64)) [hi : ITy P e (.int .i64 0) 1 bb] [ha : ATy P e false] {g : Int → Int → Int} {r : Nat} {o : Obj} (hb : w.heap[r]? = some o) (ho : m2P g o) (a b : Int) :
    (Instr.lookup t (.map (some r)) (kv a b) false).run P w = .ok (.int .i64 (g a b)) w := by
  obtain ⟨es, clk, rfl, h⟩ := ho
  unfold Instr.lookup
  simp only [Sem.run_bind, run_underlying ht, Result.andThen, run_getMap hb, Sem.run_pure, run_checkKey2 hk he _ 9998 a b]
  rcases run_find2 (w := w) hk he h a b with ⟨h1, h2⟩ | ⟨j, x, h1, h2, h3⟩
  · simp [h1, run_zeroValue (h := hi), h.out a b h2]
  · obtain ⟨c, d, h4, h5⟩ := h.ent j x h1
    rw [h2] at h4
    obtain ⟨rfl, rfl⟩ := kv_inj h4
    simp [h3, h5]
theorem modify_get {es : Array MapEntry} {i : Nat} {f : MapEntry → MapEntry} {j : Nat} {x : MapEntry} (h : (es.modify i f)[j]? = some x) : ∃ y, es[j]? = some y ∧ x = if i = j then f y else y := by
  rw [Array.getElem?_modify] at h
  by_cases e : i = j
  · rw [if_pos e, Option.map_eq_some_iff] at h
    obtain ⟨y, h1, h2⟩ := h
    exact ⟨y, h1, by rw [if_pos e, h2]⟩
  · rw [if_neg e] at h
    exact ⟨x, h, by rw [if_neg e]⟩
theorem run_mapEntry2 (ht : P.underlying t = some (.map k e)) (hk : P.underlying k = some (.array 2 e)) (he : P.underlying e = some (.int .i64)) [hi : ITy P e (.int .i64 0) 1 bb] [ha : ATy P e false] {g : Int → Int → Int} {r : Nat} {o : Obj} (hb : w.heap[r]? = some o) (ho : m2P g o) (a b : Int) :
    ∃ (o' : Obj) (st : Nat), (Instr.mapEntry t (.map (some r)) (kv a b)).run P w = .ok (.tuple #[.int .i64 (g a b), .int .i64 (st : Int)]) (w.putObj r o') ∧ m2E g a b st o' := by
  obtain ⟨es, clk, rfl, h⟩ := ho
  rcases run_find2 (w := w) hk he h a b with ⟨h1, h2⟩ | ⟨j, x, h1, h2, h3⟩
  · refine ⟨.map (es.push { key := kv a b, val := .int .i64 0, born := clk }) (clk + 1), clk, ?_, _, _, rfl, ?_, es.size, _, by simp; rfl, rfl, rfl⟩
    · unfold Instr.mapEntry
      simp only [Sem.run_bind, run_underlying ht, Result.andThen, run_getMap hb, run_checkKey2 hk he _ 9998 a b, h1, run_zeroValue (h := hi), run_setMap _ hb, Sem.run_pure]
      rw [h.out a b h2]; rfl
    · have hg : ∀ (i : Nat) (x : MapEntry), (es.push { key := kv a b, val := .int .i64 0, born := clk })[i]? = some x → (i = es.size ∧ x = { key := kv a b, val := .int .i64 0, born := clk }) ∨ (i < es.size ∧ es[i]? = some x) := fun i x hx => by
        rw [Array.getElem?_push] at hx
        split at hx
        · left; exact ⟨by assumption, by simpa using hx.symm⟩
        · right; exact ⟨(Array.getElem?_eq_some_iff.1 hx).1, hx⟩
      refine ⟨fun i x hx => ?_, fun i j x y hx hy hxy => ?_, fun i j x y hx hy hxy => ?_, fun i x hx => ?_, fun c d hcd => ?_⟩
      · rcases hg i x hx with ⟨-, rfl⟩ | ⟨-, hx⟩
        · exact Nat.lt_succ_self _
        · exact Nat.lt_succ_of_lt (h.born i x hx)
      · rcases hg i x hx with ⟨e1, rfl⟩ | ⟨e1, hx⟩ <;> rcases hg j y hy with ⟨e2, rfl⟩ | ⟨e2, hy⟩
        · omega
        · have := h.born j y hy
          dsimp only at hxy; omega
        · have := h.born i x hx
          dsimp only at hxy; omega
        · exact h.bnd i j x y hx hy hxy
      · rcases hg i x hx with ⟨e1, rfl⟩ | ⟨e1, hx⟩ <;> rcases hg j y hy with ⟨e2, rfl⟩ | ⟨e2, hy⟩
        · omega
        · exact absurd hxy.symm (h2 j y hy)
        · exact absurd hxy (h2 i x hx)
        · exact h.knd i j x y hx hy hxy
      · rcases hg i x hx with ⟨e1, rfl⟩ | ⟨e1, hx⟩
        · exact ⟨a, b, rfl, by rw [h.out a b h2]⟩
        · exact h.ent i x hx
      · refine h.out c d fun i x hx => hcd i x ?_
        rw [Array.getElem?_push_lt (Array.getElem?_eq_some_iff.1 hx).1]
        have := (Array.getElem?_eq_some_iff.1 hx).2
        rw [this]
  · have hj : j < es.size := (Array.getElem?_eq_some_iff.1 h1).1
    have hsame : ∀ (i : Nat) (x' : MapEntry), (es.modify j fun e => { e with key := kv a b })[i]? = some x' → es[i]? = some x' := fun i x' hx' => by
      obtain ⟨y, h4, h5⟩ := modify_get hx'
      by_cases e1 : j = i
      · subst e1
        rw [if_pos rfl] at h5
        rw [h1] at h4; cases h4
        rw [h5, h1]
        congr 1
        rw [← h2]
      · rw [if_neg e1] at h5; rw [h5]; exact h4
    have hsame2 : ∀ (i : Nat) (x' : MapEntry), es[i]? = some x' → (es.modify j fun e => { e with key := kv a b })[i]? = some x' := fun i x' hx' => by
      rw [Array.getElem?_modify]
      by_cases e1 : j = i
      · subst e1
        rw [if_pos rfl, hx', Option.map_some]
        rw [h1] at hx'; cases hx'
        congr 1
        rw [← h2]
      · rw [if_neg e1]; exact hx'
    obtain ⟨c, d, h4, h5⟩ := h.ent j x h1
    rw [h2] at h4
    obtain ⟨rfl, rfl⟩ := kv_inj h4
    refine ⟨.map (es.modify j fun e => { e with key := kv a b }) clk, x.born, ?_, _, _, rfl, ?_, j, x, hsame2 j x h1, rfl, h2⟩
    · unfold Instr.mapEntry
      have h6 : ((es[j]?).map (·.key)).getD (kv a b) = kv a b := by rw [h1]; exact h2
      have h7 : (Option.map (fun (x : MapEntry) => (x.born : Int)) es[j]?).getD 0 = (x.born : Int) := by rw [h1]; rfl
      simp only [Sem.run_bind, run_underlying ht, Result.andThen, run_getMap hb, run_checkKey2 hk he _ 9998 a b, h3, h6, run_keyStays2, run_setMap _ hb, Sem.run_pure, h7, h5]
      rfl
    · exact ⟨fun i x hx => h.born i x (hsame i x hx), fun i j x y hx hy hxy => h.bnd i j x y (hsame i x hx) (hsame j y hy) hxy, fun i j x y hx hy hxy => h.knd i j x y (hsame i x hx) (hsame j y hy) hxy, fun i x hx => h.ent i x (hsame i x hx),
        fun c d hcd => h.out c d fun i x hx => hcd i x (hsame2 i x hx)⟩
theorem run_entryStore2 {g : Int → Int → Int} {r : Nat} {o : Obj} {a b v : Int} {st : Nat} (hb : w.heap[r]? = some o) (ho : m2E g a b st o) :
    ∃ o', (Instr.entryStore t (.map (some r)) (.int .i64 (st : Int)) (.int .i64 v)).run P w = .ok () (w.putObj r o') ∧ m2P (upd2 g a b v) o' := by
  obtain ⟨es, clk, rfl, h, i, x, h1, rfl, h2⟩ := ho
  have hi := Array.getElem?_eq_some_iff.1 h1
  have hil := hi.1
  have hidx : es.findIdx? (fun e => ((e.born : Nat) : Int) == ((x.born : Nat) : Int)) = some i := by
    rw [Array.findIdx?_eq_some_iff_getElem]
    refine ⟨hi.1, by rw [hi.2]; simp, fun j hj => ?_⟩
    have hj2 : j < es.size := by omega
    intro e1
    have e2 : es[j].born = x.born := by
      rw [beq_iff_eq] at e1
      exact Int.ofNat_inj.1 e1
    have := h.bnd j i es[j] x (by simp [hj2]) h1 e2
    omega
  refine ⟨.map (es.modify i fun e => { e with val := .int .i64 v }) clk, ?_, _, _, rfl, ?_⟩
  · unfold Instr.entryStore
    simp only [Sem.run_bind, Sem.run_pure, Result.andThen, run_getMap hb, asInt, asIntOf, hidx, run_setMap _ hb]
  · have hg : ∀ (j : Nat) (y : MapEntry), (es.modify i fun e => { e with val := .int .i64 v })[j]? = some y → ∃ y0 : MapEntry, es[j]? = some y0 ∧ y.key = y0.key ∧ y.born = y0.born ∧ y.val = if i = j then .int .i64 v else y0.val := fun j y hy => by
      obtain ⟨y0, h3, h4⟩ := modify_get hy
      refine ⟨y0, h3, ?_⟩
      by_cases e1 : i = j
      · rw [if_pos e1] at h4; subst h4; simp [e1]
      · rw [if_neg e1] at h4; subst h4; simp [e1]
    have hg2 : ∀ (j : Nat) (y0 : MapEntry), es[j]? = some y0 → ∃ y : MapEntry, (es.modify i fun e => { e with val := .int .i64 v })[j]? = some y ∧ y.key = y0.key := fun j y0 hy0 => by
      rw [Array.getElem?_modify]
      by_cases e1 : i = j
      · rw [if_pos e1, hy0]; exact ⟨_, rfl, rfl⟩
      · rw [if_neg e1]; exact ⟨_, hy0, rfl⟩
    refine ⟨fun j y hy => ?_, fun j k y z hy hz hyz => ?_, fun j k y z hy hz hyz => ?_, fun j y hy => ?_, fun c d hcd => ?_⟩
    · obtain ⟨y0, h3, -, h4, -⟩ := hg j y hy
      rw [h4]; exact h.born j y0 h3
    · obtain ⟨y0, h3, -, h4, -⟩ := hg j y hy
      obtain ⟨z0, h5, -, h6, -⟩ := hg k z hz
      exact h.bnd j k y0 z0 h3 h5 (by rw [← h4, ← h6, hyz])
    · obtain ⟨y0, h3, h4, -, -⟩ := hg j y hy
      obtain ⟨z0, h5, h6, -, -⟩ := hg k z hz
      exact h.knd j k y0 z0 h3 h5 (by rw [← h4, ← h6, hyz])
    · obtain ⟨y0, h3, h4, -, h5⟩ := hg j y hy
      obtain ⟨c, d, h6, h7⟩ := h.ent j y0 h3
      refine ⟨c, d, by rw [h4, h6], ?_⟩
      rw [h5]
      unfold upd2
      by_cases e1 : i = j
      · subst e1
        rw [h1] at h3; cases h3
        rw [h2] at h6
        obtain ⟨rfl, rfl⟩ := kv_inj h6
        rw [if_pos rfl, if_pos ⟨rfl, rfl⟩]
      · rw [if_neg e1, if_neg, h7]
        rintro ⟨rfl, rfl⟩
        exact e1 (h.knd i j x y0 h1 h3 (by rw [h2, h6]))
    · unfold upd2
      rw [if_neg]
      · refine h.out c d fun j y0 hy0 => ?_
        obtain ⟨y, h3, h4⟩ := hg2 j y0 hy0
        rw [← h4]; exact hcd j y h3
      · rintro ⟨rfl, rfl⟩
        obtain ⟨y, h3, h4⟩ := hg2 i x h1
        exact hcd i y h3 (by rw [h4, h2])
end
def A.m2 (b : Nat) (g : Int → Int → Int) : Atom := A.obj b (m2P g)
def A.m2e (r : Nat) (g : Int → Int → Int) (a b : Int) (st : Nat) : Atom := A.obj r (m2E g a b st)
section
variable {P : Program} {r : Option Nat} {N : Nat} {ds : List Deferred} {ol rest : List Oper} {Q : Post} {E : Env} {w0 : World} {H : List Atom} {next : Act → World → Prop} {g : Option (Nat × Bool)}
variable {d : Nat} {t ty : TypeId} {pos : String} {af : Array Edge} {x y z : Operand}
theorem H1.mkmap2 (hd : Nat.blt d N = true) (h : ∀ b, HN N ds next ((d, .map (some b)) :: E) w0 (A.m2 b (fun _ _ => 0) :: H)) : H1 P r N ds next ⟨some d, .makeMap t none, ty, pos, af, g⟩ Q E w0 H := fun w hM =>
  W1.run (v := .map (some w.heap.size)) (w' := w.alloc (.map #[] 0)) (fun _ _ => rfl) rfl hd (h _ _ (by
    refine (hM.more (Ext.alloc w _)).cons ⟨_, World.alloc_heap_new w _, _, _, rfl, m2_empty⟩ (by simp [A.m2, A.obj]) fun b hb => ?_
    have hb' : b = w.heap.size := by simpa [A.m2, A.obj] using hb
    subst hb'
    refine ⟨fun hm => ?_, hM.ext.size, by simp⟩
    have := (hM.rng _ hm).2
    omega))
theorem H1.lookup2 {b bb : Nat} {k e : TypeId} {f : Int → Int → Int} {m n : Int} [ht : UTy P t (.map k e)] [hk : UTy P k (.array 2 e)] [he : UTy P e (.int .i64)] [hi : ITy P e (.int .i64 0) 1 bb] [ha : ATy P e false]
    (hx : Env.ev E x = some (.map (some b))) (hy : Env.ev E y = some (kv m n)) (hm : A.m2 b f ∈ H) (hd : Nat.blt d N = true) (h : HN N ds next ((d, .int .i64 (f m n)) :: E) w0 H) :
    H1 P r N ds next ⟨some d, .lookup t x y false, ty, pos, af, g⟩ Q E w0 H := fun w hM => by
  obtain ⟨o, h1, h2⟩ : ∃ o, w.heap[b]? = some o ∧ m2P f o := hM.all _ hm
  refine W1.run (v := .int .i64 (f m n)) (w' := w) (fun a ha' => ?_) rfl hd (h w hM)
  simp only [execOp, ha'.ev hx, ha'.ev hy, Sem.run_bind, run_lookup2 ht.is hk.is he.is h1 h2 m n, Result.andThen, Sem.run_pure]
theorem H1.lookup2e {b bb : Nat} {st : Nat} {k e : TypeId} {f : Int → Int → Int} {m n p q : Int} [ht : UTy P t (.map k e)] [hk : UTy P k (.array 2 e)] [he : UTy P e (.int .i64)] [hi : ITy P e (.int .i64 0) 1 bb] [ha : ATy P e false]
    (hx : Env.ev E x = some (.map (some b))) (hy : Env.ev E y = some (kv m n)) (hm : A.m2e b f p q st ∈ H) (hd : Nat.blt d N = true) (h : HN N ds next ((d, .int .i64 (f m n)) :: E) w0 H) :
    H1 P r N ds next ⟨some d, .lookup t x y false, ty, pos, af, g⟩ Q E w0 H := fun w hM => by
  obtain ⟨o, h1, es, clk, rfl, h2, -⟩ : ∃ o, w.heap[b]? = some o ∧ m2E f p q st o := hM.all _ hm
  refine W1.run (v := .int .i64 (f m n)) (w' := w) (fun a ha' => ?_) rfl hd (h w hM)
  simp only [execOp, ha'.ev hx, ha'.ev hy, Sem.run_bind, run_lookup2 ht.is hk.is he.is h1 ⟨es, clk, rfl, h2⟩ m n, Result.andThen, Sem.run_pure]
theorem H1.mapEntry2 {b bb : Nat} {k e : TypeId} {f : Int → Int → Int} {m n : Int} {H' : Nat → List Atom} [ht : UTy P t (.map k e)] [hk : UTy P k (.array 2 e)] [he : UTy P e (.int .i64)] [hi : ITy P e (.int .i64 0) 1 bb] [ha : ATy P e false]
    (hx : Env.ev E x = some (.map (some b))) (hy : Env.ev E y = some (kv m n)) (hr : ∀ st, Rpl (A.m2 b f) (A.m2e b f m n st) H (H' st)) (hd : Nat.blt d N = true) (h : ∀ st : Nat, HN N ds next ((d, .tuple #[.int .i64 (f m n), .int .i64 (st : Int)]) :: E) w0 (H' st)) :
    H1 P r N ds next ⟨some d, .mapEntry t x y, ty, pos, af, g⟩ Q E w0 H := fun w hM => by
  obtain ⟨o, h1, h2⟩ : ∃ o, w.heap[b]? = some o ∧ m2P f o := hM.all _ (hr 0).mem
  obtain ⟨o', st, h3, h4⟩ := run_mapEntry2 (P := P) (t := t) ht.is hk.is he.is h1 h2 m n
  have hlt := (Array.getElem?_eq_some_iff.1 h1).1
  refine W1.run (v := .tuple #[.int .i64 (f m n), .int .i64 (st : Int)]) (w' := w.putObj b o') (fun a ha' => ?_) rfl hd (h st _ (hM.turn (hr st) rfl rfl rfl (by simp) (fun k _ hk' => ?_) ⟨o', World.putObj_heap_same hlt, h4⟩ (by simp [A.m2e, A.obj]) fun b' hb' => .inl hb'))
  · simp only [execOp, ha'.ev hx, ha'.ev hy, Sem.run_bind, h3, Result.andThen, Sem.run_pure]
  · exact World.putObj_heap_other (by simpa [A.m2, A.obj] using hk')
theorem H1.entryStore2 {b : Nat} {st : Nat} {f : Int → Int → Int} {m n v : Int} {H' : List Atom} (hx : Env.ev E x = some (.map (some b))) (hy : Env.ev E y = some (.int .i64 (st : Int))) (hz : Env.ev E z = some (.int .i64 v))
    (hr : Rpl (A.m2e b f m n st) (A.m2 b (upd2 f m n v)) H H') (h : HN N ds next E w0 H') : H1 P r N ds next ⟨none, .entryStore t x y z, ty, pos, af, g⟩ Q E w0 H := fun w hM => by
  obtain ⟨o, h1, h2⟩ : ∃ o, w.heap[b]? = some o ∧ m2E f m n st o := hM.all _ hr.mem
  obtain ⟨o', h3, h4⟩ := run_entryStore2 (P := P) (t := t) (v := v) h1 h2
  have hlt := (Array.getElem?_eq_some_iff.1 h1).1
  refine W1.skip (w' := w.putObj b o') (fun a ha' => ?_) rfl rfl (h _ (hM.turn hr rfl rfl rfl (by simp) (fun k _ hk' => ?_) ⟨o', World.putObj_heap_same hlt, h4⟩ (by simp [A.m2, A.obj]) fun b' hb' => .inl hb'))
  · simp only [execOp, ha'.ev hx, ha'.ev hy, ha'.ev hz, Sem.run_bind, h3, Result.andThen, Sem.run_pure]
  · exact World.putObj_heap_other (by simpa [A.m2e, A.obj] using hk')
end
/- scopes without jumps; labels -/
theorem stepR_scope {P : Program} {b : Frame} {a : Act} {k : List Item} {cs : List Frame} {w : World} {c : Code} : step P (lone (b.atR a (.code (.scope c) :: k)) cs w) = .next (lone (b.atR a (.code c :: .inScope c :: k)) cs w) :=
  step_lone_go (by simp [stepG, stepG.exec, Frame.atR])
theorem stepR_inScope {P : Program} {b : Frame} {a : Act} {k : List Item} {cs : List Frame} {w : World} {c : Code} : step P (lone (b.atR a (.inScope c :: k)) cs w) = .next (lone (b.atR a k) cs w) :=
  step_lone_go (by simp [stepG, stepG.exec, Frame.atR])
theorem wpIn_scope {F : Fence} {n : Nat} {P : Program} {Q : Post} {a : Act} {w : World} {c : Code} (h : c.wpIn F n P (Exit.noGoto Q) a w) : (Code.scope c).wpIn F n P Q a w := by
  intro b k cs hro hb hr
  have h0 : (lone (b.atR a (.code (.scope c) :: k)) cs w).fenced P F := fenced_calm hb hr rfl
  obtain ⟨e, a₁, w₁, hq, harr⟩ := h b (.inScope c :: k) cs hro hb hr
  cases e with
  | normal => exact ⟨.normal, a₁, w₁, hq, .head h0 stepR_scope (StepsIn.trans harr (.one (fenced_calm hb hr rfl) stepR_inScope))⟩
  | exit id => exact ⟨_, a₁, w₁, hq, .of_steps (.one h0 stepR_scope) ⟨fun k' hk => harr.1 k' (by simpa [exitTo] using hk), fun hr' hk => harr.2 hr' (by simpa [exitTo] using hk)⟩⟩
  | goto l => exact hq.elim
  | ret => exact ⟨_, a₁, w₁, hq, .of_steps (.one h0 stepR_scope) harr⟩
  | panic ch => exact ⟨_, a₁, w₁, hq, .of_steps (.one h0 stepR_scope) harr⟩
  | outgrown => exact ⟨_, a₁, w₁, hq, .of_steps (.one h0 stepR_scope) harr⟩
section
variable {P : Program} {r : Option Nat} {N : Nat} {ds : List Deferred} {Q : Post} {E : Env} {w0 : World} {H : List Atom}
theorem HC.scope {c : Code} (h : HC P r N ds c (Exit.noGoto Q) E w0 H) : HC P r N ds (.scope c) Q E w0 H := fun w hM a ha => wpIn_scope (h w hM a ha)
theorem HC.label {l : Nat} (h : HX N ds .normal Q E w0 H) : HC P r N ds (.label l) Q E w0 H := fun w hM a ha => wpIn_label (h w hM a ha)
theorem HX.n_scope (h : HX N ds .normal Q E w0 H) : HX N ds .normal (Exit.noGoto Q) E w0 H := h
theorem HX.r_scope (h : HX N ds .ret Q E w0 H) : HX N ds .ret (Exit.noGoto Q) E w0 H := h
instance {Q : Post} [h : QPanic Q] : QPanic (Exit.noGoto Q) := ⟨fun c a d v w hq => h.is c a d v w hq⟩
end
end Go.Sx


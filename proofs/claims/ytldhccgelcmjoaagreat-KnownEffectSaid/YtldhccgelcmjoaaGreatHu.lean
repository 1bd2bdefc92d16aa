/- A drawn region: an operation whose guard's own operation was not performed. -/
import Derived.Test.YtldhccgelcmjoaaGreatHx
namespace Go.Sx
open Go
theorem WA.nu {P : Program} {N : Nat} {ds : List Deferred} {ol : List Oper} {fuel : Nat} {listed : Array Bool} {Q : Post} {E : Env} {w : World} {d : Option Nat} {op : Op} {ty : TypeId} {pos : String} {af : Array Edge}
    {j : Nat} {want : Bool} [hq : QPanic Q] (i : Nat) (ho : ol[i]? = some ⟨d, op, ty, pos, af, some (j, want)⟩) (hs : (Region.noSelect ol.toArray && Region.free .any ol.toArray listed i && (Region.ready .any ol.toArray listed).contains i) = true)
    (hi : callsB op = false) (hj : guardU ol E j = true) (hd : dOk d N = true) (h : WA P N ds ol fuel (listed.setIfInBounds i true) Q (putE d undef E) w) : WA P N ds ol (fuel + 1) listed Q E w := by
  intro a ha
  simp only [Bool.and_eq_true] at hs
  have ho' : ol.toArray[i]? = some ⟨d, op, ty, pos, af, some (j, want)⟩ := by simpa using ho
  have hy := guardU_spec hj ha
  have hne : ((none : Option Bool) == some want) = false := by cases want <;> rfl
  refine wpAnyIn_take (F := FW none) rfl ho' hs.1.1 hs.1.2 hs.2 (fun c a w => hq.is c a _ _ w) ⟨.inr ⟨by simp only [Region.wanted, hy, hne], rfl⟩, fun w => ?_⟩ (h _ (ha.putO hd undef))
  unfold Oper.about
  cases op with
  | call c =>
    obtain ⟨cal, args, ats⟩ := c
    cases cal with
    | builtin b => simp [resolve, Target.leads]
    | value f => cases hi
    | invoke f m => cases hi
  | _ => rfl
theorem HA.nu {P : Program} {N : Nat} {ds : List Deferred} {ol : List Oper} {fuel : Nat} {listed : Array Bool} {Q : Post} {E : Env} {w0 : World} {H : List Atom} {d : Option Nat} {op : Op} {ty : TypeId} {pos : String} {af : Array Edge}
    {j : Nat} {want : Bool} [hq : QPanic Q] (i : Nat) (ho : ol[i]? = some ⟨d, op, ty, pos, af, some (j, want)⟩) (hj : guardU ol E j = true)
    (h : HA P N ds ol fuel (listed.setIfInBounds i true) Q (putE d undef E) w0 H)
    (hs : (Region.noSelect ol.toArray && Region.free .any ol.toArray listed i && (Region.ready .any ol.toArray listed).contains i) = true := by kernel_rfl)
    (hi : callsB op = false := by exact rfl)
    (hd : dOk d N = true := by exact rfl) : HA P N ds ol (fuel + 1) listed Q E w0 H := fun w hM => WA.nu i ho hs hi hj hd (h w hM)
end Go.Sx


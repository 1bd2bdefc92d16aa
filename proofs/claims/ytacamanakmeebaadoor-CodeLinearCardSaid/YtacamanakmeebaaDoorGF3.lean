/- Plain: a fragment computed from others. -/
import Derived.Test.YtacamanakmeebaaDoorGF2
import Derived.Test.YtacamanakmeebaaDoorSxMore
namespace Go.Sx
def fr (frs : List ByteArray) (i : Nat) : ByteArray := frs.getD i ByteArray.empty
def strs (l : List ByteArray) : List Value := l.map .string
theorem strs_get {l : List ByteArray} {i : Nat} (h : i < l.length) : (strs l)[i]? = some (.string (fr l i)) := by
  simp [strs, fr, h]
def cmpF (frs : List ByteArray) (W : Nat → Nat) (at' acc i : Nat) : Nat := acc ^^^ mulN (W i) (sb (fr frs i) at')
def cmpS (frs : List ByteArray) (nums : List Nat) (W : Nat → Nat) (at' : Nat) : Nat := nums.foldl (cmpF frs W at') 0
def cmpStr (frs : List ByteArray) (nums : List Nat) (W : Nat → Nat) (m : Nat) : ByteArray := ⟨((List.range m).map fun q => UInt8.ofNat (cmpS frs nums W q)).toArray⟩
theorem cmpFold_lt (frs : List ByteArray) (W : Nat → Nat) (q : Nat) : ∀ (l : List Nat) (a : Nat), a < 256 → l.foldl (cmpF frs W q) a < 256
  | [], _, h => h
  | _ :: l, _, h => cmpFold_lt frs W q l _ (Nat.xor_lt_two_pow (n := 8) h mulN_lt)
theorem cmpS_lt (frs : List ByteArray) (nums : List Nat) (W : Nat → Nat) (q : Nat) : cmpS frs nums W q < 256 := cmpFold_lt frs W q nums 0 (by decide)
theorem cmpStr_size (frs : List ByteArray) (nums : List Nat) (W : Nat → Nat) (m : Nat) : (cmpStr frs nums W m).size = m := by
  simp [cmpStr, ByteArray.size]
theorem cmpStr_sb (frs : List ByteArray) (nums : List Nat) (W : Nat → Nat) (m q : Nat) (h : q < m) : sb (cmpStr frs nums W m) q = cmpS frs nums W q := by
  have := cmpS_lt frs nums W q
  simp [sb, cmpStr, h]
  omega
end Go.Sx


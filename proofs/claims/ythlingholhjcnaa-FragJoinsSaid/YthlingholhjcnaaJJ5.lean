/-
 The document's maker as it lies; fault.
 The document's maker: part.
-/
import Derived.Test.YthlingholhjcnaaJJ4
namespace Go.Proofs.Ythlingholhjcnaa
open Go.RowKit
variable {W W' w w' : World} {base m : Nat} {X X' : FV} {file line : Int} {name : ByteArray}
end Go.Proofs.Ythlingholhjcnaa
namespace Go.Proofs.Ythlingholhjcnaa
open Go.RowKit
variable {W W' w w' : World} {base m : Nat} {X X' : FV} {file line : Int} {name : ByteArray}
theorem idx_some {l : List ByteArray} {k : ByteArray} {i : Nat} (hi : i < l.length) (he : l[i] = k) (hb : ∀ j (h : j < i), l[j]'(by omega) ≠ k) : idxO l k = some i := by
 unfold idxO
 rw [List.findIdx?_eq_some_iff_getElem]
 exact ⟨hi, by simpa using he, fun j hj => by simpa using hb j hj⟩
theorem idx_none {l : List ByteArray} {k : ByteArray} (hb : ∀ j (h : j < l.length), l[j] ≠ k) : idxO l k = none := by
 unfold idxO
 rw [List.findIdx?_eq_none_iff]
 intro x hx
 obtain ⟨j, hj, rfl⟩ := List.getElem_of_mem hx
 simpa using hb j hj
end Go.Proofs.Ythlingholhjcnaa

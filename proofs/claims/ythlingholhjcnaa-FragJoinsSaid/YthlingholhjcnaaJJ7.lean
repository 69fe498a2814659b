/-
 The document's maker: told; first.
 The document's first.
 The document's row (printed by genrow.py).
 The document's row: instructions, data, bytes.
-/
import Derived.Test.YthlingholhjcnaaJJ6
namespace Go.Proofs.Ythlingholhjcnaa
open Go.RowKit
variable {W W' w w' : World} {base m : Nat} {X X' : FV} {file line : Int} {name : ByteArray}
end Go.Proofs.Ythlingholhjcnaa
namespace Go.Proofs.Ythlingholhjcnaa
open Go.RowKit
variable {W W' w w' : World} {base m : Nat}
end Go.Proofs.Ythlingholhjcnaa
namespace Go.Proofs.Ythlingholhjcnaa
open Go.RowKit
variable {W W' w w' : World} {base m : Nat} {X X' : FV} {file line : Int} {name : ByteArray}
end Go.Proofs.Ythlingholhjcnaa
namespace Go.Proofs.Ythlingholhjcnaa
open Go.RowKit
variable {W W' w w' : World} {base m : Nat} {X X' : FV} {file line : Int} {name : ByteArray}
end Go.Proofs.Ythlingholhjcnaa

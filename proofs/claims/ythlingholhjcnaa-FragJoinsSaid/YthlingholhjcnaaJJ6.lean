/-
 The document's maker: put.
 The document's maker: mark.
-/
import Derived.Test.YthlingholhjcnaaJJ5
namespace Go.Proofs.Ythlingholhjcnaa
open Go.RowKit
variable {W W' w w' : World} {base m : Nat} {X X' : FV} {file line : Int} {name : ByteArray}
end Go.Proofs.Ythlingholhjcnaa
namespace Go.Proofs.Ythlingholhjcnaa
open Go.RowKit
variable {W W' w w' : World} {base m : Nat} {X X' : FV} {file line : Int} {name : ByteArray}
end Go.Proofs.Ythlingholhjcnaa

/-
  What the tables of this translation say of its types.
-/
import Derived.Test.YtaophcndkhnbeaaPlain
import Derived.Test.YtaophcndkhnbeaaRows
import Derived.Test.YtaophcndkhnbeaaShelf
import Derived.Lib.IndexAny
namespace Go.Proofs.Ytaophcndkhnbeaa
open Go.RowKit

theorem E25 : Elem Try.prog 25 5 1 1 (.int .u8 0) := Elem.mk' Try.underlying25 (by kernel_rfl) rfl (by decide)
theorem E26 : Elem Try.prog 26 3 1 8 (.int .i64 0) := Elem.mk' Try.underlying26 (by kernel_rfl) rfl (by decide)
theorem E22 : Elem Try.prog 22 9 1 16 (.string .empty) := Elem.mk' Try.underlying22 (by kernel_rfl) rfl (by decide)
theorem K9 : KeyOk Try.prog 9 Value.string := keyOk_string Try.underlying9
theorem zero3 (w : World) : (zeroValue 3).run Try.prog w = .ok (.int .i64 0) w := by kernel_rfl
abbrev u8s (l : List UInt8) : List Value := l.map fun b => Value.int .u8 b.toNat
abbrev i64s (l : List Int) : List Value := l.map (Value.int .i64)

end Go.Proofs.Ytaophcndkhnbeaa

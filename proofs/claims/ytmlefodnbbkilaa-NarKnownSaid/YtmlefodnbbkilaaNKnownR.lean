/- NarKnown, for its row. -/
import Derived.Test.YtmlefodnbbkilaaNKnown
import Derived.Test.YtmlefodnbbkilaaNTextsR
namespace Go.Proofs.Ytmlefodnbbkilaa
open Go.RowKit
theorem narKnown_row {p0 : Prop} (n : Nat) (a : ByteArray) (W : World) (hn : n < 256) (_ : p0) : Ret Try.prog 5 #[.int .u8 (n : Int), .string a] W (.bool true) := by
  obtain ⟨s, rfl⟩ := bytes_list a
  exact .of (narKnown_any n s W hn)
end Go.Proofs.Ytmlefodnbbkilaa

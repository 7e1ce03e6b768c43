/- NarAll, for its row. -/
import Derived.Test.YtmlefodnbbkilaaNAll
import Derived.Test.YtmlefodnbbkilaaOpenN
namespace Go.Proofs.Ytmlefodnbbkilaa
open Go.RowKit
theorem bytes_list' (a : ByteArray) : ∃ s : Bs, a = ⟨s.toArray⟩ := ⟨a.data.toList, by cases a; simp⟩
theorem narAll_row (v : Value) (l : List Nd) (u : Value) (m : List Nd) (a : ByteArray) (n : Int) (W : World) (h : NIn W v l ∧ l.length ≤ 9223372036854775807) (h2 : NIn W u m ∧ m.length ≤ 9223372036854775807) {p0 : Prop} (_ : p0) (hn : (Lit.int .i64 n).wf = true) : Ret Try.prog 8 #[v, u, .string a, .int .i64 n] W (.bool true) := by
  obtain ⟨s, rfl⟩ := bytes_list' a
  exact .of (narAll_any s n h.1 h2.1 h.2 h2.2 (wfI64 hn).2)
end Go.Proofs.Ytmlefodnbbkilaa

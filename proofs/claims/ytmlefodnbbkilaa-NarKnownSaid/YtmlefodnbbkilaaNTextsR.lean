/- NarTexts, for its row. -/
import Derived.Test.YtmlefodnbbkilaaNTexts
import Derived.Test.YtmlefodnbbkilaaRowPost
namespace Go.Proofs.Ytmlefodnbbkilaa
open Go.RowKit
theorem wf32 {n : Int} (h : (Lit.int .u32 n).wf = true) : ∃ m : Nat, n = m ∧ m < 4294967296 := by
  simp [Lit.wf, IntKind.min, IntKind.max, IntKind.signed, IntKind.bits] at h
  exact ⟨n.toNat, by omega, by omega⟩
theorem bytes_list (a : ByteArray) : ∃ s : Bs, a = ⟨s.toArray⟩ := ⟨a.data.toList, by cases a; simp⟩
theorem narTexts_row {p0 : Prop} (a : ByteArray) (n b : Int) (W : World) (_ : p0) (hn : (Lit.int .u32 n).wf = true) (hb : (Lit.int .i64 b).wf = true) : Ret Try.prog 6 #[.string a, .int .u32 n, .int .i64 b] W (.bool true) := by
  obtain ⟨s, rfl⟩ := bytes_list a
  obtain ⟨m, rfl, hm⟩ := wf32 hn
  exact .of (narTexts_any s m b W hm (wfI64 hb))
end Go.Proofs.Ytmlefodnbbkilaa

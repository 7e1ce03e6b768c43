/- Strings as lists of bytes. -/
import Derived.Test.YtmlefodnbbkilaaBase2
namespace Go.Proofs.Ytmlefodnbbkilaa
theorem str_add (a b : List UInt8) : ((⟨a.toArray⟩ : ByteArray) ++ ⟨b.toArray⟩) = ⟨(a ++ b).toArray⟩ := by
  apply ByteArray.ext
  simp [ByteArray.data_append]
theorem str_eq (a b : List UInt8) : ((⟨a.toArray⟩ : ByteArray) = ⟨b.toArray⟩) ↔ a = b := by
  constructor
  · intro h
    have := congrArg (fun x => x.data.toList) h
    simpa using this
  · rintro rfl
    rfl
attribute [go_sem] str_add
end Go.Proofs.Ytmlefodnbbkilaa

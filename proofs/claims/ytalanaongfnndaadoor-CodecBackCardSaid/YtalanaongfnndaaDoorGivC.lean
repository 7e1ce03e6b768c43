/- The codec's readers by their contracts, as the printed texts call them: 64 letters. -/
import Derived.Test.YtalanaongfnndaaDoorGivB
import Derived.Test.YtalanaongfnndaaDoorGet6
namespace Go.Proofs.YtalanaongfnndaaDoor.G
open Go.RowKit Go.Proofs.YtalanaongfnndaaDoor

def codec_GetBase64.f (a0 : ByteArray) : Option (ByteArray × Bool) := if a0.size ≤ 1000000 then some (ba (getB64N a0.data.toList).1, (getB64N a0.data.toList).2) else none
theorem codec_GetBase64.calls (a0 : ByteArray) (r : ByteArray) (r2 : Bool) (w : World) (h : codec_GetBase64.f a0 = some (r, r2)) : Calls Tryd.prog 6 #[.string a0] w fun e w' => e = .returned (.tuple #[.string r, .bool r2]) ∧ Below w.heap.size w w' := by
  obtain ⟨⟨l⟩⟩ := a0
  unfold codec_GetBase64.f at h
  split at h
  · cases h
    exact getb64_any l w (by assumption)
  · cases h
end Go.Proofs.YtalanaongfnndaaDoor.G

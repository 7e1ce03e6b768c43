/- The codec's readers by their contracts, as the printed texts call them. -/
import Derived.Test.YtalanaongfnndaaDoorGivA
import Derived.Test.YtalanaongfnndaaDoorGet5
namespace Go.Proofs.YtalanaongfnndaaDoor.G
open Go.RowKit Go.Proofs.YtalanaongfnndaaDoor

def codec_GetHex.f (a0 : ByteArray) : Option (ByteArray × Bool) := if a0.size ≤ 1000000 then some (ba (getHexN a0.data.toList).1, (getHexN a0.data.toList).2) else none
theorem codec_GetHex.calls (a0 : ByteArray) (r : ByteArray) (r2 : Bool) (w : World) (h : codec_GetHex.f a0 = some (r, r2)) : Calls Tryd.prog 11 #[.string a0] w fun e w' => e = .returned (.tuple #[.string r, .bool r2]) ∧ Below w.heap.size w w' := by
  obtain ⟨⟨l⟩⟩ := a0
  unfold codec_GetHex.f at h
  split at h
  · cases h
    exact gethex_any l w (by assumption)
  · cases h
def codec_GetBase32.f (a0 : ByteArray) (a1 : Int) : Option (ByteArray × Bool) := if a0.size ≤ 1000000 then some (ba (getB32N a0.data.toList a1).1, (getB32N a0.data.toList a1).2) else none
theorem codec_GetBase32.calls (a0 : ByteArray) (a1 : Int) (r : ByteArray) (r2 : Bool) (w : World) (h : codec_GetBase32.f a0 a1 = some (r, r2)) : Calls Tryd.prog 12 #[.string a0, .int .i64 a1] w fun e w' => e = .returned (.tuple #[.string r, .bool r2]) ∧ Below w.heap.size w w' := by
  obtain ⟨⟨l⟩⟩ := a0
  unfold codec_GetBase32.f at h
  split at h
  · cases h
    exact getb32_any l a1 w (by assumption)
  · cases h
end Go.Proofs.YtalanaongfnndaaDoor.G

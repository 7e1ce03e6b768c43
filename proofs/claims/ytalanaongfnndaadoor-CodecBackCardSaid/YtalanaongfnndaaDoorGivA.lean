/- The codec's functions by their contracts, as the printed texts call them. -/
import Derived.Test.YtalanaongfnndaaDoorCod4
namespace Go.Proofs.YtalanaongfnndaaDoor.G
open Go.RowKit Go.Proofs.YtalanaongfnndaaDoor

def ba (l : List UInt8) : ByteArray := ⟨l.toArray⟩
def codec_Base32.f (a0 : ByteArray) : Option ByteArray := if a0.size ≤ 1000000 then some (ba (b32N a0.data.toList)) else none
theorem codec_Base32.calls (a0 : ByteArray) (r : ByteArray) (w : World) (h : codec_Base32.f a0 = some r) : Calls Tryd.prog 7 #[.string a0] w fun e w' => e = .returned (.string r) ∧ Below w.heap.size w w' := by
  obtain ⟨⟨l⟩⟩ := a0
  unfold codec_Base32.f at h
  split at h
  · cases h
    exact (b32_any l w (by assumption)).below
  · cases h
def codec_Hex.f (a0 : ByteArray) : Option ByteArray := if a0.size ≤ 1000000 then some (ba (hexN a0.data.toList)) else none
theorem codec_Hex.calls (a0 : ByteArray) (r : ByteArray) (w : World) (h : codec_Hex.f a0 = some r) : Calls Tryd.prog 10 #[.string a0] w fun e w' => e = .returned (.string r) ∧ Below w.heap.size w w' := by
  obtain ⟨⟨l⟩⟩ := a0
  unfold codec_Hex.f at h
  split at h
  · cases h
    exact (hex_any l w (by assumption)).below
  · cases h
def codec_Base64.f (a0 : ByteArray) : Option ByteArray := if a0.size ≤ 1000000 then some (ba (b64N a0.data.toList)) else none
theorem codec_Base64.calls (a0 : ByteArray) (r : ByteArray) (w : World) (h : codec_Base64.f a0 = some r) : Calls Tryd.prog 8 #[.string a0] w fun e w' => e = .returned (.string r) ∧ Below w.heap.size w w' := by
  obtain ⟨⟨l⟩⟩ := a0
  unfold codec_Base64.f at h
  split at h
  · cases h
    exact (b64_any l w (by assumption)).below
  · cases h
def codec_Fold.f (a0 : ByteArray) (a1 : Int) : Option ByteArray := if a0.size ≤ 1000000 then some (ba (foldN a0.data.toList a1)) else none
theorem codec_Fold.calls (a0 : ByteArray) (a1 : Int) (r : ByteArray) (w : World) (h : codec_Fold.f a0 a1 = some r) : Calls Tryd.prog 19 #[.string a0, .int .i64 a1] w fun e w' => e = .returned (.string r) ∧ Below w.heap.size w w' := by
  obtain ⟨⟨l⟩⟩ := a0
  unfold codec_Fold.f at h
  split at h
  · cases h
    exact (fold_any l a1 w (by assumption)).below
  · cases h
end Go.Proofs.YtalanaongfnndaaDoor.G

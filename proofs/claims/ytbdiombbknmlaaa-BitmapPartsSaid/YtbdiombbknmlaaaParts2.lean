/- BitmapParts, as the row wants it. -/
import Derived.Test.YtbdiombbknmlaaaParts1
namespace Go.Proofs.Ytbdiombbknmlaaa
theorem bitmapParts_any (v : Value) (l : List UInt8) (n m : Nat) (w : World) (hl : U8s w v l) (hn : n < 256) (hm : m < 256) : Ret Try.prog 3 #[v, .int .u8 (n : Int), .int .u8 (m : Int)] w (.bool true) := .of (parts_any v l n m w hl hn hm)
end Go.Proofs.Ytbdiombbknmlaaa

/- Bytes of a string in a row that may be written, and back. -/
import Derived.Test.YtojgfaichkcmpaaDisk1
import Derived.Lib.ConvBytes
import Derived.Laws.BytesString
import Derived.Laws.Tables
namespace Go.Proofs.Ytojgfaichkcmpaa
open Go.RowKit

theorem conv_bytes (W : World) (l : List UInt8) (n : Nat) (hn : n = W.heap.size) : ∃ (X : Array Obj) (d c : Nat), (convert 9 31 (strV l)).run Try.prog W = .ok (.slice (some ⟨n, 0, none⟩) l.length c) (plus W ⟨X, d⟩) ∧ X.size = 1 ∧
    ∀ W' : World, W'.heap[n]? = (plus W ⟨X, d⟩).heap[n]? → ∀ j, j < l.length → W'.cell? ⟨n, j, none⟩ = some (.int .u8 ((l.getD j 0).toNat : Int)) := by
  subst hn
  have hb : Below W.heap.size W (Lib.bytesWorld W 5 ⟨l.toArray⟩) := ⟨rfl, rfl, rfl, by rw [Lib.bytesWorld_size]; omega, fun k hk => Lib.bytesWorld_at_old W 5 _ k hk⟩
  obtain ⟨x, hx⟩ := plus_of_below hb
  have hs : x.blocks.size = 1 := by
    have := Lib.bytesWorld_size W 5 ⟨l.toArray⟩
    rw [hx, size_plus] at this
    omega
  refine ⟨x.blocks, x.draws, grownCap W l.length 0 5, ?_, hs, fun W' hW j hj => ?_⟩
  · show _ = Result.ok _ (plus W x)
    rw [← hx]
    exact Lib.run_convert_string_bytes W 9 31 5 ⟨l.toArray⟩ Try.underlying9 Try.underlying31 Try.underlying5
  · have hc := Lib.bytesWorld_cell W 5 ⟨l.toArray⟩ j hj
    rw [hx] at hc
    unfold World.cell? at hc ⊢
    simp only [hW] at hc ⊢
    exact hc

/-- A row of bytes, with what stands behind them. -/
def rowC (l : List UInt8) (tl : List Value) : Array Value := (u8s l ++ tl).toArray
theorem rowC_get (l : List UInt8) (tl : List Value) (j : Nat) (h : j < l.length) : (rowC l tl)[j]? = some (.int .u8 ((l.getD j 0).toNat : Int)) := by
  simp [rowC, u8s, List.getElem?_append, h]
theorem rowC_set (l : List UInt8) (tl : List Value) (j : Nat) (x : UInt8) (h : j < l.length) : (rowC l tl).setIfInBounds j (.int .u8 (x.toNat : Int)) = rowC (l.set j x) tl := by
  simp [rowC, u8s, h]
/-- A string's bytes in a new row, that may be written. -/
theorem conv_row (W : World) (l : List UInt8) : ∃ (X : Array Obj) (d c : Nat) (tl : List Value) (m : Nat × Nat), (convert 9 31 (strV l)).run Try.prog W = .ok (.slice (some ⟨W.heap.size, 0, none⟩) l.length c) (plus W ⟨X, d⟩) ∧ X.size = 1 ∧
    (plus W ⟨X, d⟩).heap[W.heap.size]? = some (.cells (rowC l tl) 5 m) ∧ ∀ j, j < l.length → (plus W ⟨X, d⟩).frozen? ⟨W.heap.size, j, none⟩ = false := by
  obtain ⟨X, d, c, h1, h2, h3⟩ := conv_bytes W l W.heap.size rfl
  have hr := Lib.run_convert_string_bytes (P := Try.prog) W 9 31 5 ⟨l.toArray⟩ Try.underlying9 Try.underlying31 Try.underlying5
  have he : plus W ⟨X, d⟩ = Lib.bytesWorld W 5 ⟨l.toArray⟩ := by
    have := h1.symm.trans hr
    injection this with _ h
  have hb := Lib.bytesWorld_at_new W 5 ⟨l.toArray⟩
  rw [← he] at hb
  have hc : Lib.bytesCells W 5 ⟨l.toArray⟩ = rowC l (List.replicate (grownCap W l.length 0 5 - l.length) (.int .u8 0)) := by
    unfold Lib.bytesCells rowC u8s
    apply Array.ext'
    simp
    rfl
  rw [hc] at hb
  refine ⟨X, d, c, _, _, h1, h2, hb, fun j hj => ?_⟩
  unfold World.frozen?
  simp only [hb]
  simp [rowC, u8s]
  omega

/-- A row of bytes with something behind them, as a string. -/
theorem row_str (W : World) (b cap n : Nat) (l : List UInt8) (tl : List Value) (hn : n = l.length) {fr : Nat × Nat} (hb : W.heap[b]? = some (.cells (rowC l tl) 5 fr)) :
    (convert 31 9 (.slice (some ⟨b, 0, none⟩) n cap)).run Try.prog W = .ok (strV l) W := by
  subst hn
  refine run_convert_bytes_back W 31 9 5 ⟨b, 0, none⟩ cap l Try.underlying31 Try.underlying5 Try.underlying9 fun j hj => ?_
  rw [addr_add]
  simp only [World.cell?, hb]
  have := rowC_get l tl j hj
  simp [hj] at this ⊢
  exact this
/-- A letter put into such a row. -/
theorem row_put {W : World} {b r : Nat} {l : List UInt8} {tl : List Value} {fr : Nat × Nat} (y : UInt8) (hr : r < l.length) (hb : W.heap[b]? = some (.cells (rowC l tl) 5 fr)) :
    (W.setCell ⟨b, r, none⟩ (.int .u8 (y.toNat : Int))).heap[b]? = some (.cells (rowC (l.set r y) tl) 5 fr) := by
  have h := setRow_same hb
  rw [← h, setRow_setCell, rowC_set l tl r y hr]
  exact setRow_heap hb
theorem xor_u8 (a b : UInt8) : bits BinOp.xor IntKind.u8 (a.toNat : Int) (b.toNat : Int) = (((a ^^^ b).toNat : Nat) : Int) := by
  have hx : a.toNat ^^^ b.toNat < 2 ^ 8 := Nat.xor_lt_two_pow a.toNat_lt b.toNat_lt
  have h1 : (BitVec.ofInt 8 (a.toNat : Int)).toNat = a.toNat := by
    rw [BitVec.ofInt_natCast, BitVec.toNat_ofNat]; exact Nat.mod_eq_of_lt a.toNat_lt
  have h2 : (BitVec.ofInt 8 (b.toNat : Int)).toNat = b.toNat := by
    rw [BitVec.ofInt_natCast, BitVec.toNat_ofNat]; exact Nat.mod_eq_of_lt b.toNat_lt
  show IntKind.u8.wrap ((BitVec.ofInt 8 (a.toNat : Int) ^^^ BitVec.ofInt 8 (b.toNat : Int)).toNat : Int) = _
  rw [BitVec.toNat_xor, h1, h2, IntKind.wrap_u8, UInt8.toNat_xor]
  omega

end Go.Proofs.Ytojgfaichkcmpaa

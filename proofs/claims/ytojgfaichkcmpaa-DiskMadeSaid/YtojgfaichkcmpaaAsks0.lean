/- A row of what is asked, of the call's own. -/
import Derived.Test.YtojgfaichkcmpaaRun0
namespace Go.Proofs.Ytojgfaichkcmpaa
open Go.RowKit

def Z62 : Obj := .cells #[.int .i64 0, .int .i64 0, .int .i64 0, .string ⟨#[]⟩, .slice none 0 0] 62
theorem alloc62 (o : Oper) (h : o.op = .alloc 62) (ρ : Operand → Value) (w : World) : (execOp ρ o).run Try.prog w = .ok (.value (.pointer (some ⟨w.heap.size, 0, none⟩))) (w.alloc Z62) := by
  obtain ⟨dst, op, type, pos, after, guard⟩ := o
  dsimp only at h
  subst h
  simp [execOp, go_sem, Z62]
/-- Numbers in a block of their own, or none. -/
def IntsO (W : World) (v : Value) (zs : List Int) : Prop :=
  (v = .slice none 0 0 ∧ zs = []) ∨ ∃ b x y z, v = .slice (some ⟨b, 0, none⟩) 3 3 ∧ zs = [x, y, z] ∧ W.heap[b]? = some (.cells #[.int .i64 x, .int .i64 y, .int .i64 z] 3)
theorem IntsO.keep {W W' : World} {v : Value} {zs : List Int} (h : IntsO W v zs) (hk : ∀ (b : Nat) (cs : Array Value) (fr : Nat × Nat), W.heap[b]? = some (Obj.cells cs 3 fr) → W'.heap[b]? = some (Obj.cells cs 3 fr)) : IntsO W' v zs := by
  rcases h with h | ⟨b, x, y, z, h1, h2, h3⟩
  · exact .inl h
  · exact .inr ⟨b, x, y, z, h1, h2, hk _ _ _ h3⟩
theorem IntsO.on {W W' : World} {v : Value} {zs : List Int} (h : IntsO W v zs) (hb : Below W.heap.size W W') : IntsO W' v zs := h.keep fun _ _ _ h1 => keeps_below h1 hb
theorem IntsO.out {W : World} {v : Value} {zs : List Int} (h : IntsO W v zs) : IntsW W v zs := by
  rcases h with ⟨rfl, rfl⟩ | ⟨b, x, y, z, rfl, rfl, h3⟩
  · exact .inl ⟨rfl, _, _, rfl⟩
  · refine .inr ⟨b, 0, 3, rfl, (Array.getElem?_eq_some_iff.1 h3).1, by simp, fun j hj => ?_⟩
    have : j = 0 ∨ j = 1 ∨ j = 2 := by simp at hj; omega
    rcases this with rfl | rfl | rfl <;> simp [World.cell?, h3]
theorem cells_length (x : AskN) : x.cells.length = 5 := rfl
theorem flat_get : ∀ (L : List AskN) (j k : Nat) (x : AskN), L[j]? = some x → k < 5 → (L.flatMap AskN.cells)[j * 5 + k]? = x.cells[k]?
  | [], j, k, x, h, _ => by simp at h
  | y :: L, 0, k, x, h, hk => by
    simp only [List.getElem?_cons_zero, Option.some.injEq] at h
    subst h
    rw [List.flatMap_cons, Nat.zero_mul, Nat.zero_add, List.getElem?_append_left (by rw [cells_length]; exact hk)]
  | y :: L, j + 1, k, x, h, hk => by
    have ih := flat_get L j k x (by simpa using h) hk
    rw [List.flatMap_cons, List.getElem?_append_right (by rw [cells_length]; omega), cells_length, show (j + 1) * 5 + k - 5 = j * 5 + k by omega]
    exact ih
structure ARow (w W : World) (u : Value) (L : List AskN) : Prop where
  row : W.ownsRow 0 62 5 u L.length (L.flatMap AskN.cells)
  below : Below w.heap.size w W
  own : ∀ k, u.ownBlock = some k → w.heap.size ≤ k
  ints : ∀ x ∈ L, IntsO W x.lv x.zs
  n : ∀ x ∈ L, x.n ≤ 9223372036854775807
section
variable {w W W' : World} {u u' : Value} {L : List AskN}
theorem ARow.nil (w : World) : ARow w w (.slice none 0 0) [] := ⟨World.ownsRow_nil _ 0 62 5, Below.refl _ _, (fun k hk => by cases hk), by simp, by simp⟩
theorem ARow.lt (h : ARow w W u L) : ∀ k, u.ownBlock = some k → k < W.heap.size := fun k hk => (World.ownsRow.lt h.row k hk).2
theorem ARow.on (h : ARow w W u L) (hb : Below W.heap.size W W') : ARow w W' u L :=
  ⟨ownsRow_same h.row fun g hg => hb.block g (h.lt g hg), h.below.trans (hb.mono h.below.size), h.own, fun x hx => (h.ints x hx).on hb, h.n⟩
/-- A block of another kind turned. -/
theorem ARow.set (h : ARow w W u L) (Y j : Nat) (v : Value) {cs : Array Value} {e : TypeId} {fr : Nat × Nat} (hY : W.heap[Y]? = some (.cells cs e fr)) (he : e ≠ 3) (h1 : w.heap.size ≤ Y) (h2 : ∀ k, u.ownBlock = some k → k ≠ Y) : ARow w (W.setCell ⟨Y, j, none⟩ v) u L :=
  ⟨ownsRow_same h.row fun g hg => setCell_other W Y j g v (h2 g hg), h.below.trans ⟨rfl, rfl, rfl, by rw [setCell_size]; exact Nat.le_refl _, fun k hk => setCell_other W Y j k v (by omega)⟩, h.own, fun x hx => (h.ints x hx).keep fun b cs fr hb => (setCell_other W Y j b v (fun e1 => by
    rw [e1, hY] at hb
    simp at hb
    exact he hb.2.1)).trans hb, h.n⟩
theorem ARow.app {o : Obj} {x : AskN} {w1 : World} (h : ARow w W u L) (hx : IntsO W x.lv x.zs) (hn : x.n ≤ 9223372036854775807) (hg : (W.alloc o).grownBy w1 u.ownBlock) (hrow : w1.ownsRow 0 62 5 u' (L.length + 1) (L.flatMap AskN.cells ++ x.cells)) (hown : ∀ k, u'.ownBlock = some k → u.ownBlock = some k ∨ W.heap.size ≤ k) :
    ARow w w1 u' (L ++ [x]) := by
  have hk : ∀ k, k < W.heap.size → u.ownBlock ≠ some k → w1.heap[k]? = W.heap[k]? := fun k hk hne => (hg.block k (by simp; omega) (fun e => hne e.symm)).trans (Below.heap_alloc _ _ _ hk)
  have hi : ∀ y : AskN, IntsO W y.lv y.zs → IntsO w1 y.lv y.zs := fun y hy => hy.keep fun b cs fr hb => (hk b (Array.getElem?_eq_some_iff.1 hb).1 (fun e => by
    obtain ⟨cur, h1⟩ := ownsRow_elem h.row e
    rw [hb] at h1
    simp at h1)).trans hb
  refine ⟨by simpa using hrow, h.below.trans ⟨hg.os, hg.tape, hg.output, by have := hg.size; simp at this; omega, fun k hk1 => hk k (by have := h.below.size; omega) (fun e => by have := h.own k e; omega)⟩, fun k hk1 => ?_, fun y hy => ?_, fun y hy => ?_⟩
  · rcases hown k hk1 with h1 | h1
    · exact h.own k h1
    · have := h.below.size
      omega
  · rcases List.mem_append.1 hy with h1 | h1
    · exact hi y (h.ints y h1)
    · simp only [List.mem_singleton] at h1
      subst h1
      exact hi y hx
  · rcases List.mem_append.1 hy with h1 | h1
    · exact h.n y h1
    · simp only [List.mem_singleton] at h1
      subst h1
      exact hn
theorem ARow.out (h : ARow w W u L) : AsksW W u L := by
  have hrow := h.row
  rcases h.row.2 with ⟨rfl, h0⟩ | ⟨g, cap, cur, hv, _, hh, _⟩
  · exact .inl ⟨List.eq_nil_of_length_eq_zero h0, _, _, rfl⟩
  · rw [hv] at hrow
    refine .inr ⟨g, 0, cap, hv, (Array.getElem?_eq_some_iff.1 hh).1, fun j x hx => ⟨(h.ints x (List.mem_of_getElem? hx)).out, h.n x (List.mem_of_getElem? hx), fun k v hk => ?_⟩⟩
    have hk5 : k < 5 := by
      have := (List.getElem?_eq_some_iff.1 hk).1
      rwa [cells_length] at this
    have hj := (List.getElem?_eq_some_iff.1 hx).1
    rw [Nat.zero_add, hrow.cellAt (j * 5 + k) (by omega), flat_get L j k x hx hk5, hk]
theorem askL {V : World} {Y : Nat} {d a n : Int} {s : List UInt8} {v0 : Value} (hR : ARow w V u L) (hY : V.heap[Y]? = some (.cells #[.int .i64 d, .int .i64 a, .int .i64 n, strV s, v0] 62)) (hw : w.heap.size ≤ Y) (hne : ∀ k, u.ownBlock = some k → k ≠ Y) (x y z : Int) :
    ((V.setCell ⟨Y, 4, none⟩ (.slice (some ⟨V.heap.size, 0, none⟩) 3 3)).alloc (.cells #[.int .i64 x, .int .i64 y, .int .i64 z] 3)).heap[Y]? = some (.cells #[.int .i64 d, .int .i64 a, .int .i64 n, strV s, .slice (some ⟨V.heap.size, 0, none⟩) 3 3] 62) ∧
    ARow w ((V.setCell ⟨Y, 4, none⟩ (.slice (some ⟨V.heap.size, 0, none⟩) 3 3)).alloc (.cells #[.int .i64 x, .int .i64 y, .int .i64 z] 3)) u L ∧
    IntsO ((V.setCell ⟨Y, 4, none⟩ (.slice (some ⟨V.heap.size, 0, none⟩) 3 3)).alloc (.cells #[.int .i64 x, .int .i64 y, .int .i64 z] 3)) (.slice (some ⟨V.heap.size, 0, none⟩) 3 3) [x, y, z] := by
  have h1 := setCell_block hY 4 (.slice (some ⟨V.heap.size, 0, none⟩) 3 3)
  have h2 := hR.set Y 4 (.slice (some ⟨V.heap.size, 0, none⟩) 3 3) hY (by decide) hw hne
  have h3 := setCell_size V ⟨Y, 4, none⟩ (.slice (some ⟨V.heap.size, 0, none⟩) 3 3)
  have h4 := new_at (V.setCell ⟨Y, 4, none⟩ (.slice (some ⟨V.heap.size, 0, none⟩) 3 3)) (.cells #[.int .i64 x, .int .i64 y, .int .i64 z] 3)
  rw [h3] at h4
  exact ⟨keeps_below h1 ((Below.refl _ _).alloc (Nat.le_refl _) _), h2.on ((Below.refl _ _).alloc (Nat.le_refl _) _), .inr ⟨V.heap.size, x, y, z, rfl, rfl, h4⟩⟩
end
end Go.Proofs.Ytojgfaichkcmpaa

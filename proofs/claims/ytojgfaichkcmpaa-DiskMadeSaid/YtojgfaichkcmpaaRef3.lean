/- Walks: the document's disk: what is loose becomes firm. -/
import Derived.Test.YtojgfaichkcmpaaRef1
namespace Go.Proofs.Ytojgfaichkcmpaa
open Go.RowKit

/-- Marks, by number. -/
def bools (l : List Bool) : List Value := l.map fun b => .bool b
def pickN (bs : List Bool) : Nat → List (Nat × List UInt8) → List (Nat × List UInt8)
  | _, [] => []
  | i, x :: l => if bs.getD i false = true then x :: pickN bs (i + 1) l else pickN bs (i + 1) l
theorem pickN_snoc (bs : List Bool) (x : Nat × List UInt8) : ∀ (l : List (Nat × List UInt8)) (i : Nat), pickN bs i (l ++ [x]) = pickN bs i l ++ (if bs.getD (i + l.length) false = true then [x] else [])
  | [], i => by simp [pickN]
  | y :: l, i => by
    have ih := pickN_snoc bs x l (i + 1)
    rw [List.cons_append, pickN, pickN, ih, List.length_cons, show i + 1 + l.length = i + (l.length + 1) by omega]
    split <;> simp
theorem pickN_kept (bs : List Bool) (zs : List Int) (n : Nat) (h : ∀ j, j < n → bs.getD j false = zs.contains (j : Int)) : ∀ (l : List (Nat × List UInt8)) (i : Nat), i + l.length ≤ n → pickN bs i l = keptN zs i l
  | [], i, _ => by simp [pickN, keptN]
  | y :: l, i, hi => by
    simp only [List.length_cons] at hi
    rw [pickN, keptN, pickN_kept bs zs n h l (i + 1) (by omega), h i (by omega)]
theorem pickN_all (bs : List Bool) : ∀ (l : List (Nat × List UInt8)) (i : Nat), (∀ j, j < l.length → bs.getD (i + j) false = true) → pickN bs i l = l
  | [], i, _ => by simp [pickN]
  | y :: l, i, h => by
    have h0 := h 0 (by simp)
    rw [Nat.add_zero] at h0
    rw [pickN, if_pos h0, pickN_all bs l (i + 1) (fun j hj => by
      have := h (j + 1) (by simp; omega)
      rwa [show i + (j + 1) = i + 1 + j by omega] at this)]
/-- A row of marks of the call's own. -/
def Marks (W : World) (g : Nat) (bs : List Bool) : Prop := W.heap[g]? = some (.cells (bools bs).toArray 4)
theorem Marks.cell {W : World} {g : Nat} {bs : List Bool} (h : Marks W g bs) (j : Nat) (hj : j < bs.length) : W.cell? ⟨g, j, none⟩ = some (.bool (bs.getD j false)) ∧ W.frozen? ⟨g, j, none⟩ = false ∧ has W g := by
  unfold Marks at h
  refine ⟨?_, ?_, (Array.getElem?_eq_some_iff.1 h).1⟩
  · simp only [World.cell?, h]
    simp [bools, hj]
  · simp [World.frozen?, h]
theorem Marks.put {W : World} {g : Nat} {bs : List Bool} (h : Marks W g bs) (j : Nat) (b : Bool) : Marks (W.setCell ⟨g, j, none⟩ (.bool b)) g (bs.set j b) := by
  unfold Marks at *
  rw [setCell_block h]
  simp [bools]
theorem Marks.lt {W : World} {g : Nat} {bs : List Bool} (h : Marks W g bs) : g < W.heap.size := (Array.getElem?_eq_some_iff.1 h).1
theorem Marks.on {W W' : World} {g : Nat} {bs : List Bool} (h : Marks W g bs) (hb : Below W.heap.size W W') : Marks W' g bs := (hb.block g h.lt).trans h
theorem RefAt.gq {W : World} {q g : Nat} {fv nv : Value} {S : DS} {bs : List Bool} (h : RefAt W q fv nv S) (hm : Marks W g bs) : g ≠ q ∧ fv.ownBlock ≠ some g ∧ nv.ownBlock ≠ some g := by
  unfold Marks at hm
  refine ⟨?_, fun e => ?_, fun e => ?_⟩
  · rintro rfl
    rw [h.hp] at hm
    simp at hm
  · obtain ⟨cur, h1⟩ := ownsRow_elem h.hf e
    rw [h1] at hm
    simp at hm
  · obtain ⟨cur, h1⟩ := ownsRow_elem h.hl e
    rw [h1] at hm
    simp at hm
theorem Marks.changed {W W' : World} {q g : Nat} {fv nv fv' nv' : Value} {S : DS} {bs : List Bool} (h : Marks W g bs) (hr : RefAt W q fv nv S) (hc : ChangedR W W' q fv nv fv' nv') : Marks W' g bs := by
  obtain ⟨h1, h2, h3⟩ := hr.gq h
  exact (hc.block g h.lt h1 h2 h3).trans h
/-- Marks turned: the disk lies as it lay. -/
theorem RefAt.marks {W : World} {q g : Nat} {fv nv : Value} {S : DS} {bs : List Bool} (h : RefAt W q fv nv S) (hm : Marks W g bs) (j : Nat) (b : Bool) : RefAt (W.setCell ⟨g, j, none⟩ (.bool b)) q fv nv S := by
  obtain ⟨h1, h2, h3⟩ := h.gq hm
  exact ⟨(setCell_other W g j q _ (Ne.symm h1)).trans h.hp, ownsRow_same h.hf fun k hk => setCell_other W g j k _ (fun e => h2 (e ▸ hk)), ownsRow_same h.hl fun k hk => setCell_other W g j k _ (fun e => h3 (e ▸ hk)), h.hn, h.hm, h.hfu, h.hb, h.hs⟩
theorem info4 : (Try.prog.info? 4).map (fun i => (i.zero, i.size, i.bytes)) = some (some (.bool false), 1, 1) := by kernel_rfl
theorem make_bools (n : Nat) (hn : n ≤ 1000000) (w : World) : (Instr.makeSlice 90 (.int .i64 (n : Int)) (.int .i64 (n : Int))).run Try.prog w = .ok (.slice (some ⟨w.heap.size, 0, none⟩) n n) (w.alloc (.cells (bools (List.replicate n false)).toArray 4)) := by
  have hinfo := info4
  cases hi : Try.prog.info? 4 with
  | none => rw [hi] at hinfo; cases hinfo
  | some i =>
    rw [hi] at hinfo
    simp only [Option.map_some, Option.some.injEq, Prod.mk.injEq] at hinfo
    obtain ⟨hz, hs, hb⟩ := hinfo
    have h := run_make (P := Try.prog) w 90 4 i (.bool false) Try.underlying90 hi hz .i64 .i64 n n (by omega) (by omega) (by rw [hb]; omega) (by omega)
    have hm : madeCells (Value.bool false).cells (n * 1) = (bools (List.replicate n false)).toArray := by
      apply Array.ext'
      rw [Nat.mul_one]
      show (madeCells #[.bool false] n).toList = _
      rw [toList_madeCells_one]
      simp [bools]
    rw [hs, Int.toNat_natCast, hm] at h
    exact h
theorem madeMarks (W : World) (n : Nat) : Marks (W.alloc (.cells (bools (List.replicate n false)).toArray 4)) W.heap.size (List.replicate n false) := new_at W _
end Go.Proofs.Ytojgfaichkcmpaa

/- No program in it: a row of cells put anew. -/
import Derived.Test.YtmlefodnbbkilaaPlus
import Derived.Laws.Tables
import Derived.Laws.CopyOwn
namespace Go.Proofs.Ytmlefodnbbkilaa
open Go.RowKit

theorem setRow_cell {w : World} {b e : Nat} {c0 cs : Array Value} {fr : Nat × Nat} (h : w.heap[b]? = some (.cells c0 e fr)) (j : Nat) : (w.setRow b cs).cell? ⟨b, j, none⟩ = cs[j]? := by
  have hlt := (Array.getElem?_eq_some_iff.1 h).1
  have : (w.setRow b cs).heap[b]? = some (.cells cs e fr) := by
    unfold World.setRow
    simp only [Array.getElem?_modify]
    rw [h]
    simp
  simp [World.cell?, this]
theorem setRow_heap {w : World} {b e : Nat} {c0 cs : Array Value} {fr : Nat × Nat} (h : w.heap[b]? = some (.cells c0 e fr)) : (w.setRow b cs).heap[b]? = some (.cells cs e fr) := by
  unfold World.setRow
  simp only [Array.getElem?_modify]
  rw [h]
  simp
theorem setRow_frozen {w : World} {b e : Nat} {c0 cs : Array Value} {fr : Nat × Nat} (h : w.heap[b]? = some (.cells c0 e fr)) (j : Nat) : (w.setRow b cs).frozen? ⟨b, j, none⟩ = w.frozen? ⟨b, j, none⟩ := by
  unfold World.frozen?
  simp only [setRow_heap h, h]
theorem setRow_setCell (w : World) (b : Nat) (cs : Array Value) (j : Nat) (v : Value) : (w.setRow b cs).setCell ⟨b, j, none⟩ v = w.setRow b (cs.setIfInBounds j v) := by
  unfold World.setRow World.setCell
  dsimp only
  congr 1
  apply Array.ext_getElem?
  intro i
  simp only [Array.getElem?_modify]
  by_cases h : b = i
  · subst h
    simp only [if_true]
    cases w.heap[b]? with
    | none => rfl
    | some o => cases o <;> rfl
  · simp [h]
theorem setRow_same {w : World} {b e : Nat} {cs : Array Value} {fr : Nat × Nat} (h : w.heap[b]? = some (.cells cs e fr)) : w.setRow b cs = w := by
  have hh : w.heap.modify b (fun | .cells _ elem frozen => .cells cs elem frozen | o => o) = w.heap := by
    apply Array.ext_getElem?
    intro i
    simp only [Array.getElem?_modify]
    by_cases hi : b = i
    · subst hi
      rw [h]
      simp
    · simp [hi]
  unfold World.setRow
  exact congrArg (fun z => ({ w with heap := z } : World)) hh
theorem setRow_size (w : World) (b : Nat) (cs : Array Value) : (w.setRow b cs).heap.size = w.heap.size := by simp [World.setRow]

/-- A row of cells, written by single stores: what the walk asks of it. -/
theorem setRow_facts {W : World} {b e : Nat} {c0 : Array Value} {fr : Nat × Nat} (h : W.heap[b]? = some (.cells c0 e fr)) :
    (∀ cs (j : Nat) v, (W.setRow b cs).setCell ⟨b, j, none⟩ v = W.setRow b (cs.setIfInBounds j v)) ∧ (∀ cs (j : Nat), (W.setRow b cs).cell? ⟨b, j, none⟩ = cs[j]?) ∧
    (∀ cs (j : Nat), (W.setRow b cs).frozen? ⟨b, j, none⟩ = W.frozen? ⟨b, j, none⟩) ∧ (∀ cs (k j : Nat), b ≠ k → (W.setRow b cs).cell? ⟨k, j, none⟩ = W.cell? ⟨k, j, none⟩) :=
  ⟨fun cs j v => setRow_setCell W b cs j v, fun cs j => setRow_cell h j, fun cs j => setRow_frozen h j, fun cs k j hk => by unfold World.cell?; rw [setRow_other W b k cs (fun h => hk h.symm)]⟩
end Go.Proofs.Ytmlefodnbbkilaa

/- Marks by number beside rows of runs. -/
import Derived.Laws.MakeOwn
import Derived.Test.YtbdiombbknmlaaaSort1
import Derived.Test.YtbdiombbknmlaaaBm7
import Derived.Test.YtbdiombbknmlaaaPureParts
namespace Go.Proofs.Ytbdiombbknmlaaa
open Go.RowKit

def marks (n : Nat) (F : Nat → Int) : Array Value := ((List.range n).map fun p => Value.int .i64 (F p)).toArray
theorem marks_get (n : Nat) (F : Nat → Int) (p : Nat) (h : p < n) : (marks n F)[p]? = some (.int .i64 (F p)) := by simp [marks, h]
theorem marks_set (n : Nat) (F : Nat → Int) (q : Nat) (v : Int) : (marks n F).setIfInBounds q (.int .i64 v) = marks n (fun p => if p = q then v else F p) := by
  apply Array.ext'
  simp only [marks, Array.toList_setIfInBounds, List.toList_toArray]
  apply List.ext_getElem?
  intro j
  simp only [List.getElem?_set, List.getElem?_map, List.length_map, List.length_range]
  by_cases hj : j < n
  · rw [List.getElem?_range hj]
    by_cases hq : q = j
    · subst hq
      simp [hj]
    · simp [hq, Ne.symm hq]
  · rw [List.getElem?_eq_none (by simp; omega : (List.range n).length ≤ j)]
    by_cases hq : q = j
    · subst hq
      simp [hj]
    · simp [hq]
def covB (l : List Run) (p : Int) : Bool := l.any fun x => decide (x.1 ≤ p) && decide (p < x.1 + x.2)
theorem covB_iff (l : List Run) (p : Int) : covB l p = true ↔ cov l p := by simp [covB, cov]
theorem covB_snoc (l : List Run) (x : Run) (p : Int) : covB (l ++ [x]) p = (covB l p || (decide (x.1 ≤ p) && decide (p < x.1 + x.2))) := by simp [covB]
theorem covB_take (l : List Run) (i : Nat) (x : Run) (h : l[i]? = some x) (p : Int) : covB (l.take (i + 1)) p = (covB (l.take i) p || (decide (x.1 ≤ p) && decide (p < x.1 + x.2))) := by
  have hi := (List.getElem?_eq_some_iff.1 h).1
  rw [List.take_succ_eq_append_getElem hi, (List.getElem?_eq_some_iff.1 h).2, covB_snoc]
/-- Two rows and a row of marks. -/
structure St (w W : World) (uv : Value) (U : List Run) (fv : Value) (FL : List Run) (B : Nat) (F : Nat → Int) : Prop where
  u : RR w W uv U
  f : RR w W fv FL
  b : W.heap[B]? = some (.cells (marks 600 F) 3)
  hB : w.heap.size ≤ B
section
variable {w W W' : World} {uv fv : Value} {U FL : List Run} {B : Nat} {F : Nat → Int}
theorem St.on (h : St w W uv U fv FL B F) (hb : Below W.heap.size W W') : St w W' uv U fv FL B F := ⟨h.u.on hb, h.f.on hb, keeps_below h.b hb, h.hB⟩
theorem RR.mark {v : Value} {l : List Run} {cs : Array Value} (h : RR w W v l) (hb : W.heap[B]? = some (.cells cs 3)) (hB : w.heap.size ≤ B) (q : Nat) (x : Value) : RR w (W.setCell ⟨B, q, none⟩ x) v l :=
  ⟨ownsRow_same h.row fun g hg => setCell_other W B q g x (fun e => by
    obtain ⟨cur, h1⟩ := ownsRow_elem h.row hg
    rw [e, hb] at h1
    simp at h1), h.below.trans ⟨rfl, rfl, rfl, by rw [setCell_size]; exact Nat.le_refl _, fun k hk => setCell_other W B q k x (by omega)⟩, h.own⟩
theorem St.put (h : St w W uv U fv FL B F) (q : Nat) (v : Int) : St w (W.setCell ⟨B, q, none⟩ (.int .i64 v)) uv U fv FL B (fun p => if p = q then v else F p) :=
  ⟨h.u.mark h.b h.hB q _, h.f.mark h.b h.hB q _, by rw [setCell_block h.b, marks_set], h.hB⟩
theorem St.cell (h : St w W uv U fv FL B F) (q : Nat) (hq : q < 600) : W.cell? ⟨B, q, none⟩ = some (.int .i64 (F q)) ∧ W.frozen? ⟨B, q, none⟩ = false ∧ has W B := by
  refine ⟨?_, by simp [World.frozen?, h.b], (Array.getElem?_eq_some_iff.1 h.b).1⟩
  simp only [World.cell?, h.b]
  exact marks_get 600 F q hq
end
theorem mark_one (c : Nat → Bool) (F : Nat → Int) (xa k : Nat) (h : ∀ p : Nat, p < 600 → F p = if (c p || (decide ((xa : Int) ≤ p) && decide ((p : Int) < (xa : Int) + (k : Int)))) then 1 else 0) :
    ∀ p : Nat, p < 600 → (if p = xa + k then (1 : Int) else F p) = if (c p || (decide ((xa : Int) ≤ p) && decide ((p : Int) < (xa : Int) + ((k + 1 : Nat) : Int)))) then 1 else 0 := by
  intro p hp
  by_cases e : p = xa + k
  · rw [if_pos e, if_pos]
    have h1 : decide ((xa : Int) ≤ p) = true := decide_eq_true (by omega)
    have h2 : decide ((p : Int) < (xa : Int) + ((k + 1 : Nat) : Int)) = true := decide_eq_true (by omega)
    rw [h1, h2]
    simp
  · rw [if_neg e, h p hp]
    have h2 : (decide ((xa : Int) ≤ p) && decide ((p : Int) < (xa : Int) + ((k + 1 : Nat) : Int))) = (decide ((xa : Int) ≤ p) && decide ((p : Int) < (xa : Int) + (k : Int))) := by
      rw [← Bool.decide_and, ← Bool.decide_and]
      exact decide_eq_decide.2 (by omega)
    rw [h2]
theorem mark_two (G : Nat → Int) (c : Nat → Bool) (F : Nat → Int) (xa k : Nat) (hc : c (xa + k) = false) (h : ∀ p : Nat, p < 600 → F p = G p + if (c p || (decide ((xa : Int) ≤ p) && decide ((p : Int) < (xa : Int) + (k : Int)))) then 2 else 0) :
    ∀ p : Nat, p < 600 → (if p = xa + k then F (xa + k) + 2 else F p) = G p + if (c p || (decide ((xa : Int) ≤ p) && decide ((p : Int) < (xa : Int) + ((k + 1 : Nat) : Int)))) then 2 else 0 := by
  intro p hp
  by_cases e : p = xa + k
  · subst e
    rw [if_pos rfl, h _ hp, hc]
    have h1 : decide ((xa : Int) ≤ (xa + k : Nat)) = true := decide_eq_true (by omega)
    have h2 : decide (((xa + k : Nat) : Int) < (xa : Int) + ((k + 1 : Nat) : Int)) = true := decide_eq_true (by omega)
    have h3 : decide (((xa + k : Nat) : Int) < (xa : Int) + (k : Int)) = false := decide_eq_false (by omega)
    rw [h1, h2, h3]
    simp
  · rw [if_neg e, h p hp]
    have h2 : (decide ((xa : Int) ≤ p) && decide ((p : Int) < (xa : Int) + ((k + 1 : Nat) : Int))) = (decide ((xa : Int) ≤ p) && decide ((p : Int) < (xa : Int) + (k : Int))) := by
      rw [← Bool.decide_and, ← Bool.decide_and]
      exact decide_eq_decide.2 (by omega)
    rw [h2]
def lastE (FL : List Run) : Nat → Int
  | 0 => -1
  | i + 1 => match FL[i]? with | some x => x.1 + x.2 | none => -1
theorem Free.before {a b : Int} {U FL : List Run} (h : Free a b U FL) (ha : 0 ≤ a) (i : Nat) (x : Run) (hx : FL[i]? = some x) : lastE FL i < x.1 := by
  have h1 := h.ok x (List.mem_of_getElem? hx)
  cases i with
  | zero => simp only [lastE]; omega
  | succ j =>
    have hj : j + 1 < FL.length := (List.getElem?_eq_some_iff.1 hx).1
    have h2 := List.pairwise_iff_getElem.1 h.apart j (j + 1) (by omega) hj (by omega)
    have e : FL[j]? = some FL[j] := List.getElem?_eq_getElem (by omega)
    simp only [lastE, e]
    rw [(List.getElem?_eq_some_iff.1 hx).2] at h2
    exact h2
theorem Free.notYet {a b : Int} {U FL : List Run} (h : Free a b U FL) (i : Nat) (x : Run) (hx : FL[i]? = some x) (p : Int) (hp : x.1 ≤ p) : covB (FL.take i) p = false := by
  rcases hb : covB (FL.take i) p with _ | _
  · rfl
  · obtain ⟨y, hy, h1, h2⟩ := (covB_iff _ _).1 hb
    obtain ⟨j, hj⟩ := List.getElem?_of_mem hy
    have hji : j < i := by have := (List.getElem?_eq_some_iff.1 hj).1; simp at this; omega
    rw [List.getElem?_take, if_pos hji] at hj
    have hi := (List.getElem?_eq_some_iff.1 hx).1
    have h3 := List.pairwise_iff_getElem.1 h.apart j i (by omega) hi hji
    rw [(List.getElem?_eq_some_iff.1 hx).2, (List.getElem?_eq_some_iff.1 hj).2] at h3
    omega
theorem info3 : (Try.prog.info? 3).map (fun i => (i.zero, i.size, i.bytes)) = some (some (.int .i64 0), 1, 8) := by kernel_rfl
theorem make_marks (w : World) : (Instr.makeSlice 26 (.int .i64 600) (.int .i64 600)).run Try.prog w = .ok (.slice (some ⟨w.heap.size, 0, none⟩) 600 600) (w.alloc (.cells (marks 600 fun _ => 0) 3)) := by
  have hinfo := info3
  cases hi : Try.prog.info? 3 with
  | none => rw [hi] at hinfo; cases hinfo
  | some i =>
    rw [hi] at hinfo
    simp only [Option.map_some, Option.some.injEq, Prod.mk.injEq] at hinfo
    obtain ⟨hz, hs, hb⟩ := hinfo
    have h := run_make (P := Try.prog) w 26 3 i (.int .i64 0) Try.underlying26 hi hz .i64 .i64 600 600 (by omega) (by omega) (by rw [hb]; omega) (by omega)
    have hm : madeCells (Value.int .i64 0).cells (600 * 1) = marks 600 fun _ => 0 := by
      apply Array.ext'
      rw [Nat.mul_one]
      show (madeCells #[.int .i64 0] 600).toList = _
      rw [toList_madeCells_one]
      simp only [marks, List.toList_toArray]
      have hc := List.map_const (l := List.range 600) (b := Value.int .i64 0)
      rw [List.length_range] at hc
      exact hc.symm
    rw [hs] at h
    simp only [show Int.toNat 600 = 600 from rfl] at h
    rw [hm] at h
    exact h
end Go.Proofs.Ytbdiombbknmlaaa

/- Walks: loose writes told from the last one on. -/
import Derived.Test.YtojgfaichkcmpaaDisk7
import Derived.RangeFuncNested
import Derived.RangeFuncBound
import Derived.RangeFuncCalls
import Derived.RangeFuncLeaves
import Derived.RangeFuncFrom
import Derived.Shelf.Abstract
import Derived.Shelf.RegionOpen
import Derived.OwnWalkIn
import Derived.TacticsInMore
import Derived.LoopNIn
import Derived.LoopIn
namespace Go.Proofs.Ytojgfaichkcmpaa
open Go.RowKit Go.Shelf

attribute [local go_sem] Oper.semAt_some

/-- The first k of a row's elements, from its end, each with its place. -/
def revs (l : List (Nat × List UInt8)) (k : Nat) : List (Nat × Nat × List UInt8) := (List.range k).map fun t => (l.length - 1 - t, l.getD (l.length - 1 - t) (0, []))
theorem revs_length (l : List (Nat × List UInt8)) (k : Nat) : (revs l k).length = k := by simp [revs]
theorem revs_succ (l : List (Nat × List UInt8)) (k : Nat) : revs l (k + 1) = revs l k ++ [(l.length - 1 - k, l.getD (l.length - 1 - k) (0, []))] := by simp [revs, List.range_succ]
/-- An element as the iterator hands it out. -/
def encW (x : Nat × Nat × List UInt8) : Array Value := #[.int .i64 (x.1 : Int), .agg #[.int .i64 (x.2.1 : Int), strV x.2.2]]
/-- A row's two cells for each element, and the box that holds it. -/
structure RowAt (W : World) (bx : Nat) (lv : Value) (l : List (Nat × List UInt8)) : Prop where
  box : W.cell? ⟨bx, 0, none⟩ = some lv
  row : W.ownsRow 0 54 2 lv l.length (loosV l)
theorem RowAt.form {W : World} {bx : Nat} {lv : Value} {l : List (Nat × List UInt8)} (h : RowAt W bx lv l) : ∃ A c, lv = .slice A l.length c := ownsRow_form h.row
theorem RowAt.cells {W : World} {bx : Nat} {lv : Value} {l : List (Nat × List UInt8)} (h : RowAt W bx lv l) (k : Nat) (hk : k < l.length) :
    ∃ g c, lv = .slice (some ⟨g, 0, none⟩) l.length c ∧ W.cell? ⟨g, k * 2, none⟩ = some (.int .i64 ((l.getD k (0, [])).1 : Int)) ∧ W.cell? ⟨g, k * 2 + 1, none⟩ = some (strV (l.getD k (0, [])).2) := by
  obtain ⟨h1, h2⟩ := loosV_get l k hk
  have hrow := h.row
  rcases h.row.2 with ⟨hv, h0⟩ | ⟨g, cap, cur, hv, _, hg, _⟩
  · omega
  · refine ⟨g, cap, hv, ?_, ?_⟩
    · have := hrow.cells (g := g) (by rw [hv]; rfl) _ _ h1
      rwa [show (⟨g, 0, none⟩ : Addr).add (k * 2) = ⟨g, k * 2, none⟩ by unfold Addr.add; split <;> simp_all] at this
    · have := hrow.cells (g := g) (by rw [hv]; rfl) _ _ h2
      rwa [show (⟨g, 0, none⟩ : Addr).add (k * 2 + 1) = ⟨g, k * 2 + 1, none⟩ by unfold Addr.add; split <;> simp_all] at this
/-- Blocks below n0 are as they were. -/
theorem RowAt.below {n0 : Nat} {W W' : World} {bx : Nat} {lv : Value} {l : List (Nat × List UInt8)} (h : RowAt W bx lv l) (hb : Below n0 W W') (h1 : bx < n0) (h2 : ∀ g, lv.ownBlock = some g → g < n0) : RowAt W' bx lv l :=
  ⟨(hb.cell (p := ⟨bx, 0, none⟩) h1).trans h.box, ownsRow_same h.row fun g hg => hb.block g (h2 g hg)⟩

set_option maxRecDepth 100000 in
set_option maxHeartbeats 2000000 in
theorem backward1_in (F : Fence) (n : Nat) (h50 : F.fn 50) (hro : F.round = none) (hn : 1 ≤ n) (l bx n0 : Nat) (lv : Value) (L : List (Nat × List UInt8)) (hm : L.length ≤ 1000000) (J Jx : List (Nat × Nat × List UInt8) → World → Prop)
    (h1 : bx < n0) (h2 : ∀ g, lv.ownBlock = some g → g < n0)
    (hY : ∀ pre x W, J pre W → pre.length < L.length → YieldAt F (n - 1) Try.prog l (encW x) W fun e W' =>
      (e = .returned (.bool true) ∧ J (pre ++ [x]) W' ∧ Below n0 W W') ∨ (e = .returned (.bool false) ∧ Jx (pre ++ [x]) W'))
    (W : World) (hR : RowAt W bx lv L) (h0 : J [] W) :
    CallsIn F n Try.prog 50 #[.func (.yield l) #[] #[], .pointer (some ⟨bx, 0, none⟩)] W fun e W' => (∃ v, e = .returned v) ∧
      ((∃ ys, ys = revs L L.length ∧ J ys W') ∨ (∃ pre, (∃ k, k ≤ L.length ∧ pre = revs L k) ∧ Jx pre W')) := by
  refine callsIn_of_wp Try.func50 rfl h50 ?_ hro
  obtain ⟨A, z, rfl⟩ := hR.form
  have hb0 := hR.box
  simp only [Try.ntmps50, List.size_toArray, List.length_cons, List.length_nil, Nat.reduceAdd, Nat.reduceSub, Array.replicate_succ, Array.replicate_zero, List.push_toArray, List.append_toArray, List.nil_append, List.cons_append]
  gi_wp2
  gi_loopw [3] (fun p wr => ∃ k : Nat, k ≤ L.length ∧ p = .int .i64 ((L.length : Int) - 1 - (k : Int)) ∧ Hid (RowAt wr bx (.slice A L.length z) L) ∧ J (revs L k) wr) (fun p _ => (1 + intOf p).toNat)
  case atStart => exact ⟨0, by omega, by go_num, hR, h0⟩
  case round =>
    obtain ⟨k, hk, rfl, HRr, hJs⟩ := hrel
    by_cases hlt : k < L.length
    · obtain ⟨j, hj⟩ : ∃ j, L.length - 1 - k = j := ⟨_, rfl⟩
      have ej : (L.length : Int) - 1 - (k : Int) = (j : Int) := by omega
      rw [ej]
      have hjl : j < L.length := by omega
      obtain ⟨y, hy0⟩ : ∃ y, L.getD j (0, []) = y := ⟨_, rfl⟩
      have HS := Lib.hid (show revs L (k + 1) = revs L k ++ [(j, y)] by rw [revs_succ, hj, hy0])
      obtain ⟨fn, tmps, assign, body, hy, hR1⟩ := hY (revs L k) (j, y) wr hJs (by rw [revs_length]; exact hlt)
      obtain ⟨g, c', hv, r1, r2⟩ := HRr.out.cells j hjl
      have b1 := HRr.out.box
      rw [hy0] at r1 r2
      obtain ⟨rfl, -, rfl⟩ := by simpa only [Value.slice.injEq] using hv
      obtain ⟨a, b⟩ := y
      simp only [encW] at hy r1 r2
      have HEJ := Lib.hid ej
      have HJL := Lib.hid (And.intro hjl hj)
      clear hy0 hv ej hj
      gi_wp2
      refine hR1.mono ?_
      rintro e W3 (⟨rfl, hJ3, hk3⟩ | ⟨rfl, hJx3⟩)
      · have hR3 := HRr.out.below hk3 h1 h2
        gi_wp2
        go_roundw
        case rel => exact ⟨k + 1, by omega, by have := HJL.out; go_num, hR3, by rw [HS.out]; exact hJ3⟩
        case measure =>
          have := HJL.out
          simp [intOf]
          omega
      · gi_wp2
        refine bodyPost_ret (results_none rfl _ _ _) rfl ?_
        exact ⟨⟨_, rfl⟩, .inr ⟨_, ⟨k + 1, by omega, HS.out.symm⟩, hJx3⟩⟩
    · obtain rfl : k = L.length := by omega
      gi_wp2
      go_end0
      exact ⟨⟨_, rfl⟩, .inl ⟨_, rfl, hJs⟩⟩
theorem back_stops (F : Fence) (n : Nat) (h50 : F.fn 50) (hro : F.round = none) (hn : 1 ≤ n) (bx n0 : Nat) (lv : Value) (L : List (Nat × List UInt8)) (hm : L.length ≤ 1000000) (w : World) (h1 : bx < n0) (h2 : ∀ g, lv.ownBlock = some g → g < n0) (hn0 : n0 ≤ w.heap.size) (hR : RowAt w bx lv L) :
    SeqStopsK F n Try.prog 50 #[.pointer (some ⟨bx, 0, none⟩)] encW (Below n0) (fun ys => ys = revs L L.length) (fun pre => ∃ k, k ≤ L.length ∧ pre = revs L k) L.length w := fun l J Jx W hW _ _ hY h0 =>
  backward1_in F n h50 hro hn l bx n0 lv L hm J Jx h1 h2 hY W (hR.below (hW.mono hn0) h1 h2) h0
set_option maxRecDepth 100000 in
/-- The receiver is boxed; the function value captures the box. -/
theorem back_call (F : Fence) (n : Nat) (h42 : F.fn 42) (hro : F.round = none) (A : Option Addr) (k z : Nat) (w : World) :
    CallsIn F n Try.prog 42 #[.slice A k z] w fun e w' => e = .returned (.func (.func 50) #[] #[.pointer (some ⟨w.heap.size, 0, none⟩)]) ∧ w' = w.alloc (.cells #[.slice A k z] 49) := by
  refine callsIn_of_wp Try.func42 rfl h42 ?_ hro
  simp only [Try.ntmps42, List.size_toArray, List.length_cons, List.length_nil, Nat.reduceAdd, Nat.reduceSub, Array.replicate_succ, Array.replicate_zero, List.push_toArray, List.append_toArray, List.nil_append, List.cons_append]
  gi_wp2
  go_ret
  exact ⟨rfl, rfl⟩
set_option maxRecDepth 100000 in
theorem backward_call (F : Fence) (n : Nat) (h26 : F.fn 26) (hro : F.round = none) (p : Nat) (i : Int) (w : World) :
    CallsIn F n Try.prog 26 #[ptr p, .int .i64 i] w fun e w' => e = .returned (.func (.func 41) #[] #[.pointer (some ⟨w.heap.size, 0, none⟩), .pointer (some ⟨w.heap.size + 1, 0, none⟩)]) ∧ w' = (w.alloc (.cells #[ptr p] 22)).alloc (.cells #[.int .i64 i] 3) := by
  refine callsIn_of_wp Try.func26 rfl h26 ?_ hro
  simp only [Try.ntmps26, List.size_toArray, List.length_cons, List.length_nil, Nat.reduceAdd, Nat.reduceSub, Array.replicate_succ, Array.replicate_zero, List.push_toArray, List.append_toArray, List.nil_append, List.cons_append]
  gi_wp2
  go_ret
  exact ⟨rfl, rfl⟩
end Go.Proofs.Ytojgfaichkcmpaa

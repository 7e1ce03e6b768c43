/- Walks: bytes turned about in their row. -/
import Derived.Test.YtalanaongfnndaaDoorCod1
import Derived.Laws.Tables
import Derived.RegionTactic
import Derived.BigRegion
namespace Go.Proofs.YtalanaongfnndaaDoor
open Go.RowKit

theorem setRow_cell {w : World} {b e : Nat} {c0 cs : Array Value} {fr : Nat × Nat} (h : w.heap[b]? = some (.cells c0 e fr)) (j : Nat) : (w.setRow b cs).cell? ⟨b, j, none⟩ = cs[j]? := by
  have hlt := (Array.getElem?_eq_some_iff.1 h).1
  have : (w.setRow b cs).heap[b]? = some (.cells cs e fr) := by
    unfold World.setRow
    simp only [Array.getElem?_modify]
    rw [h]
    simp
  simp [World.cell?, this]
theorem setRow_heap {w : World} {b e : Nat} {c0 cs : Array Value} {fr : Nat × Nat} (h : w.heap[b]? = some (.cells c0 e fr)) : (w.setRow b cs).heap[b]? = some (.cells cs e fr) := by
  unfold World.setRow
  simp only [Array.getElem?_modify]
  rw [h]
  simp
theorem setRow_frozen {w : World} {b e : Nat} {c0 cs : Array Value} {fr : Nat × Nat} (h : w.heap[b]? = some (.cells c0 e fr)) (j : Nat) : (w.setRow b cs).frozen? ⟨b, j, none⟩ = w.frozen? ⟨b, j, none⟩ := by
  unfold World.frozen?
  simp only [setRow_heap h, h]
theorem setRow_setCell (w : World) (b : Nat) (cs : Array Value) (j : Nat) (v : Value) : (w.setRow b cs).setCell ⟨b, j, none⟩ v = w.setRow b (cs.setIfInBounds j v) := by
  unfold World.setRow World.setCell
  dsimp only
  congr 1
  apply Array.ext_getElem?
  intro i
  simp only [Array.getElem?_modify]
  by_cases h : b = i
  · subst h
    simp only [if_true]
    cases w.heap[b]? with
    | none => rfl
    | some o => cases o <;> rfl
  · simp [h]
theorem setRow_same {w : World} {b e : Nat} {cs : Array Value} {fr : Nat × Nat} (h : w.heap[b]? = some (.cells cs e fr)) : w.setRow b cs = w := by
  have hh : w.heap.modify b (fun | .cells _ elem frozen => .cells cs elem frozen | o => o) = w.heap := by
    apply Array.ext_getElem?
    intro i
    simp only [Array.getElem?_modify]
    by_cases hi : b = i
    · subst hi
      rw [h]
      simp
    · simp [hi]
  unfold World.setRow
  exact congrArg (fun z => ({ w with heap := z } : World)) hh
theorem setRow_size (w : World) (b : Nat) (cs : Array Value) : (w.setRow b cs).heap.size = w.heap.size := by simp [World.setRow]

/-- A row of bytes, with what stands behind them. -/
def rowC (l : List UInt8) (tl : List Value) : Array Value := (u8s l ++ tl).toArray
theorem rowC_get (l : List UInt8) (tl : List Value) (j : Nat) (h : j < l.length) : (rowC l tl)[j]? = some (.int .u8 ((l.getD j 0).toNat : Int)) := by
  simp [rowC, u8s, List.getElem?_append, h]
theorem rowC_set (l : List UInt8) (tl : List Value) (j : Nat) (x : UInt8) (h : j < l.length) : (rowC l tl).setIfInBounds j (.int .u8 (x.toNat : Int)) = rowC (l.set j x) tl := by
  simp [rowC, u8s, h]

/-- k bytes at each end turned about. -/
def RevUp (l L : List UInt8) (k : Nat) : Prop := L.length = l.length ∧ ∀ j, j < l.length → L.getD j 0 = if j < k ∨ l.length - k ≤ j then l.getD (l.length - 1 - j) 0 else l.getD j 0
theorem revUp_zero (l : List UInt8) : RevUp l l 0 := ⟨rfl, fun j hj => by rw [if_neg (by omega)]⟩
theorem getD_set {l : List UInt8} {i j : Nat} {x : UInt8} (hi : i < l.length) : (l.set i x).getD j 0 = if i = j then x else l.getD j 0 := by
  simp only [List.getD_eq_getElem?_getD, List.getElem?_set]
  by_cases h : i = j
  · subst h; simp [hi]
  · simp [h]
theorem revUp_step {l L : List UInt8} {k : Nat} (h : RevUp l L k) (hk : k < l.length - 1 - k) : RevUp l ((L.set k (L.getD (l.length - 1 - k) 0)).set (l.length - 1 - k) (L.getD k 0)) (k + 1) := by
  obtain ⟨h1, h2⟩ := h
  refine ⟨by simp [h1], fun j hj => ?_⟩
  rw [getD_set (by simp [h1]; omega), getD_set (by omega)]
  by_cases e1 : l.length - 1 - k = j
  · subst e1
    rw [if_pos rfl, if_pos (by omega), h2 k (by omega), if_neg (by omega)]
    congr 1
    omega
  · rw [if_neg e1]
    by_cases e2 : k = j
    · subst e2
      rw [if_pos rfl, if_pos (by omega), h2 _ (by omega), if_neg (by omega)]
    · rw [if_neg e2, h2 j hj]
      by_cases e3 : j < k ∨ l.length - k ≤ j
      · rw [if_pos e3, if_pos (by omega)]
      · rw [if_neg e3, if_neg (by omega)]
theorem revUp_end {l L : List UInt8} {k : Nat} (h : RevUp l L k) (hk : ¬ k < l.length - 1 - k) : L = l.reverse := by
  obtain ⟨h1, h2⟩ := h
  apply List.ext_getElem (by simp [h1])
  intro j hj1 hj2
  have hj : j < l.length := by omega
  have h3 := h2 j hj
  rw [List.getElem_reverse]
  have e1 : L.getD j 0 = L[j] := by simp [hj1]
  have e2 : l.getD (l.length - 1 - j) 0 = l[l.length - 1 - j] := by
    have : l.length - 1 - j < l.length := by omega
    simp [this]
  rw [← e1, ← e2, h3]
  by_cases e3 : j < k ∨ l.length - k ≤ j
  · rw [if_pos e3]
  · rw [if_neg e3]
    congr 1
    omega

set_option maxRecDepth 100000 in
theorem reverse_any (b cap : Nat) (l : List UInt8) (tl : List Value) (e : Nat) (fr : Nat × Nat) (w : World) (hl : l.length ≤ 1000000000) (hb : w.heap[b]? = some (.cells (rowC l tl) e fr)) (hfr : ∀ j, j < l.length → w.frozen? ⟨b, j, none⟩ = false) :
    Calls Tryd.prog 23 #[.slice (some ⟨b, 0, none⟩) l.length cap] w fun r w' => r = .returned (.tuple #[]) ∧ ∃ x, w' = plus (w.setRow b (rowC l.reverse tl)) x := by
  have hbw : b < w.heap.size := (Array.getElem?_eq_some_iff.1 hb).1
  have HF := Lib.hid hfr
  clear hfr
  have hset := fun cs j v => setRow_setCell w b cs j v
  have hhas : ∀ cs, has (w.setRow b cs) b := fun cs => by unfold has; rw [setRow_size]; exact hbw
  go_enter Tryd.func23, Tryd.ntmps23
  go_wp2_with fail
  go_loopw [2, 3] (fun v u wr => ∃ k : Nat, 2 * k ≤ l.length + 1 ∧ v = .int .i64 k ∧ u = .int .i64 ((l.length : Int) - 1 - (k : Int)) ∧ ∃ L : List UInt8, Hid (RevUp l L k) ∧ ∃ x : Ext, wr = plus (w.setRow b (rowC L tl)) x) (fun v _ _ => l.length + 1 - (intOf v).toNat)
  case atStart =>
    refine ⟨0, by omega, rfl, by simp, l, Lib.hid (revUp_zero l), ⟨#[], w.drawn⟩, ?_⟩
    rw [setRow_same hb]
    simp [plus]
  case round =>
    obtain ⟨k, hk, rfl, rfl, L, HL, x, rfl⟩ := hrel
    have hLl := HL.out.1
    by_cases hlt : k < l.length - 1 - k
    · have hd : decide ((k : Int) < (l.length : Int) - 1 - (k : Int)) = true := by simp; omega
      obtain ⟨q, hqd⟩ : ∃ q, l.length - 1 - k = q := ⟨_, rfl⟩
      have hqi : (l.length : Int) - 1 - (k : Int) = (q : Int) := by omega
      have hkq : k < q := by omega
      have hql : q < l.length := by omega
      have hkl : k < l.length := by omega
      have HQ := Lib.hid hqd
      rw [hqi]
      obtain ⟨y, hy⟩ : ∃ y, L.getD q 0 = y := ⟨_, rfl⟩
      obtain ⟨z, hz⟩ : ∃ z, L.getD k 0 = z := ⟨_, rfl⟩
      have HY := Lib.hid hy
      have HZ := Lib.hid hz
      have c1 := setRow_cell (cs := rowC L tl) hb q
      have c2 := setRow_cell (cs := rowC L tl) hb k
      have c3 := setRow_cell (cs := rowC (L.set k y) tl) hb q
      rw [rowC_get L tl q (by omega), hy] at c1
      rw [rowC_get L tl k (by omega), hz] at c2
      rw [rowC_get _ tl q (by simp; omega)] at c3
      have f1 : ∀ cs, (w.setRow b cs).frozen? ⟨b, k, none⟩ = false := fun cs => (setRow_frozen hb k).trans (HF.out k (by omega))
      have f2 : ∀ cs, (w.setRow b cs).frozen? ⟨b, q, none⟩ = false := fun cs => (setRow_frozen hb q).trans (HF.out q (by omega))
      have s1 := rowC_set L tl k y (by omega)
      have s2 := rowC_set (L.set k y) tl q z (by simp; omega)
      have HHB := Lib.hid hb
      have HHD := Lib.hid hd
      clear hqd hy hz hqi hb
      have hd2 : decide ((k : Int) < (q : Int)) = true := by simp; omega
      clear hd
      go_wp2_with fail
      refine wp_region_plain 13 28 mixed (by kernel_rfl) (by kernel_rfl) rfl (fun _ _ _ _ _ h => h) ?_
      simp only [List.take_succ_cons, List.take_zero, List.drop_succ_cons, List.drop_zero]
      repeat (first | (refine wpHead_skip rfl ?_) | (refine wpHead_run rfl rfl (fun K hK => ?_); go_simp; first | (refine hK _ ?_; clear hK K) | (apply Exists.intro; refine ⟨fun _ => ?_, hK _ ?_⟩; (fail); clear hK K)))
      refine wpHead_nil ?_
      intro zz x2
      clear zz
      go_wp2_with fail
      go_roundw
      case rel =>
        have hst := revUp_step HL.out (by omega)
        rw [HQ.out, HY.out, HZ.out] at hst
        have hq := HQ.out
        exact ⟨k + 1, by omega, by go_num, congrArg (Value.int .i64) (by omega), _, Lib.hid hst, ⟨x.blocks ++ x2.blocks, x2.draws⟩, plus_plus _ _ _⟩
      case measure => simp [intOf]; omega
    · have hd : decide ((k : Int) < (l.length : Int) - 1 - (k : Int)) = false := by simp; omega
      have hr := revUp_end HL.out hlt
      go_wp2_with fail
      go_end0
      exact ⟨rfl, x, rfl⟩
set_option maxRecDepth 100000 in
theorem reverse_nil (w : World) : Calls Tryd.prog 23 #[.slice none 0 0] w fun r w' => r = .returned (.tuple #[]) ∧ w' = w := by
  go_enter Tryd.func23, Tryd.ntmps23
  go_wp2_with fail
  refine wp_loop_rounds 1 ?_
  rw [rounds_succ]
  go_wp2_with fail
  go_end0
  exact ⟨rfl, rfl⟩
theorem below_setRow' {B g : Nat} (w : World) (hBg : B ≤ g) (cs : Array Value) : Below B w (w.setRow g cs) := ⟨rfl, rfl, rfl, by simp [World.setRow], fun k hk => setRow_other w g k cs (by omega)⟩
theorem reverse_rowB {base : Nat} {v : Value} {l : List UInt8} {w : World} (hl : l.length ≤ 1000000000) (h : rowB w base 5 v l) :
    Calls Tryd.prog 23 #[v] w fun r w' => r = .returned (.tuple #[]) ∧ rowB w' base 5 v l.reverse ∧ Below base w w' := by
  have h0 := h
  obtain ⟨h1, h2⟩ := h
  rcases h2 with ⟨rfl, hn0⟩ | ⟨g, cap, cur, rfl, hb, hh, hn, hc, hcs, ht⟩
  · have hl : l = [] := List.eq_nil_of_length_eq_zero hn0
    subst hl
    refine (reverse_nil w).mono ?_
    rintro r w' ⟨rfl, rfl⟩
    exact ⟨rfl, rowB_nil _ _ _, Below.refl _ _⟩
  · obtain ⟨tl, rfl⟩ : ∃ tl, cur = rowC l tl := by
      refine ⟨cur.toList.drop l.length, ?_⟩
      rw [Nat.mul_one] at ht
      unfold rowC
      rw [← ht, List.take_append_drop]
    have hf : ∀ j, j < l.length → w.frozen? ⟨g, j, none⟩ = false := fun j _ => World.ownsRow.frozenAt h0 j
    refine (reverse_any g cap l tl 5 (0, 0) w hl hh hf).mono ?_
    rintro r w' ⟨rfl, x, rfl⟩
    refine ⟨rfl, rowB_plus ?_ x, Below.plus (below_setRow' w hb _) (by rw [setRow_size]; have := (Array.getElem?_eq_some_iff.1 hh).1; omega) x⟩
    unfold rowB
    rw [List.length_reverse]
    refine ⟨by simp [u8s], .inr ⟨g, cap, rowC l.reverse tl, rfl, hb, setRow_heap hh, hn, hc, ?_, ?_⟩⟩
    · simpa [rowC, u8s] using hcs
    · simp [rowC, u8s]
end Go.Proofs.YtalanaongfnndaaDoor

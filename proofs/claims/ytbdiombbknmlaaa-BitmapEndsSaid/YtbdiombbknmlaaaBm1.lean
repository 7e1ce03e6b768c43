/- Rows of runs; walks: clone, index, delete. -/
import Derived.Test.YtbdiombbknmlaaaBase
namespace Go.Proofs.Ytbdiombbknmlaaa
open Go.RowKit

abbrev Run := Int × Int
def encR (x : Run) : List Value := [.int .i64 x.1, .int .i64 x.2]
def flatR (l : List Run) : List Value := l.flatMap encR
theorem flatR_length (l : List Run) : (flatR l).length = l.length * 2 := by
  induction l with
  | nil => rfl
  | cons x l ih => simp only [flatR, List.flatMap_cons, List.length_append, List.length_cons] at *; rw [ih]; simp [encR]; omega
theorem flatR_get : ∀ (l : List Run) (j : Nat) (x : Run), l[j]? = some x → (flatR l)[j * 2]? = some (.int .i64 x.1) ∧ (flatR l)[j * 2 + 1]? = some (.int .i64 x.2)
  | [], j, x, h => by simp at h
  | y :: l, 0, x, h => by
    simp only [List.getElem?_cons_zero, Option.some.injEq] at h
    subst h
    exact ⟨rfl, rfl⟩
  | y :: l, j + 1, x, h => by
    have ih := flatR_get l j x (by simpa using h)
    have e : flatR (y :: l) = .int .i64 y.1 :: .int .i64 y.2 :: flatR l := rfl
    rw [e, show (j + 1) * 2 = j * 2 + 1 + 1 by omega, List.getElem?_cons_succ, List.getElem?_cons_succ, show j * 2 + 1 + 1 + 1 = (j * 2 + 1) + 1 + 1 by omega, List.getElem?_cons_succ, List.getElem?_cons_succ]
    exact ih
theorem flatR_one (l : List Run) : ∀ u ∈ flatR l, u.oneCell' = true := by
  intro u hu
  obtain ⟨x, _, hx⟩ := List.mem_flatMap.1 hu
  simp [encR] at hx
  rcases hx with rfl | rfl <;> rfl
theorem flatR_append (l m : List Run) : flatR (l ++ m) = flatR l ++ flatR m := by simp [flatR]
/-- A row of runs of the call's own. -/
structure RR (w W : World) (v : Value) (l : List Run) : Prop where
  row : W.ownsRow 0 28 2 v l.length (flatR l)
  below : Below w.heap.size w W
  own : ∀ k, v.ownBlock = some k → w.heap.size ≤ k
section
variable {w W W' : World} {v : Value} {l : List Run}
theorem RR.nil (w : World) : RR w w (.slice none 0 0) [] := ⟨World.ownsRow_nil _ 0 28 2, Below.refl _ _, fun k hk => by cases hk⟩
theorem RR.lt (h : RR w W v l) : ∀ k, v.ownBlock = some k → k < W.heap.size := fun k hk => (World.ownsRow.lt h.row k hk).2
theorem RR.on (h : RR w W v l) (hb : Below W.heap.size W W') : RR w W' v l := ⟨ownsRow_same h.row fun g hg => hb.block g (h.lt g hg), h.below.trans (hb.mono h.below.size), h.own⟩
theorem RR.form (h : RR w W v l) : ∃ A c, v = .slice A l.length c := ownsRow_form h.row
/-- A run, by its place. -/
theorem RR.at {A : Option Addr} {n c : Nat} (h : RR w W (.slice A n c) l) (j : Nat) (x : Run) (hj : l[j]? = some x) :
    ∃ g, A = some ⟨g, 0, none⟩ ∧ w.heap.size ≤ g ∧ has W g ∧ W.cell? ⟨g, j * 2, none⟩ = some (.int .i64 x.1) ∧ W.cell? ⟨g, j * 2 + 1, none⟩ = some (.int .i64 x.2) ∧ ∀ k, W.frozen? ⟨g, k, none⟩ = false := by
  have hlt := (List.getElem?_eq_some_iff.1 hj).1
  have hrow := h.row
  rcases h.row.2 with ⟨_, h0⟩ | ⟨g, cap, cur, hv, _, hh, _⟩
  · omega
  · rw [hv] at hrow
    obtain ⟨rfl, -, -⟩ := by simpa only [Value.slice.injEq] using hv
    obtain ⟨h1, h2⟩ := flatR_get l j x hj
    exact ⟨g, rfl, h.own g rfl, (Array.getElem?_eq_some_iff.1 hh).1, (hrow.cellAt _ (by omega)).trans h1, (hrow.cellAt _ (by omega)).trans h2, fun k => hrow.frozenAt k⟩
end
theorem closR_any (x : Run) (W : World) : Calls Try.prog 23 #[.agg #[.int .i64 x.1, .int .i64 x.2]] W fun e w' => e = .returned (.bool (decide (x.2 < 1))) ∧ Below W.heap.size W w' := by
  go_enter Try.func23, Try.ntmps23
  go_wp2_with fail
  exact bodyPost_ret (v := .bool (decide (x.2 < 1))) (by simp [results, Try.results23, go_sem]) rfl ⟨rfl, (Below.refl _ _).alloc (Nat.le_refl _) _⟩
/-- The first one without places, or -1. -/
def BadAt (l : List Run) (i : Int) : Prop := (i = -1 ∧ ∀ x ∈ l, 1 ≤ x.2) ∨ ∃ (k : Nat) (x : Run), i = k ∧ l[k]? = some x ∧ x.2 < 1 ∧ ∀ j, j < k → ∀ y, l[j]? = some y → 1 ≤ y.2
set_option maxRecDepth 100000 in
theorem index_any {w W : World} {v : Value} {l : List Run} (h : RR w W v l) (hl : l.length ≤ 1000000) : Calls Try.prog 29 #[v, .func (.func 23) #[] #[]] W fun e w' => (∃ i, e = .returned (.int .i64 i) ∧ BadAt l i) ∧ Below W.heap.size W w' := by
  obtain ⟨A, c, rfl⟩ := h.form
  go_enter Try.func29, Try.ntmps29
  go_wp2_with fail
  rename_i K hK
  have HKK := Lib.hid hK
  clear hK
  go_loopw [8] (fun v wr => ∃ k : Nat, k ≤ l.length ∧ v = .int .i64 k ∧ Hid (Below W.heap.size W wr) ∧ Hid (∀ j, j < k → ∀ x, l[j]? = some x → 1 ≤ x.2)) (fun v _ => l.length - (intOf v).toNat)
  case atStart => exact ⟨0, by omega, rfl, Below.refl _ _, fun j hj => by omega⟩
  case round =>
    obtain ⟨k, hk, rfl, HB, HN⟩ := hrel
    by_cases hlt : k < l.length
    · have hd : decide ((k : Int) < (l.length : Int)) = true := by simp; omega
      obtain ⟨x, hx⟩ : ∃ x, l[k]? = some x := ⟨_, List.getElem?_eq_getElem hlt⟩
      obtain ⟨g, rfl, -, g1, g2, g3, -⟩ := (h.on HB.out).at k x hx
      go_wp2_with fail
      refine (closR_any x wr).mono ?_
      rintro _ V ⟨rfl, hb⟩
      have HB2 := Lib.hid (HB.out.trans (hb.mono HB.out.size))
      clear hb g1 g2 g3
      by_cases h1 : x.2 < 1
      · have d1 : decide (x.2 < 1) = true := by simpa using h1
        rw [d1]
        have HX := Lib.hid hx
        have H1 := Lib.hid h1
        clear hx h1 d1
        go_wp2_with fail
        exact bodyPost_ret (v := .int .i64 (k : Int)) (by simp [results, Try.results29, go_sem]) rfl ⟨⟨k, rfl, .inr ⟨k, x, rfl, HX.out, H1.out, HN.out⟩⟩, HB2.out⟩
      · have d1 : decide (x.2 < 1) = false := by simpa using h1
        rw [d1]
        have HN2 : Hid (∀ j, j < k + 1 → ∀ y, l[j]? = some y → 1 ≤ y.2) := Lib.hid (by
          intro j hj y hy
          rcases Nat.lt_or_ge j k with h2 | h2
          · exact HN.out j h2 y hy
          · obtain rfl : j = k := by omega
            rw [hx] at hy
            obtain rfl := Option.some.inj hy
            omega)
        clear hx h1 d1
        go_wp2_with fail
        go_roundw
        case rel => exact ⟨k + 1, by omega, by go_num, HB2.out, HN2.out⟩
        case measure => simp [intOf]; omega
    · obtain rfl : k = l.length := by omega
      have hd : decide ((l.length : Int) < (l.length : Int)) = false := by simp
      go_wp2_with fail
      refine HKK.out _ _ ?_
      go_wp2_with fail
      exact bodyPost_ret (v := .int .i64 (-1)) (by simp [results, Try.results29, go_sem]) rfl ⟨⟨-1, rfl, .inl ⟨rfl, fun x hx => by
        obtain ⟨j, hj⟩ := List.getElem?_of_mem hx
        exact HN.out j (List.getElem?_eq_some_iff.1 hj).1 x hj⟩⟩, HB.out⟩
end Go.Proofs.Ytbdiombbknmlaaa

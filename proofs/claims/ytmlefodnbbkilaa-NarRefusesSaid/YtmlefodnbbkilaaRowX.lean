/- Rows of structs, of any kind: those of the call's own, those that are read. -/
import Derived.Test.YtmlefodnbbkilaaBase2
namespace Go.Proofs.Ytmlefodnbbkilaa
open Go.RowKit

/-- How a struct lies in cells. -/
structure Enc {α : Type} (k : Nat) (enc : α → List Value) : Prop where
  len : ∀ x, (enc x).length = k
  one : ∀ x, ∀ u ∈ enc x, u.oneCell' = true
  pos : 0 < k
def flatX {α : Type} (enc : α → List Value) (l : List α) : List Value := l.flatMap enc
section
variable {α : Type} {k : Nat} {enc : α → List Value}
theorem flatX_append (l m : List α) : flatX enc (l ++ m) = flatX enc l ++ flatX enc m := by simp [flatX]
theorem flatX_one (x : α) : flatX enc [x] = enc x := by simp [flatX]
theorem Enc.length (E : Enc k enc) (l : List α) : (flatX enc l).length = l.length * k := by
  induction l with
  | nil => simp [flatX]
  | cons x l ih =>
    have : flatX enc (x :: l) = enc x ++ flatX enc l := rfl
    rw [this, List.length_append, ih, E.len, List.length_cons, Nat.succ_mul]
    omega
theorem Enc.cells (E : Enc k enc) (l : List α) : ∀ u ∈ flatX enc l, u.oneCell' = true := by
  intro u hu
  obtain ⟨x, _, hx⟩ := List.mem_flatMap.1 hu
  exact E.one x u hx
theorem Enc.get (E : Enc k enc) : ∀ (l : List α) (j : Nat) (x : α) (i : Nat), l[j]? = some x → i < k → (flatX enc l)[j * k + i]? = (enc x)[i]?
  | [], j, x, i, h, _ => by simp at h
  | y :: l, 0, x, i, h, hi => by
    simp only [List.getElem?_cons_zero, Option.some.injEq] at h
    subst h
    have e : flatX enc (y :: l) = enc y ++ flatX enc l := rfl
    rw [e, Nat.zero_mul, Nat.zero_add, List.getElem?_append_left (by rw [E.len]; exact hi)]
  | y :: l, j + 1, x, i, h, hi => by
    have ih := Enc.get E l j x i (by simpa using h) hi
    have e : flatX enc (y :: l) = enc y ++ flatX enc l := rfl
    rw [e, List.getElem?_append_right (by rw [E.len, Nat.succ_mul]; omega), E.len, Nat.succ_mul]
    rw [show j * k + k + i - k = j * k + i by omega]
    exact ih
theorem Enc.idx (E : Enc k enc) (l : List α) (j : Nat) (u : Value) (h : (flatX enc l)[j]? = some u) : ∃ x, l[j / k]? = some x ∧ (enc x)[j % k]? = some u := by
  have hj := (List.getElem?_eq_some_iff.1 h).1
  rw [E.length] at hj
  have hd : j / k < l.length := Nat.div_lt_of_lt_mul (by rw [Nat.mul_comm]; exact hj)
  obtain ⟨x, hx⟩ : ∃ x, l[j / k]? = some x := ⟨_, List.getElem?_eq_getElem hd⟩
  have h2 := E.get l (j / k) x (j % k) hx (Nat.mod_lt _ E.pos)
  rw [show j / k * k + j % k = j by rw [Nat.mul_comm]; exact Nat.div_add_mod _ _] at h2
  exact ⟨x, hx, by rw [← h2]; exact h⟩
theorem Enc.setf (E : Enc k enc) : ∀ (l : List α) (i : Nat) (x y : α) (f : Nat) (u : Value), l[i]? = some x → f < k → enc y = (enc x).set f u → flatX enc (l.set i y) = (flatX enc l).set (i * k + f) u
  | [], i, x, y, f, u, h, _, _ => by simp at h
  | z :: l, 0, x, y, f, u, h, hf, he => by
    simp only [List.getElem?_cons_zero, Option.some.injEq] at h
    subst h
    have e : ∀ z : α, flatX enc (z :: l) = enc z ++ flatX enc l := fun _ => rfl
    rw [List.set_cons_zero, e, e, he, Nat.zero_mul, Nat.zero_add, List.set_append_left _ _ (by rw [E.len]; exact hf)]
  | z :: l, i + 1, x, y, f, u, h, hf, he => by
    have ih := Enc.setf E l i x y f u (by simpa using h) hf he
    have e : ∀ m : List α, flatX enc (z :: m) = enc z ++ flatX enc m := fun _ => rfl
    rw [List.set_cons_succ, e, e, ih, List.set_append_right _ _ (by rw [E.len, Nat.succ_mul]; omega), E.len, Nat.succ_mul]
    rw [show i * k + k + f - k = i * k + f by omega]
end
/-- A row of structs of the call's own. -/
structure XR {α : Type} (T k : Nat) (enc : α → List Value) (w W : World) (v : Value) (l : List α) : Prop where
  row : W.ownsRow 0 T k v l.length (flatX enc l)
  below : Below w.heap.size w W
  own : ∀ b, v.ownBlock = some b → w.heap.size ≤ b
section
variable {α : Type} {T k : Nat} {enc : α → List Value} {w W W' : World} {v : Value} {l : List α}
theorem XR.nil (w : World) : XR T k enc w w (.slice none 0 0) ([] : List α) := ⟨World.ownsRow_nil _ 0 T k, Below.refl _ _, fun b hb => by cases hb⟩
theorem XR.lt (h : XR T k enc w W v l) : ∀ b, v.ownBlock = some b → b < W.heap.size := fun b hb => (World.ownsRow.lt h.row b hb).2
theorem XR.on (h : XR T k enc w W v l) (hb : Below W.heap.size W W') : XR T k enc w W' v l := ⟨ownsRow_same h.row fun g hg => hb.block g (h.lt g hg), h.below.trans (hb.mono h.below.size), h.own⟩
theorem XR.form (h : XR T k enc w W v l) : ∃ A c, v = .slice A l.length c := ownsRow_form h.row
/-- A struct, by its place. -/
theorem XR.at (E : Enc k enc) {A : Option Addr} {n c : Nat} (h : XR T k enc w W (.slice A n c) l) (j : Nat) (x : α) (hj : l[j]? = some x) :
    ∃ g, A = some ⟨g, 0, none⟩ ∧ w.heap.size ≤ g ∧ has W g ∧ (∀ i, i < k → W.cell? ⟨g, j * k + i, none⟩ = (enc x)[i]?) ∧ ∀ i, W.frozen? ⟨g, i, none⟩ = false := by
  have hlt := (List.getElem?_eq_some_iff.1 hj).1
  have hrow := h.row
  rcases h.row.2 with ⟨_, h0⟩ | ⟨g, cap, cur, hv, _, hh, _⟩
  · omega
  · rw [hv] at hrow
    obtain ⟨rfl, -, -⟩ := by simpa only [Value.slice.injEq] using hv
    refine ⟨g, rfl, h.own g rfl, (Array.getElem?_eq_some_iff.1 hh).1, fun i hi => ?_, fun i => hrow.frozenAt i⟩
    rw [hrow.cellAt _ (by
      have := Nat.mul_le_mul_right k hlt
      rw [Nat.succ_mul] at this
      omega)]
    exact E.get l j x i hj hi
theorem XR.cap {A : Option Addr} {n c : Nat} (h : XR T k enc w W (.slice A n c) l) : l.length ≤ c ∧ n = l.length := by
  rcases h.row.2 with ⟨h0, h1⟩ | ⟨g', cap, cur, hv, hb, hh, hnc, hcm, hcs, ht⟩
  · simp at h0; omega
  · obtain ⟨-, h2, rfl⟩ := by simpa only [Value.slice.injEq] using hv
    exact ⟨hnc, h2⟩
/-- A cell of the row turned. -/
theorem XR.put (E : Enc k enc) {g n c : Nat} (h : XR T k enc w W (.slice (some ⟨g, 0, none⟩) n c) l) (i : Nat) (x y : α) (f : Nat) (u : Value) (hx : l[i]? = some x) (hf : f < k) (he : enc y = (enc x).set f u) :
    XR T k enc w (W.setCell ⟨g, i * k + f, none⟩ u) (.slice (some ⟨g, 0, none⟩) n c) (l.set i y) := by
  have hn := h.cap.2
  subst hn
  refine ⟨?_, h.below.trans ⟨rfl, rfl, rfl, by rw [setCell_size]; exact Nat.le_refl _, fun b hb => setCell_other W g _ b u (by have := h.own g rfl; omega)⟩, h.own⟩
  rw [E.setf l i x y f u hx hf he, List.length_set]
  exact (h.row.stored (i * k + f) u).1
/-- A part of it from its beginning. -/
theorem XR.take (E : Enc k enc) {g n c : Nat} (h : XR T k enc w W (.slice (some ⟨g, 0, none⟩) n c) l) (i : Nat) (hi : i ≤ l.length) : XR T k enc w W (.slice (some ⟨g, 0, none⟩) i c) (l.take i) := by
  refine ⟨?_, h.below, fun b hb => h.own b hb⟩
  rcases h.row.2 with ⟨h0, _⟩ | ⟨g', cap, cur, hv, hb, hh, hnc, hcm, hcs, ht⟩
  · simp at h0
  · obtain ⟨⟨rfl, -, -⟩, -, rfl⟩ := by simpa only [Value.slice.injEq, Option.some.injEq, Addr.mk.injEq] using hv
    have hl : (l.take i).length = i := by simp; omega
    refine ⟨by rw [E.length], .inr ⟨g, c, cur, by rw [hl], hb, hh, by omega, hcm, hcs, ?_⟩⟩
    have hk : i * k ≤ l.length * k := Nat.mul_le_mul_right k hi
    have e : flatX enc (l.take i) = (flatX enc l).take (i * k) := by
      conv => rhs; rw [← List.take_append_drop i l, flatX_append, List.take_append_of_le_length (by rw [E.length, hl]; exact Nat.le_refl _), List.take_of_length_le (by rw [E.length, hl]; exact Nat.le_refl _)]
    rw [hl, e, ← ht, List.take_take, Nat.min_eq_left hk]
end
section
variable {α β : Type} {T T' k k' : Nat} {enc : α → List Value} {enc' : β → List Value} {w W w1 : World} {u u' v : Value} {l : List α} {m : List β} {o : Obj}
/-- A row grows. -/
theorem XR.app (h : XR T k enc w W u l) (x : List α) (hg : W.grownBy w1 u.ownBlock) (hrow : w1.ownsRow 0 T k u' (l.length + x.length) (flatX enc l ++ flatX enc x)) (hown : ∀ b, u'.ownBlock = some b → u.ownBlock = some b ∨ W.heap.size ≤ b) : XR T k enc w w1 u' (l ++ x) := by
  refine ⟨by rw [List.length_append, flatX_append]; exact hrow, h.below.trans ⟨hg.os, hg.tape, hg.output, hg.size, fun b hb => ?_⟩, fun b hb => ?_⟩
  · have := h.below.size
    exact hg.block b (by omega) (fun e => by have := h.own b e.symm; omega)
  · rcases hown b hb with h1 | h1
    · exact h.own b h1
    · have := h.below.size
      omega
/-- Another row grows. -/
theorem XR.other (h : XR T k enc w W v l) (hu : ∀ b, u.ownBlock = some b → w.heap.size ≤ b) (hne : ∀ b, v.ownBlock = some b → u.ownBlock ≠ some b) (hg : W.grownBy w1 u.ownBlock) : XR T k enc w w1 v l := by
  refine ⟨ownsRow_same h.row fun b hb => hg.block b (h.lt b hb) (fun e => hne b hb e.symm), h.below.trans ⟨hg.os, hg.tape, hg.output, hg.size, fun b hb => ?_⟩, h.own⟩
  have := h.below.size
  exact hg.block b (by omega) (fun e => by have := hu b e.symm; omega)
end
/-- Structs that are read. -/
def XIn {α : Type} (k : Nat) (enc : α → List Value) (W : World) (v : Value) (l : List α) : Prop :=
  (l = [] ∧ (v = .slice none 0 0 ∨ ∃ a c, v = .slice (some a) 0 c)) ∨ ∃ b off c, v = .slice (some ⟨b, off, none⟩) l.length c ∧ l.length ≤ c ∧ b < W.heap.size ∧ ∀ j x, l[j]? = some x → ∀ i, i < k → W.cell? ⟨b, off + j * k + i, none⟩ = (enc x)[i]?
section
variable {α : Type} {T k : Nat} {enc : α → List Value} {w W W' : World} {v : Value} {l : List α}
theorem XR.xin (E : Enc k enc) (h : XR T k enc w W v l) : XIn k enc W v l := by
  obtain ⟨A, c, rfl⟩ := h.form
  rcases l with _ | ⟨x, l⟩
  · refine .inl ⟨rfl, ?_⟩
    rcases h.row.2 with ⟨h0, _⟩ | ⟨g, cap, cur, hv, _⟩
    · exact .inl h0
    · exact .inr ⟨_, _, hv⟩
  · obtain ⟨g, rfl, -, hg, -⟩ := h.at E 0 x rfl
    refine .inr ⟨g, 0, c, rfl, h.cap.1, hg, fun j y hj i hi => ?_⟩
    obtain ⟨g', hg', -, -, hc, -⟩ := h.at E j y hj
    obtain rfl : g = g' := by simpa using hg'
    rw [Nat.zero_add]
    exact hc i hi
theorem cell_below {a : Addr} (hb : Below W.heap.size W W') (ha : a.block < W.heap.size) : W'.cell? a = W.cell? a := by
  unfold World.cell?
  rw [hb.block _ ha]
theorem XIn.on (h : XIn k enc W v l) (hb : Below W.heap.size W W') : XIn k enc W' v l := by
  rcases h with h | ⟨b, off, c, rfl, hlc, hlt, hc⟩
  · exact .inl h
  · exact .inr ⟨b, off, c, rfl, hlc, Nat.lt_of_lt_of_le hlt hb.size, fun j x hj i hi => (cell_below hb hlt).trans (hc j x hj i hi)⟩
theorem XIn.form (h : XIn k enc W v l) : ∃ A c, v = .slice A l.length c := by
  rcases h with ⟨rfl, rfl | ⟨a, c, rfl⟩⟩ | ⟨b, off, c, rfl, _⟩
  · exact ⟨none, 0, rfl⟩
  · exact ⟨some a, c, rfl⟩
  · exact ⟨_, c, rfl⟩
theorem XIn.at {A : Option Addr} {n c : Nat} (h : XIn k enc W (.slice A n c) l) (j : Nat) (x : α) (hj : l[j]? = some x) : ∃ b off, A = some ⟨b, off, none⟩ ∧ b < W.heap.size ∧ ∀ i, i < k → W.cell? ⟨b, off + j * k + i, none⟩ = (enc x)[i]? := by
  rcases h with ⟨rfl, _⟩ | ⟨b, off, c', hv, hlc, hlt, hc⟩
  · simp at hj
  · obtain ⟨rfl, -, -⟩ := by simpa only [Value.slice.injEq] using hv
    exact ⟨b, off, rfl, hlt, hc j x hj⟩
end
end Go.Proofs.Ytmlefodnbbkilaa

/- Walks: letters read as bits, the highest first. -/
import Derived.Test.YtalanaongfnndaaDoorGet1
import Derived.Test.YtalanaongfnndaaDoorPlusIn
namespace Go.Proofs.YtalanaongfnndaaDoor
open Go.RowKit Go.Shelf

attribute [local go_sem] Oper.semAt_some

theorem plus_at_beyond (U V : World) (x : Ext) (k : Nat) (hs : U.heap.size = V.heap.size) (hk : U.heap.size ≤ k) : (plus U x).heap[k]? = (plus V x).heap[k]? := by
  simp only [plus]
  rw [Array.getElem?_append, Array.getElem?_append, if_neg (by omega), if_neg (by omega), hs]
theorem put_at_beyond (U : World) (x : Ext) (k : Nat) (o : Obj) (hk : U.heap.size ≤ k) : ∃ y, (plus U x).putObj k o = plus U y :=
  plus_of_below ((below_plus U x).trans ⟨rfl, rfl, rfl, by simp, fun j hj => World.putObj_heap_other (by omega)⟩)
theorem ownFrom_base {β : Type} {B : Nat} (base : β → World) (hs : ∀ s, (base s).heap.size ≤ B) : OwnFrom B (fun (s : β) (W : World) => ∃ x : Ext, W = plus (base s) x) := by
  rintro s W W' row ⟨x, rfl⟩ hg hr
  refine plus_of_below ?_
  exact (below_plus (base s) x).trans ⟨hg.os, hg.tape, hg.output, hg.size, fun k hk => hg.block k (by rw [size_plus]; omega) (fun e => by have := (hr k e.symm).1; have := hs s; omega)⟩

/-- What a body keeps: what is no cells, a box, the rows that bear a mark. -/
def Kq (b : Nat) (W W' : World) : Prop := KeepsOthers W W' ∧ KpM b W W'
theorem kq_t {b : Nat} {A C D : World} (h : Kq b A C) (k : Kq b C D) : Kq b A D := ⟨h.1.trans k.1, kpM_t h.2 k.2⟩
theorem kq_below {b : Nat} {W W' : World} (hb : b < W.heap.size) (h : Below W.heap.size W W') : Kq b W W' :=
  ⟨⟨h.size, fun k _ hk _ => (h.block k (Array.getElem?_eq_some_iff.1 hk).1).trans hk⟩, h.block b hb, fun k _ _ _ _ hk => (h.block k (Array.getElem?_eq_some_iff.1 hk).1).trans hk⟩
theorem kq_plus {b : Nat} (W : World) (x : Ext) (hb : b < W.heap.size) : Kq b W (plus W x) := kq_below hb (below_plus W x)
theorem kq_alloc {b : Nat} (W : World) (o : Obj) (hb : b < W.heap.size) : Kq b W (W.alloc o) := kq_below hb ((Below.refl _ W).alloc (Nat.le_refl _) o)
theorem kq_grown {b base e : Nat} {v : Value} {l : List UInt8} {W W' : World} (hb : b < base) (hW : base ≤ W.heap.size) (hr : rowB W base e v l) (hg : W.grownBy W' v.ownBlock) : Kq b W W' := by
  have hlt := World.ownsRow.lt hr
  have hcell : ∀ g, v.ownBlock = some g → ∃ cur, W.heap[g]? = some (.cells cur e (0, 0)) := by
    intro g he
    rcases hr.2 with ⟨rfl, _⟩ | ⟨g', cap, cur, rfl, _, hh, _⟩
    · cases he
    · simp [Value.ownBlock] at he
      subst he
      exact ⟨cur, hh⟩
  refine ⟨⟨hg.size, fun k o hk ho => ?_⟩, hg.block b (by omega) (fun he => ?_), fun k cur e' m hm hk => ?_⟩
  · refine (hg.block k (Array.getElem?_eq_some_iff.1 hk).1 (fun he => ?_)).trans hk
    obtain ⟨cur, hc⟩ := hcell k he.symm
    rw [hc] at hk
    cases hk
    simp [Obj.isCells] at ho
  · have := (hlt b he.symm).1
    omega
  · refine (hg.block k (Array.getElem?_eq_some_iff.1 hk).1 (fun he => ?_)).trans hk
    obtain ⟨cur', hc⟩ := hcell k he.symm
    rw [hc] at hk
    cases hk
    exact absurd rfl hm

/-- What append leaves of a row of bytes, and what it touches. -/
theorem wpList_appendG {P : Program} {W : World} {ops : Array Oper} {rest : List Oper} {o : Oper} {a : Act} {Q : Exit → Act → World → Prop} (hgd : o.guard = none) (s x : Operand) (t e : TypeId)
    (ho : o.op = .call { callee := .builtin .append, args := #[s, x], argTypes := #[t, t] }) (ht : P.underlying t = some (.slice e))
    (hinfo : (P.info? e).map (fun i => (i.zero, i.size, i.bytes)) = some (some (.int .u8 0), 1, 1)) (base : Nat) (v : Value) (l news : List UInt8) (hs : a.eval s = v)
    (hrow : rowB W base e v l) (n m c : Nat) (hn : n = W.heap.size) (hx : a.eval x = .slice (some ⟨n, 0, none⟩) m c) (hm : news.length = m) (hlen : l.length + m ≤ 1000000000) (hbase : base ≤ W.heap.size)
    (h : ∀ v' w', rowB w' base e v' (l ++ news) → Below base W w' → (∀ b, b < base → Kq b W w') → wpList P ops Q rest (a.put o.dst v') w') : wpList P ops Q (o :: rest) a (W.alloc (.cells (u8s news).toArray e)) := by
  subst hm hn
  cases hi : P.info? e with
  | none => rw [hi] at hinfo; cases hinfo
  | some i =>
    rw [hi] at hinfo
    simp only [Option.map_some, Option.some.injEq, Prod.mk.injEq] at hinfo
    have hr := rowB_alloc hrow (.cells (u8s news).toArray e)
    refine wpList_append_own _ hgd s x t ho base e i (.int .u8 0) 1 1 ht hi hinfo.1 hinfo.2.1 hinfo.2.2 rfl (by omega) v l.length (u8s l) hs hr ⟨W.heap.size, 0, none⟩ news.length c (u8s news) hx (by simp [u8s]) (cells_new W news e) (u8s_one news) (by unfold maxLen; omega) (by omega) (by simp; omega) ?_
    intro v' w' h1 h2 _
    exact h v' w' (rowB_of h1) (((Below.refl base W).alloc hbase _).trans (rowB_below hr h2 (by simp; omega))) (fun b hb => kq_t (kq_alloc W _ (by omega)) (kq_grown hb (by simp; omega) hr h2))

/-- What the reading loops stand upon: the bytes so far, the number, how many bits, the text, the letters. -/
def gBase (U : World) (s t : List UInt8) (v : Value) (n h : Nat) : World :=
  ((((U.alloc (.cells #[v] 22)).alloc (.cells #[.int .i64 (n : Int)] 3)).alloc (.cells #[.int .i64 (h : Int)] 3)).alloc (.cells #[strV s] 9)).alloc (.cells #[strV t] 9)
theorem gBase_size (U : World) (s t : List UInt8) (v : Value) (n h : Nat) : (gBase U s t v n h).heap.size = U.heap.size + 1 + 1 + 1 + 1 + 1 := by simp only [gBase, World.size_alloc]
theorem gBase_old (U : World) (s t : List UInt8) (v : Value) (n h k : Nat) (hk : k < U.heap.size) : (gBase U s t v n h).heap[k]? = U.heap[k]? := by
  simp only [gBase, World.alloc, Array.getElem?_push, Array.size_push]
  rw [if_neg (by omega), if_neg (by omega), if_neg (by omega), if_neg (by omega), if_neg (by omega)]
theorem gBase_cells (U : World) (s t : List UInt8) (v : Value) (n h k : Nat) (hk : k < U.heap.size + 1 + 1 + 1) (hk2 : U.heap.size ≤ k) : ∃ cur e, (gBase U s t v n h).heap[k]? = some (.cells cur e (0, 0)) := by
  simp only [gBase, World.alloc, Array.getElem?_push, Array.size_push]
  rw [if_neg (by omega), if_neg (by omega)]
  by_cases h1 : k = U.heap.size + 1 + 1
  · rw [if_pos h1]; exact ⟨_, _, rfl⟩
  · rw [if_neg h1]
    by_cases h2 : k = U.heap.size + 1
    · rw [if_pos h2]; exact ⟨_, _, rfl⟩
    · rw [if_neg h2, if_pos (by omega)]; exact ⟨_, _, rfl⟩
theorem gBase_box (U : World) (s t : List UInt8) (v : Value) (n h : Nat) : (gBase U s t v n h).heap[U.heap.size + 1 + 1 + 1]? = some (.cells #[strV s] 9) := by
  simp only [gBase, World.alloc, Array.getElem?_push, Array.size_push]
  rw [if_neg (by omega), if_pos trivial]
theorem gBase_box2 (U : World) (s t : List UInt8) (v : Value) (n h : Nat) : (gBase U s t v n h).heap[U.heap.size + 1 + 1 + 1 + 1]? = some (.cells #[strV t] 9) := by
  simp only [gBase, World.alloc, Array.getElem?_push, Array.size_push]
  rw [if_pos trivial]
theorem gBase_has (U : World) (s t : List UInt8) (v : Value) (n h k : Nat) (hk : k < U.heap.size + 1 + 1 + 1 + 1 + 1) : has (gBase U s t v n h) k := by unfold has; rw [gBase_size]; exact hk
theorem gBase_cell8 (U : World) (s t : List UInt8) (v : Value) (n h : Nat) (x : Ext) : (plus (gBase U s t v n h) x).cell? ⟨U.heap.size, 0, none⟩ = some v := by
  rw [cell?_plus (gBase_has U s t v n h _ (by simp only; omega))]
  simp only [World.cell?, gBase, World.alloc, Array.getElem?_push, Array.size_push]
  rw [if_neg (by omega), if_neg (by omega), if_neg (by omega), if_neg (by omega), if_pos trivial]
  rfl
theorem gBase_cell9 (U : World) (s t : List UInt8) (v : Value) (n h : Nat) (x : Ext) : (plus (gBase U s t v n h) x).cell? ⟨U.heap.size + 1, 0, none⟩ = some (.int .i64 (n : Int)) := by
  rw [cell?_plus (gBase_has U s t v n h _ (by simp only; omega))]
  simp only [World.cell?, gBase, World.alloc, Array.getElem?_push, Array.size_push]
  rw [if_neg (by omega), if_neg (by omega), if_neg (by omega), if_pos trivial]
  rfl
theorem gBase_cell10 (U : World) (s t : List UInt8) (v : Value) (n h : Nat) (x : Ext) : (plus (gBase U s t v n h) x).cell? ⟨U.heap.size + 1 + 1, 0, none⟩ = some (.int .i64 (h : Int)) := by
  rw [cell?_plus (gBase_has U s t v n h _ (by simp only; omega))]
  simp only [World.cell?, gBase, World.alloc, Array.getElem?_push, Array.size_push]
  rw [if_neg (by omega), if_neg (by omega), if_pos trivial]
  rfl
theorem gBase_cellOld (U : World) (s t : List UInt8) (v : Value) (n h : Nat) (x : Ext) (k j : Nat) (hk : k < U.heap.size) : (plus (gBase U s t v n h) x).cell? ⟨k, j, none⟩ = U.cell? ⟨k, j, none⟩ := by
  rw [cell?_plus (show has _ k from gBase_has U s t v n h k (by omega))]
  exact World.cell?_of_block (gBase_old U s t v n h k hk)
theorem gBase_frozen (U : World) (s t : List UInt8) (v : Value) (n h : Nat) (x : Ext) (k : Nat) (hk : k < U.heap.size + 1 + 1 + 1) (hk2 : U.heap.size ≤ k) : (plus (gBase U s t v n h) x).frozen? ⟨k, 0, none⟩ = false := by
  obtain ⟨cur, e, hc⟩ := gBase_cells U s t v n h k hk hk2
  rw [frozen?_plus (show has _ k from gBase_has U s t v n h k (by omega))]
  simp only [World.frozen?, hc]
  rfl
theorem gBase_other (U : World) (s t : List UInt8) (v v' : Value) (n n' h h' k : Nat) (hk : U.heap.size + 1 + 1 + 1 ≤ k) : (gBase U s t v n h).heap[k]? = (gBase U s t v' n' h').heap[k]? := by
  simp only [gBase, World.alloc, Array.getElem?_push, Array.size_push]
  split
  · rfl
  · split
    · rfl
    · rw [if_neg (by omega), if_neg (by omega), if_neg (by omega), if_neg (by omega), if_neg (by omega), if_neg (by omega)]
theorem kq_base (U : World) (s t : List UInt8) (v v' : Value) (n n' h h' : Nat) (x : Ext) : Kq (U.heap.size + 1 + 1 + 1 + 1) (plus (gBase U s t v n h) x) (plus (gBase U s t v' n' h') x) := by
  have hs : (gBase U s t v n h).heap.size = (gBase U s t v' n' h').heap.size := by rw [gBase_size, gBase_size]
  have key : ∀ k : Nat, (∃ cur e, (plus (gBase U s t v n h) x).heap[k]? = some (Obj.cells cur e (0, 0))) ∨ (plus (gBase U s t v' n' h') x).heap[k]? = (plus (gBase U s t v n h) x).heap[k]? := by
    intro k
    by_cases h1 : k < (gBase U s t v n h).heap.size
    · rw [heap_plus x h1, heap_plus x (by rw [hs] at h1; exact h1)]
      by_cases h2 : k < U.heap.size
      · exact .inr (by rw [gBase_old _ _ _ _ _ _ _ h2, gBase_old _ _ _ _ _ _ _ h2])
      · by_cases h3 : k < U.heap.size + 1 + 1 + 1
        · exact .inl (gBase_cells U s t v n h k h3 (by omega))
        · exact .inr (gBase_other U s t v' v n' n h' h k (by omega))
    · exact .inr (plus_at_beyond _ _ x k hs.symm (by omega))
  refine ⟨⟨by rw [size_plus, size_plus, hs]; exact Nat.le_refl _, fun k o hk ho => ?_⟩, ?_, fun k cur e m hm hk => ?_⟩
  · rcases key k with ⟨cur, e, hc⟩ | hc
    · rw [hc] at hk
      cases hk
      simp [Obj.isCells] at ho
    · exact hc.trans hk
  · have hb : ∀ v n h, (plus (gBase U s t v n h) x).heap[U.heap.size + 1 + 1 + 1 + 1]? = some (.cells #[strV t] 9) := fun v n h => (heap_plus x (by unfold has; rw [gBase_size]; omega)).trans (gBase_box2 U s t v n h)
    rw [hb, hb]
  · rcases key k with ⟨cur', e', hc⟩ | hc
    · rw [hc] at hk
      cases hk
      exact absurd rfl hm
    · exact hc.trans hk
theorem rowB_shift {U V : World} {x : Ext} {b e : Nat} {v : Value} {l : List UInt8} (hs : U.heap.size = V.heap.size) (hb : U.heap.size ≤ b) (h : rowB (plus U x) b e v l) : rowB (plus V x) b e v l := by
  obtain ⟨h1, h2⟩ := h
  refine ⟨h1, ?_⟩
  rcases h2 with h2 | ⟨g, cap, cur, rfl, hg, hh, rest⟩
  · exact .inl h2
  · exact .inr ⟨g, cap, cur, rfl, hg, (plus_at_beyond U V x g hs (by omega)).symm.trans hh, rest⟩

theorem alloc_set_new (U : World) (a b : Value) (e : TypeId) : (U.alloc (.cells #[a] e)).setCell ⟨U.heap.size, 0, none⟩ b = U.alloc (.cells #[b] e) := by
  unfold World.setCell World.alloc
  dsimp only
  congr 1
  apply Array.ext_getElem?
  intro i
  simp only [Array.getElem?_modify, Array.getElem?_push]
  by_cases h : U.heap.size = i
  · subst h
    simp
  · rw [if_neg h, if_neg (fun e => h e.symm), if_neg (fun e => h e.symm)]
theorem gBase_set8 (U : World) (s t : List UInt8) (v v' : Value) (n h : Nat) (x : Ext) : (plus (gBase U s t v n h) x).setCell ⟨U.heap.size, 0, none⟩ v' = plus (gBase U s t v' n h) x := by
  rw [setCell_plus (gBase_has U s t v n h _ (by simp only; omega))]
  unfold gBase
  rw [setCell_alloc_has (by unfold has; simp only [World.size_alloc]; omega), setCell_alloc_has (by unfold has; simp only [World.size_alloc]; omega), setCell_alloc_has (by unfold has; simp only [World.size_alloc]; omega), setCell_alloc_has (by unfold has; simp only [World.size_alloc]; omega), alloc_set_new]
theorem gBase_set9 (U : World) (s t : List UInt8) (v : Value) (n n' h : Nat) (x : Ext) : (plus (gBase U s t v n h) x).setCell ⟨U.heap.size + 1, 0, none⟩ (.int .i64 (n' : Int)) = plus (gBase U s t v n' h) x := by
  rw [setCell_plus (gBase_has U s t v n h _ (by simp only; omega))]
  unfold gBase
  rw [setCell_alloc_has (by unfold has; simp only [World.size_alloc]; omega), setCell_alloc_has (by unfold has; simp only [World.size_alloc]; omega), setCell_alloc_has (by unfold has; simp only [World.size_alloc]; omega)]
  have := alloc_set_new (U.alloc (.cells #[v] 22)) (.int .i64 (n : Int)) (.int .i64 (n' : Int)) 3
  rw [World.size_alloc] at this
  rw [this]
theorem gBase_set10 (U : World) (s t : List UInt8) (v : Value) (n h h' : Nat) (x : Ext) : (plus (gBase U s t v n h) x).setCell ⟨U.heap.size + 1 + 1, 0, none⟩ (.int .i64 (h' : Int)) = plus (gBase U s t v n h') x := by
  rw [setCell_plus (gBase_has U s t v n h _ (by simp only; omega))]
  unfold gBase
  rw [setCell_alloc_has (by unfold has; simp only [World.size_alloc]; omega), setCell_alloc_has (by unfold has; simp only [World.size_alloc]; omega)]
  have := alloc_set_new ((U.alloc (.cells #[v] 22)).alloc (.cells #[.int .i64 (n : Int)] 3)) (.int .i64 (h : Int)) (.int .i64 (h' : Int)) 3
  rw [World.size_alloc, World.size_alloc] at this
  rw [this]
/-- Reading bits, the highest first. -/
def rdStep (t : List UInt8) (b : Nat) (st : Nat × Nat × List UInt8) (c : UInt8) : Nat × Nat × List UInt8 :=
  let n := (st.1 * 2 ^ b ||| (Lib.indexByte t c).toNat) % 65536
  if 8 ≤ st.2.1 + b then (n, st.2.1 + b - 8, st.2.2 ++ [UInt8.ofNat (n / 2 ^ (st.2.1 + b - 8))]) else (n, st.2.1 + b, st.2.2)
def rdBits (t : List UInt8) (b : Nat) (l : List UInt8) : Nat × Nat × List UInt8 := l.foldl (rdStep t b) (0, 0, [])
theorem rd_snoc (t : List UInt8) (b : Nat) (l : List UInt8) (c : UInt8) : rdBits t b (l ++ [c]) = rdStep t b (rdBits t b l) c := by simp [rdBits]
theorem rd_bounds (t : List UInt8) (b : Nat) (hb : b ≤ 8) (l : List UInt8) : (rdBits t b l).1 < 65536 ∧ (rdBits t b l).2.1 < 8 ∧ (rdBits t b l).2.2.length ≤ l.length := by
  have H : ∀ n (l : List UInt8), l.length = n → (rdBits t b l).1 < 65536 ∧ (rdBits t b l).2.1 < 8 ∧ (rdBits t b l).2.2.length ≤ l.length := by
    intro n
    induction n with
    | zero => intro l hl; rw [List.eq_nil_of_length_eq_zero hl]; simp [rdBits]
    | succ n ih =>
      intro l hl
      have hne : l ≠ [] := by rintro rfl; simp at hl
      rw [← List.dropLast_concat_getLast hne, rd_snoc]
      have hi := ih l.dropLast (by simp [hl])
      generalize l.getLast hne = c at *
      obtain ⟨h1, h2, h3⟩ := hi
      generalize rdBits t b l.dropLast = st at *
      by_cases h8 : 8 ≤ st.2.1 + b
      · simp only [rdStep, if_pos h8, List.length_append, List.length_cons, List.length_nil]
        exact ⟨Nat.mod_lt _ (by omega), by omega, by omega⟩
      · simp only [rdStep, if_neg h8, List.length_append, List.length_cons, List.length_nil]
        exact ⟨Nat.mod_lt _ (by omega), by omega, by omega⟩
  exact H _ l rfl
theorem idx_lt (t : List UInt8) (c : UInt8) : Lib.indexByte t c < t.length := by
  induction t with
  | nil => simp [Lib.indexByte]
  | cons b l ih =>
    unfold Lib.indexByte
    simp only [List.length_cons]
    split
    · omega
    · split <;> omega
end Go.Proofs.YtalanaongfnndaaDoor

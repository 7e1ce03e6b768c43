/- Walks: a row of runs copied; those without places struck. -/
import Derived.Laws.IdiomCopy
import Derived.Test.YtbdiombbknmlaaaBm1
namespace Go.Proofs.Ytbdiombbknmlaaa
open Go.RowKit

/-- Runs that are read. -/
def RIn (w : World) (v : Value) (l : List Run) : Prop :=
  (l = [] ∧ (v = .slice none 0 0 ∨ ∃ a c, v = .slice (some a) 0 c)) ∨ ∃ b off c, v = .slice (some ⟨b, off, none⟩) l.length c ∧ b < w.heap.size ∧ ∀ j x, l[j]? = some x → w.cell? ⟨b, off + j * 2, none⟩ = some (.int .i64 x.1) ∧ w.cell? ⟨b, off + j * 2 + 1, none⟩ = some (.int .i64 x.2)
theorem RR.rin {w W : World} {v : Value} {l : List Run} (h : RR w W v l) : RIn W v l := by
  have hrow := h.row
  rcases h.row.2 with ⟨rfl, h0⟩ | ⟨g, cap, cur, hv, _, hh, _⟩
  · exact .inl ⟨List.eq_nil_of_length_eq_zero h0, .inl rfl⟩
  · rw [hv] at hrow
    refine .inr ⟨g, 0, cap, hv, (Array.getElem?_eq_some_iff.1 hh).1, fun j x hj => ?_⟩
    have hlt := (List.getElem?_eq_some_iff.1 hj).1
    obtain ⟨h1, h2⟩ := flatR_get l j x hj
    rw [Nat.zero_add]
    exact ⟨(hrow.cellAt _ (by omega)).trans h1, (hrow.cellAt _ (by omega)).trans h2⟩
theorem flatR_cells {w : World} {b off : Nat} {l : List Run} (h : ∀ j x, l[j]? = some x → w.cell? ⟨b, off + j * 2, none⟩ = some (.int .i64 x.1) ∧ w.cell? ⟨b, off + j * 2 + 1, none⟩ = some (.int .i64 x.2)) :
    ∀ j u, (flatR l)[j]? = some u → w.cell? ((⟨b, off, none⟩ : Addr).add j) = some u := by
  intro j u hj
  have hlt : j < l.length * 2 := by
    have := (List.getElem?_eq_some_iff.1 hj).1
    rwa [flatR_length] at this
  have hadd : (⟨b, off, none⟩ : Addr).add j = ⟨b, off + j, none⟩ := by unfold Addr.add; split <;> simp_all
  obtain ⟨x, hx⟩ : ∃ x, l[j / 2]? = some x := ⟨_, List.getElem?_eq_getElem (by omega)⟩
  obtain ⟨h1, h2⟩ := flatR_get l _ x hx
  obtain ⟨h3, h4⟩ := h _ x hx
  rw [hadd]
  rcases Nat.mod_two_eq_zero_or_one j with hm | hm
  · have e : j / 2 * 2 = j := by omega
    rw [e] at h1 h3
    rw [h1] at hj
    rw [h3, hj]
  · have e : j / 2 * 2 + 1 = j := by omega
    rw [e] at h2
    rw [show off + j / 2 * 2 + 1 = off + j by omega] at h4
    rw [h2] at hj
    rw [h4, hj]
theorem info28 : (Try.prog.info? 28).map (fun i => (i.zero, i.size, i.bytes)) = some (some (.agg #[.int .i64 0, .int .i64 0]), 2, 16) := by kernel_rfl
theorem q23 (w : World) (a : Option Addr) (n c n' c' : Nat) : (binOp .eql 23 (.slice a n c) (.slice none n' c')).run Try.prog w = .ok (.bool a.isNone) w := Lib.run_eql_slice_nil w _ _ a n c n' c' Try.underlying23
set_option maxRecDepth 100000 in
theorem clone_any (W : World) (v : Value) (l : List Run) (h : RIn W v l) (hl : l.length ≤ 1000000) : Calls Try.prog 22 #[v] W fun e w' => ∃ v', e = .returned v' ∧ RR W w' v' l := by
  have hrow := World.ownsRow_lit (base := 0) (e := 28) (size := 2) W #[] 0 (Nat.zero_le _) (by unfold maxLen; omega) rfl
  have HROW := Lib.hid hrow
  have hq := q23
  have hone := flatR_one l
  have HONE := Lib.hid hone
  clear hrow hone
  have hfin : ∀ (v' : Value) (w1 : World), w1.ownsRow 0 28 2 v' (0 + l.length) ((#[] : Array Value).toList ++ flatR l) → (W.alloc (.cells #[] 28)).grownBy w1 (some W.heap.size) → (∀ k, v'.ownBlock = some k → some W.heap.size = some k ∨ (W.alloc (.cells #[] 28)).heap.size ≤ k) → RR W w1 v' l := by
    intro v' w1 h1 h2 h3
    refine ⟨by simpa using h1, ⟨h2.os, h2.tape, h2.output, by have := h2.size; simp at this; omega, fun k hk => (h2.block k (by simp; omega) (fun e => by simp only [Option.some.injEq] at e; omega)).trans (Below.heap_alloc _ _ _ hk)⟩, fun k hk => ?_⟩
    rcases h3 k hk with h4 | h4
    · simp only [Option.some.injEq] at h4; omega
    · simp at h4; omega
  have HFIN := Lib.hid hfin
  clear hfin
  rcases h with ⟨rfl, rfl | ⟨a, c, rfl⟩⟩ | ⟨b, off, c, rfl, hb, hc⟩
  · go_enter Try.func22, Try.ntmps22
    go_wp2_with fail
    exact bodyPost_ret (v := .slice none 0 0) (by simp [results, Try.results22, go_sem]) rfl ⟨_, rfl, RR.nil W⟩
  · go_enter Try.func22, Try.ntmps22
    go_wp2_with (at_builtin; go_loud (refine wpList_appendAt rfl _ _ 23 28 rfl Try.underlying23 _ 2 16 info28 rfl (.slice (some ⟨W.heap.size, 0, none⟩) 0 0) 0 [] [] 0 rfl HROW.out a _ rfl (fun j u hj => by cases hj) rfl (fun u hu => by cases hu) (by omega) (.inr (by simp)) (by omega) (by omega) ?_); intro v' w1 hrow1 hg1 hown1 _; have HA := Lib.hid (HFIN.out _ _ hrow1 hg1 hown1); clear hrow1 hg1 hown1)
    exact bodyPost_ret (v := v') (by simp [results, Try.results22, go_sem]) rfl ⟨_, rfl, HA.out⟩
  · have hcc := flatR_cells (w := W.alloc (.cells #[] 28)) (b := b) (off := off) (l := l) (fun j x hj => by
      obtain ⟨h1, h2⟩ := hc j x hj
      exact ⟨Lib.cell?_alloc_some _ h1, Lib.cell?_alloc_some _ h2⟩)
    have HCC := Lib.hid hcc
    clear hcc hc
    go_enter Try.func22, Try.ntmps22
    go_wp2_with (at_builtin; go_loud (refine wpList_appendAt rfl _ _ 23 28 rfl Try.underlying23 _ 2 16 info28 rfl (.slice (some ⟨W.heap.size, 0, none⟩) 0 0) 0 [] (flatR l) l.length rfl HROW.out ⟨b, off, none⟩ _ rfl HCC.out (flatR_length l) HONE.out (by omega) (.inr (by simp)) (by omega) (by omega) ?_); intro v' w1 hrow1 hg1 hown1 _; have HA := Lib.hid (HFIN.out _ _ hrow1 hg1 hown1); clear hrow1 hg1 hown1)
    exact bodyPost_ret (v := v') (by simp [results, Try.results22, go_sem]) rfl ⟨_, rfl, HA.out⟩
end Go.Proofs.Ytbdiombbknmlaaa

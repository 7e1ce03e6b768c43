/- Walks: all places, gathered. -/
import Derived.Test.YtbdiombbknmlaaaSec1
namespace Go.Proofs.Ytbdiombbknmlaaa
open Go.RowKit Go.Shelf

attribute [local go_sem] Oper.semAt_some

theorem places_stops (n : Nat) (hn : 1 ≤ n) (bx base : Nat) (v : Value) (l : List Run) (w : World) (hl : l.length ≤ 100000) (hs : Small l) (hbx : w.heap[bx]? = some (.cells #[v] 23)) (hrow : w.ownsRow base 28 2 v l.length (flatR l)) :
    SeqStopsK Fence.wide n Try.prog 28 #[.pointer (some ⟨bx, 0, none⟩)] (fun x : Int => #[Value.int .i64 x]) KpE (fun ys => ys = placesN l) (fun _ => True) (placesN l).length w := fun lp J Jx W hW hJ _ hY h0 =>
  places1_in n hn lp bx base v l J Jx W hJ hY hl hs ((hW.block bx (Array.getElem?_eq_some_iff.1 hbx).1).trans hbx) (ownsRow_same hrow fun g hg => hW.block g (World.ownsRow.lt hrow g hg).2) h0
theorem places_in (n : Nat) (A : Option Addr) (m c : Nat) (w : World) :
    CallsIn Fence.wide n Try.prog 20 #[.slice A m c] w fun r w' => r = .returned (.func (.func 28) #[] #[.pointer (some ⟨w.heap.size, 0, none⟩)]) ∧ w' = w.alloc (.cells #[.slice A m c] 23) := by
  refine callsIn_of_wp Try.func20 rfl trivial ?_ rfl
  simp only [Try.ntmps20, List.size_toArray, List.length_cons, List.length_nil, Nat.reduceAdd, Nat.reduceSub, Array.replicate_succ, Array.replicate_zero, List.push_toArray, List.append_toArray, List.nil_append, List.cons_append]
  gi_wp2
  go_ret
  exact ⟨rfl, rfl⟩
abbrev encI (x : Int) : Value := .int .i64 x
/-- What has been gathered. -/
def Gath (w : World) (pre : List Int) (W : World) : Prop := ∃ v, W.heap[w.heap.size]? = some (.cells #[v] 26) ∧ W.ownsRow w.heap.size 3 1 v pre.length (pre.map encI) ∧ Below w.heap.size w W
theorem kpE_grown {W W' : World} {base n : Nat} {v : Value} {xs : List Value} (hr : W.ownsRow base 3 1 v n xs) (hg : W.grownBy W' v.ownBlock) : KeepsOthers W W' ∧ KpE W W' := by
  have key : ∀ (k : Nat) (o : Obj), W.heap[k]? = some o → (∀ cur, o ≠ Obj.cells cur 3 (0, 0)) → W'.heap[k]? = some o := by
    intro k o hk ho
    refine (hg.block k (Array.getElem?_eq_some_iff.1 hk).1 fun he => ?_).trans hk
    obtain ⟨cur, hc⟩ := ownsRow_elem hr he.symm
    rw [hc] at hk
    exact ho cur (Option.some.inj hk).symm
  refine ⟨⟨hg.size, fun k o hk ho => key k o hk fun cur e => by subst e; simp [Obj.isCells] at ho⟩, fun k cur e m he hk => key k _ hk fun cur' h => ?_⟩
  injection h with _ h2 _
  rcases he with rfl | rfl <;> cases h2
theorem gath_own (w : World) (B : Nat) (hB : w.heap.size + 1 ≤ B) : OwnFrom B (Gath w) := by
  rintro pre W W' row ⟨v, h1, h2, h3⟩ hg hrow
  refine ⟨v, ?_, ?_, h3.grown hg h3.size fun k e => by have := (hrow k e).1; omega⟩
  · exact (hg.block _ (Array.getElem?_eq_some_iff.1 h1).1 fun he => by have := (hrow _ he.symm).1; omega).trans h1
  · refine ownsRow_same h2 fun g hgv => hg.block g (World.ownsRow.lt h2 g hgv).2 fun he => ?_
    obtain ⟨_, o, ho, hc⟩ := hrow g he.symm
    obtain ⟨cur, hcur⟩ := ownsRow_elem h2 hgv
    rw [hcur] at ho
    cases ho
    simp [Obj.isCells] at hc
theorem box_cell {W : World} {B : Nat} {v : Value} {t : TypeId} (h : W.heap[B]? = some (.cells #[v] t)) : W.cell? ⟨B, 0, none⟩ = some v ∧ W.frozen? ⟨B, 0, none⟩ = false := by
  refine ⟨?_, ?_⟩
  · simp only [World.cell?, h]; rfl
  · simp [World.frozen?, h]
theorem ownsRow_form' {w : World} {base e sz n : Nat} {v : Value} {xs : List Value} (h : w.ownsRow base e sz v n xs) : ∃ A c, v = .slice A n c := ownsRow_form h
set_option maxRecDepth 100000 in
set_option maxHeartbeats 2000000 in
theorem append_in (n : Nat) (hn : 3 ≤ n) (bx base : Nat) (v : Value) (l : List Run) (w : World) (hl : l.length ≤ 100000) (hs : Small l) (hN : (placesN l).length ≤ 100000000) (hbx : w.heap[bx]? = some (.cells #[v] 23)) (hrow : w.ownsRow base 28 2 v l.length (flatR l)) :
    CallsIn Fence.wide n Try.prog 27 #[.slice none 0 0, .func (.func 28) #[] #[.pointer (some ⟨bx, 0, none⟩)]] w fun e w' => ∃ v', e = .returned v' ∧ w'.ownsRow w.heap.size 3 1 v' (placesN l).length ((placesN l).map encI) ∧ Below w.heap.size w w' := by
  refine callsIn_of_wp_marks Try.func27 rfl trivial ?_ rfl
  simp only [Try.ntmps27, List.size_toArray, List.length_cons, List.length_nil, Nat.reduceAdd, Nat.reduceSub, Array.replicate_succ, Array.replicate_zero, List.push_toArray, List.append_toArray, List.nil_append, List.cons_append]
  have hST := places_stops (n - 1) (by omega) bx base v l w hl hs hbx hrow
  have HST := Lib.hid hST
  clear hST hbx hrow
  gi_wp2
  refine wpIn_rangeFunc_ownF rfl (by omega) (gf := 28) (lb := #[.pointer (some ⟨bx, 0, none⟩)]) rfl trivial (enters_of Try.func28 (by kernel_rfl) rfl)
    HST.out kpE_t (fun W l o o' _ ho hc _ => kpE_b W l o o' ho hc) ((Below.refl _ w).alloc (Nat.le_refl _) _) (fun _ => rfl)
    (Gath w) (fun _ _ _ => False) (gath_own w _ (by simp)) (fun _ _ _ _ _ hs _ _ => hs)
    ⟨.slice none 0 0, new_at w _, ⟨rfl, .inl ⟨rfl, rfl⟩⟩, (Below.refl _ w).alloc (Nat.le_refl _) _⟩
    ?a1 ?assign ?body ?done ?stop
  case assign =>
    intro l x W K hK
    gi_wp2
    exact hK
  case body =>
    rintro lp pre x W ⟨u, h1, h2, h3⟩ hlen
    have hlt := (Array.getElem?_eq_some_iff.1 h1).1
    have hi3 := info3
    obtain ⟨i0, hi, hz0, hz1, hz2⟩ := info_parts hi3
    have hc1 : W.cell? ⟨w.heap.size, 0, none⟩ = some u := by simp only [World.cell?, h1]; rfl
    have hgn := fun W3 => kpE_grown (W' := W3) (World.ownsRow.alloc h2 (.cells #[.int .i64 x] 3))
    have hne : ∀ g, u.ownBlock = some g → g ≠ w.heap.size := fun g hg e => by
      obtain ⟨cur, hcur⟩ := ownsRow_elem h2 hg
      rw [e, h1] at hcur
      simp at hcur
    have HI := Lib.hid h2
    have HN := Lib.hid hne
    have HG := Lib.hid hgn
    have HB := Lib.hid h1
    have HW := Lib.hid h3
    obtain ⟨uA, uc, rfl⟩ := ownsRow_form h2
    clear h1 h2 h3 hgn hne hi3
    gi_wp2_with (gi_at_builtin; refine wpListIn_append_own _ rfl _ _ 26 rfl w.heap.size 3 i0 (.int .i64 0) 1 8 Try.underlying26 hi hz0 hz1 hz2 rfl (by decide) _ _ _ rfl (HI.out.alloc _) ⟨W.heap.size, 0, none⟩ 1 1 [encI x] rfl rfl (news_new W 3 [encI x]) (by simp [Value.oneCell', encI]) (by unfold maxLen; omega) (by omega) (by have := HW.out.size; simp; omega) ?_; intro v' w3 hown' hg3 hnil3; clear hnil3; have hG3 := Lib.hid (HG.out _ hg3); have hbx3 : w3.heap[w.heap.size]? = some (.cells #[.slice uA pre.length uc] 26) := (hg3.block _ (by simp; omega) (fun e => HN.out _ e.symm rfl)).trans ((Below.heap_alloc _ _ _ hlt).trans HB.out); have hB3 := Lib.hid (((HW.out.alloc HW.out.size (.cells #[encI x] 3))).grown hg3 (by have := HW.out.size; simp; omega) (fun k e => (World.ownsRow.lt HI.out k e).1)); obtain ⟨hc3, hf3⟩ := box_cell hbx3; have h3lt := (Array.getElem?_eq_some_iff.1 hbx3).1; obtain ⟨uA3, uc3, rfl⟩ := ownsRow_form' hown'; have HO3 := Lib.hid hown'; have HB3 := Lib.hid hbx3; clear hown' hg3 hbx3 hc1)
    refine ⟨(KeepsOthers.alloc W _).trans (hG3.out.1.trans (KeepsOthers.setCell _ _ _)), kpE_t (kpE_below ((Below.refl _ W).alloc (Nat.le_refl _) _)) (kpE_t hG3.out.2 ?_), .slice uA3 (pre.length + 1) uc3, ?_, ?_, ?_⟩
    · intro k cur e m he hk
      refine (setCell_other w3 w.heap.size 0 k _ fun e2 => ?_).trans hk
      rw [e2, HB3.out] at hk
      rcases he with rfl | rfl <;> simp at hk
    · rw [setCell_block HB3.out]
      simp
    · rw [List.length_append, List.map_append]
      refine ownsRow_same HO3.out fun g hg => setCell_other w3 w.heap.size 0 g _ fun e2 => ?_
      obtain ⟨cur, hcur⟩ := ownsRow_elem HO3.out hg
      rw [e2, HB3.out] at hcur
      simp at hcur
    · exact hB3.out.trans ⟨rfl, rfl, rfl, by rw [setCell_size]; exact Nat.le_refl _, fun k hk => setCell_other w3 w.heap.size 0 k _ (by omega)⟩
  case done =>
    rintro D ys W hD rfl ⟨u, h1, h2, h3⟩ hK
    have hc1 : W.cell? ⟨w.heap.size, 0, none⟩ = some u := by simp only [World.cell?, h1]; rfl
    have hb1 := (Array.getElem?_eq_some_iff.1 h1).1
    obtain ⟨uA, uc, rfl⟩ := ownsRow_form h2
    have HI := Lib.hid h2
    have HB := Lib.hid h1
    have HW := Lib.hid h3
    clear h1 h2 h3
    gi_wp2
    refine ⟨by simp, .inl ⟨_, _, rfl, run_takeDeferred hK, ?_⟩⟩
    refine ⟨.slice uA (placesN l).length uc, by simp [results, Try.results27, go_sem], .slice uA (placesN l).length uc, rfl, ?_, ?_⟩
    · refine ownsRow_same HI.out fun g hg => World.putObj_heap_other fun e2 => ?_
      obtain ⟨cur, hcur⟩ := ownsRow_elem HI.out hg
      rw [e2, hK] at hcur
      cases hcur
    · exact HW.out.grown (grownBy_putObj' W D _) HW.out.size fun k e => by cases e; simp at hD; omega
  case stop =>
    rintro D c pre W _ _ h _
    exact h.elim
theorem collect_in (n : Nat) (hn : 4 ≤ n) (bx base : Nat) (v : Value) (l : List Run) (w : World) (hl : l.length ≤ 100000) (hs : Small l) (hN : (placesN l).length ≤ 100000000) (hbx : w.heap[bx]? = some (.cells #[v] 23)) (hrow : w.ownsRow base 28 2 v l.length (flatR l)) :
    CallsIn Fence.wide n Try.prog 19 #[.func (.func 28) #[] #[.pointer (some ⟨bx, 0, none⟩)]] w fun e w' => ∃ v', e = .returned v' ∧ w'.ownsRow w.heap.size 3 1 v' (placesN l).length ((placesN l).map encI) ∧ Below w.heap.size w w' := by
  have HA := Lib.hid (append_in (n - 1) (by omega) bx base v l w hl hs hN hbx hrow)
  clear hbx hrow
  refine callsIn_of_wp Try.func19 rfl trivial ?_ rfl
  simp only [Try.ntmps19, List.size_toArray, List.length_cons, List.length_nil, Nat.reduceAdd, Nat.reduceSub, Array.replicate_succ, Array.replicate_zero, List.push_toArray, List.append_toArray, List.nil_append, List.cons_append]
  gi_wp2
  refine ⟨trivial, fun _ => by omega, ?_⟩
  refine HA.out.mono ?_
  rintro _ V ⟨v', rfl, h1, h2⟩
  have H1 := Lib.hid h1
  have H2 := Lib.hid h2
  clear h1 h2 HA
  gi_wp2
  go_ret
  exact ⟨_, rfl, H1.out, H2.out⟩
theorem sectors_any (w W : World) (v : Value) (l : List Run) (h : RR w W v l) (hl : l.length ≤ 100000) (hs : Small l) (hN : (placesN l).length ≤ 100000000) :
    Calls Try.prog 11 #[v] W fun e w' => ∃ v', e = .returned v' ∧ w'.ownsRow W.heap.size 3 1 v' (placesN l).length ((placesN l).map encI) ∧ Below W.heap.size W w' := by
  refine (callsIn_wide (n := 6)).1 ?_
  obtain ⟨A, c, rfl⟩ := h.form
  refine callsIn_of_wp Try.func11 rfl trivial ?_ rfl
  simp only [Try.ntmps11, List.size_toArray, List.length_cons, List.length_nil, Nat.reduceAdd, Nat.reduceSub, Array.replicate_succ, Array.replicate_zero, List.push_toArray, List.append_toArray, List.nil_append, List.cons_append]
  have HC := Lib.hid (collect_in 5 (by omega) W.heap.size 0 (.slice A l.length c) l (W.alloc (.cells #[.slice A l.length c] 23)) hl hs hN (new_at W _) (World.ownsRow.alloc h.row _))
  clear h
  gi_wp2
  refine ⟨trivial, ?_⟩
  refine (places_in _ _ _ _ _).mono ?_
  rintro _ _ ⟨rfl, rfl⟩
  gi_wp2
  refine ⟨trivial, ?_⟩
  refine HC.out.mono ?_
  rintro _ V ⟨v', rfl, h1, h2⟩
  have hb := ((Below.refl _ W).alloc (Nat.le_refl _) (.cells #[.slice A l.length c] 23)).trans (h2.mono (by simp))
  have H1 := Lib.hid h1
  have H2 := Lib.hid hb
  clear h1 h2 HC hb
  gi_wp2
  go_ret
  refine ⟨_, rfl, ⟨H1.out.1, ?_⟩, H2.out⟩
  rcases H1.out.2 with h0 | ⟨g, cap, cur, e, hg, rest⟩
  · exact .inl h0
  · exact .inr ⟨g, cap, cur, e, by simp at hg; omega, rest⟩
end Go.Proofs.Ytbdiombbknmlaaa

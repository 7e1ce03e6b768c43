/- A row of runs sorted by its places. -/
import Derived.Shelf.SlSortCmp.NoneTotal
import Derived.Test.YtbdiombbknmlaaaSort0
import Derived.Test.YtbdiombbknmlaaaBm5
namespace Go.Proofs.Ytbdiombbknmlaaa
open Go.RowKit Go.Sort Go.Shelf

theorem nan_any (n : Int) (W : World) : Calls Try.prog 26 #[.int .i64 n] W fun e w' => e = .returned (.bool false) ∧ w' = W := by
  go_enter Try.func26, Try.ntmps26
  go_wp2_with fail
  exact bodyPost_ret (v := .bool false) (by simp [results, Try.results26, go_sem]) rfl ⟨rfl, rfl⟩
def cmpN (a b : Int) : Int := if a < b then -1 else if b < a then 1 else 0
theorem cmp_any (a b : Int) (W : World) : Calls Try.prog 16 #[.int .i64 a, .int .i64 b] W fun e w' => e = .returned (.int .i64 (cmpN a b)) ∧ w' = W := by
  have h1 := nan_any a
  have h2 := nan_any b
  by_cases hab : a < b
  · have e : cmpN a b = -1 := by unfold cmpN; rw [if_pos hab]
    have d : decide (a < b) = true := by simpa using hab
    rw [e]
    clear e hab
    go_enter Try.func16, Try.ntmps16
    go_wp2_with fail
    refine (h1 _).mono ?_
    rintro _ V ⟨rfl, hV⟩
    rw [hV]
    clear hV h1
    go_wp2_with fail
    refine (h2 _).mono ?_
    rintro _ V ⟨rfl, hV⟩
    rw [hV]
    clear hV h2
    go_wp2_with fail
    exact bodyPost_ret (v := .int .i64 (-1)) (by simp [results, Try.results16, go_sem]) rfl ⟨rfl, rfl⟩
  · have d : decide (a < b) = false := by simpa using hab
    by_cases hba : b < a
    · have e : cmpN a b = 1 := by unfold cmpN; rw [if_neg hab, if_pos hba]
      have d2 : decide (b < a) = true := by simpa using hba
      rw [e]
      clear e hab hba
      go_enter Try.func16, Try.ntmps16
      go_wp2_with fail
      refine (h1 _).mono ?_
      rintro _ V ⟨rfl, hV⟩
      rw [hV]
      clear hV h1
      go_wp2_with fail
      refine (h2 _).mono ?_
      rintro _ V ⟨rfl, hV⟩
      rw [hV]
      clear hV h2
      go_wp2_with fail
      exact bodyPost_ret (v := .int .i64 1) (by simp [results, Try.results16, go_sem]) rfl ⟨rfl, rfl⟩
    · have e : cmpN a b = 0 := by unfold cmpN; rw [if_neg hab, if_neg hba]
      have d2 : decide (b < a) = false := by simpa using hba
      rw [e]
      clear e hab hba
      go_enter Try.func16, Try.ntmps16
      go_wp2_with fail
      refine (h1 _).mono ?_
      rintro _ V ⟨rfl, hV⟩
      rw [hV]
      clear hV h1
      go_wp2_with fail
      refine (h2 _).mono ?_
      rintro _ V ⟨rfl, hV⟩
      rw [hV]
      clear hV h2
      go_wp2_with fail
      exact bodyPost_ret (v := .int .i64 0) (by simp [results, Try.results16, go_sem]) rfl ⟨rfl, rfl⟩
def cmpR (x y : Run) : Int := cmpN x.1 y.1
theorem ltR (x y : Run) : ltOf cmpR x y = decide (x.1 < y.1) := by
  unfold ltOf cmpR cmpN
  by_cases h1 : x.1 < y.1
  · simp [h1]
  · by_cases h2 : y.1 < x.1 <;> simp [h1, h2]
theorem swoR : SWO (ltOf cmpR) where
  irrefl x := by rw [ltR]; simp
  trans x y z h1 h2 := by rw [ltR] at *; simp at *; omega
  ntrans x y z h1 h2 := by rw [ltR] at *; simp at *; omega
theorem clos15 (x y : Run) (W : World) : Calls Try.prog 15 #[.agg (encR x).toArray, .agg (encR y).toArray] W fun e w' => e = .returned (.int .i64 (cmpR x y)) ∧ ∃ q os', w' = grow (W.drewN q) os' := by
  have hc := cmp_any x.1 y.1
  obtain ⟨r, hr⟩ : ∃ r, cmpN x.1 y.1 = r := ⟨_, rfl⟩
  rw [hr] at hc
  rw [show cmpR x y = r from hr]
  clear hr
  show Calls Try.prog 15 #[.agg #[.int .i64 x.1, .int .i64 x.2], .agg #[.int .i64 y.1, .int .i64 y.2]] W _
  go_enter Try.func15, Try.ntmps15
  go_wp2_with fail
  refine (hc _).mono ?_
  rintro _ V ⟨rfl, hV⟩
  rw [hV]
  clear hV hc
  go_wp2_with fail
  exact bodyPost_ret (v := .int .i64 r) (by simp [results, Try.results15, go_sem]) rfl ⟨rfl, 0, _, by rw [alloc_eq_grow, alloc_eq_grow, grow_grow]; rfl⟩
theorem eg15 : ∀ args w, (callFunc 15 args).run Try.prog w = .ok (.enter 15 args) w := enters_of Try.func15 (by kernel_rfl) rfl
theorem encR_get (x : Run) (i : Nat) (h : i < 2) : (encR x)[i]! = if i = 0 then .int .i64 x.1 else .int .i64 x.2 := by
  have : i = 0 ∨ i = 1 := by omega
  rcases this with rfl | rfl <;> rfl
theorem flatK_list (l : List Run) : (flatK encR 2 l.toArray).toList = flatR l := by
  apply List.ext_getElem?
  intro t
  by_cases ht : t < l.length * 2
  · have h1 : (flatK encR 2 l.toArray).toList[t]? = some ((encR (l.toArray[t / 2]!))[t % 2]!) := by
      have hs : t < (flatK encR 2 l.toArray).size := by simpa using ht
      rw [Array.getElem?_toList, Array.getElem?_eq_getElem hs]
      have := get_flatK encR 2 l.toArray t (by simpa using ht)
      rw [getElem!_pos _ t hs] at this
      rw [this]
    obtain ⟨x, hx⟩ : ∃ x, l[t / 2]? = some x := ⟨_, List.getElem?_eq_getElem (by omega)⟩
    obtain ⟨h2, h3⟩ := flatR_get l _ x hx
    have hx2 : l.toArray[t / 2]! = x := by
      have hlt := (List.getElem?_eq_some_iff.1 hx).1
      rw [getElem!_pos l.toArray (t / 2) (by simpa using hlt)]
      simpa using (List.getElem?_eq_some_iff.1 hx).2
    rw [h1, hx2, encR_get x _ (by omega)]
    rcases Nat.mod_two_eq_zero_or_one t with hm | hm
    · rw [if_pos hm, ← h2]
      congr 1
      omega
    · rw [if_neg (by omega), ← h3]
      congr 1
      omega
  · rw [List.getElem?_eq_none (by simp; omega), List.getElem?_eq_none (by rw [flatR_length]; omega)]
theorem heap_sortedV {w : World} {g n : Nat} {os : Array Obj} {cur : Array Value} {e : TypeId} {fr : Nat × Nat} (d : Array Value) (hb : w.heap[g]? = some (.cells cur e fr)) :
    (grow (putRow id (Sort.ahead w n) g 0 d) os).heap[g]? = some (.cells (putCells id 0 d cur) e fr) := by
  have hg : g < w.heap.size := (Array.getElem?_eq_some_iff.1 hb).1
  rw [heap_grow_old _ _ (by simpa using hg)]
  simp [putRow, mapBlock, Sort.ahead, Array.getElem?_modify, hb, onCells]
theorem grownBy_sortedV {w : World} {g n : Nat} {os : Array Obj} (d : Array Value) : w.grownBy (grow (putRow id (Sort.ahead w n) g 0 d) os) (some g) := by
  refine ⟨rfl, rfl, rfl, by simp, fun k hk hne => ?_⟩
  rw [heap_grow_old _ _ (by simpa using hk)]
  have : g ≠ k := fun e => hne (by rw [e])
  simp [putRow, mapBlock, Sort.ahead, Array.getElem?_modify, this]
theorem take_putV (cur d : Array Value) (h : d.size ≤ cur.size) : (putCells id 0 d cur).toList.take d.size = d.toList := by
  apply List.ext_getElem?
  intro j
  by_cases hj : j < d.size
  · rw [List.getElem?_take_of_lt hj, Array.getElem?_toList]
    simp [putCells, hj, show j < cur.size by omega]
  · rw [List.getElem?_take_eq_none (by omega), List.getElem?_eq_none (by simp; omega)]
set_option maxRecDepth 100000 in
theorem sorts_some (w W : World) (g c : Nat) (l : List Run) (h : RR w W (.slice (some ⟨g, 0, none⟩) l.length c) l) (hl : l.length ≤ 1000000) :
    Calls Try.prog 14 #[.slice (some ⟨g, 0, none⟩) l.length c, .func (.func 15) #[] #[]] W fun e w' => e = .returned (.tuple #[]) ∧ ∃ l', l'.Perm l ∧ l'.Pairwise (fun x y => x.1 ≤ y.1) ∧ RR w w' (.slice (some ⟨g, 0, none⟩) l.length c) l' := by
  rcases h.row.2 with ⟨h0, _⟩ | ⟨g', cap, cur, hv, hb, hh, hnc, hcm, hcs, ht⟩
  · simp at h0
  · obtain ⟨⟨rfl, -, -⟩, -, rfl⟩ := by simpa only [Value.slice.injEq, Option.some.injEq, Addr.mk.injEq] using hv
    have hH : HoldsK encR 2 W g 0 l.toArray := by
      intro j hj
      have hj2 : j < l.length * 2 := by simpa using hj
      refine ⟨?_, h.row.frozenAt (0 + j)⟩
      rw [Nat.zero_add, h.row.cellAt j (by omega), ← flatK_list, Array.getElem?_toList, Array.getElem?_eq_getElem hj, getElem!_pos _ j hj]
      rfl
    have hcon := AnyQ.slices_SortFunc Try.sort14 2 Try.isAgg28 Try.sizeOf28 encR (fun _ => rfl) (fun x v hv => by simp [encR] at hv; rcases hv with rfl | rfl <;> rfl) cmpR swoR 15 #[] g 0 c l.toArray W eg15 (fun _ _ _ _ x y => clos15 x y _) hH (Array.getElem?_eq_some_iff.1 hh).1 (by simp; omega)
    change Calls Try.prog 14 _ _ _ at hcon
    refine (show Calls Try.prog 14 #[.slice (some ⟨g, 0, none⟩) l.length c, .func (.func 15) #[] #[]] W _ from hcon).mono ?_
    rintro _ w' ⟨rfl, d', n, os, hp, hs, rfl⟩
    obtain ⟨hp1, -, hp3⟩ := hp
    have hsz : d'.size = l.length := by simpa using hp1
    have hd' : d'.toList.toArray = d' := by simp
    refine ⟨rfl, d'.toList, ?_, ?_, ⟨?_, ?_, h.own⟩⟩
    · have e1 : (d'.extract 0 l.toArray.size) = d' := by simp [← hsz]
      have e2 : (l.toArray.extract 0 l.toArray.size).toList = l := by simp
      rw [e1, e2] at hp3
      exact hp3
    · rw [List.pairwise_iff_getElem]
      intro i j hi hj hij
      have hi' : i < d'.size := by simpa using hi
      have hj' : j < d'.size := by simpa using hj
      have := hs i j (Nat.zero_le _) hij (by simp; omega)
      rw [ltR, getElem!_pos d' i hi', getElem!_pos d' j hj'] at this
      simp only [Array.getElem_toList]
      simp at this
      omega
    · have hfk : (flatK encR 2 d').toList = flatR d'.toList := by
        have := flatK_list d'.toList
        rwa [hd'] at this
      have hfs : (flatK encR 2 d').size = l.length * 2 := by simp [hsz]
      refine ⟨by rw [flatR_length], .inr ⟨g, c, putCells id 0 (flatK encR 2 d') cur, by simp [hsz], hb, heap_sortedV _ hh, by simp [hsz]; exact hnc, hcm, by simp [putCells, hcs], ?_⟩⟩
      rw [← hfk, show d'.toList.length * 2 = (flatK encR 2 d').size by simp]
      exact take_putV cur _ (by rw [hfs, hcs]; omega)
    · have hg := grownBy_sortedV (w := W) (g := g) (n := n) (os := os) (flatK encR 2 d')
      refine h.below.trans ⟨hg.os, hg.tape, hg.output, hg.size, fun k hk => hg.block k (by have := h.below.size; omega) (fun e => ?_)⟩
      have := h.own g rfl
      simp only [Option.some.injEq] at e
      omega
theorem sorts_all : Sorts := by
  intro w W v l h hl
  rcases h.row.2 with ⟨rfl, h0⟩ | ⟨g', cap, cur, rfl, _⟩
  · obtain rfl : l = [] := List.eq_nil_of_length_eq_zero h0
    have hcon := AnyF.slices_SortFunc_none Try.sort14 none 0 (.func (.func 15) #[] #[]) W
    change Calls Try.prog 14 _ _ _ at hcon
    refine hcon.mono ?_
    rintro _ w' ⟨rfl, hw⟩
    exact ⟨rfl, [], .refl _, by simp, by rw [hw]; exact h⟩
  · exact sorts_some w W g' cap l h hl
end Go.Proofs.Ytbdiombbknmlaaa

/- Walks: all places of runs, one by one. -/
import Derived.Test.YtbdiombbknmlaaaTk1
import Derived.RangeFuncNested
import Derived.RangeFuncBound
import Derived.RangeFuncCalls
import Derived.RangeFuncLeaves
import Derived.RangeFuncFrom
import Derived.Shelf.Abstract
import Derived.Shelf.RegionOpen
import Derived.OwnWalkIn
import Derived.TacticsInMore
import Derived.LoopNIn
import Derived.LoopIn
namespace Go.Proofs.Ytbdiombbknmlaaa
open Go.RowKit Go.Shelf

attribute [local go_sem] Oper.semAt_some

/-- Boxes of runs and of rows of runs are as they were. -/
def KpE (W W' : World) : Prop := ∀ (k : Nat) (cur : Array Value) (e : TypeId) (m : Nat × Nat), e = 28 ∨ e = 23 → W.heap[k]? = some (.cells cur e m) → W'.heap[k]? = some (.cells cur e m)
theorem KpE.refl (W : World) : KpE W W := fun _ _ _ _ _ h => h
theorem kpE_t {A C D : World} (h : KpE A C) (k : KpE C D) : KpE A D := fun j cur e m he hj => k j cur e m he (h j cur e m he hj)
theorem kpE_b (W : World) (l : Nat) (o o' : Obj) (ho : W.heap[l]? = some o) (hc : o.isCells = false) : KpE W (W.putObj l o') :=
  fun k cur e m _ hk => (World.putObj_heap_other (by intro he; subst he; rw [hk] at ho; cases ho; simp [Obj.isCells] at hc)).trans hk
theorem kpE_below {W W' : World} (h : Below W.heap.size W W') : KpE W W' := fun k _ _ _ _ hk => (h.block k (Array.getElem?_eq_some_iff.1 hk).1).trans hk
theorem kpE_row {W W' : World} {base : Nat} {v : Value} {n : Nat} {xs : List Value} (h : W.ownsRow base 28 2 v n xs) (hk : KpE W W') : W'.ownsRow base 28 2 v n xs :=
  ownsRow_same h fun g hg => by
    obtain ⟨cur, hc⟩ := ownsRow_elem h hg
    rw [hc]
    exact hk g cur 28 _ (.inl rfl) hc
def placesOf (x : Run) : List Int := (List.range x.2.toNat).map fun i : Nat => x.1 + (i : Int)
def placesN (l : List Run) : List Int := l.flatMap placesOf
theorem placesN_take (l : List Run) (k : Nat) (x : Run) (h : l[k]? = some x) : placesN (l.take (k + 1)) = placesN (l.take k) ++ placesOf x := by
  rw [List.take_succ_eq_append_getElem (List.getElem?_eq_some_iff.1 h).1, (List.getElem?_eq_some_iff.1 h).2]
  simp [placesN]
theorem placesN_len (l : List Run) (k : Nat) (x : Run) (h : l[k]? = some x) : (placesN (l.take k)).length + x.2.toNat ≤ (placesN l).length := by
  have h1 := placesN_take l k x h
  have h2 : placesN l = placesN (l.take (k + 1)) ++ placesN (l.drop (k + 1)) := by
    unfold placesN
    rw [← List.flatMap_append, List.take_append_drop]
  rw [h2, h1]
  have e : (placesOf x).length = x.2.toNat := by simp [placesOf]
  rw [List.length_append, List.length_append, e]
  omega
theorem places_succ (x1 : Int) (i : Nat) : (List.range (i + 1)).map (fun i : Nat => x1 + (i : Int)) = (List.range i).map (fun i : Nat => x1 + (i : Int)) ++ [x1 + (i : Int)] := by simp [List.range_succ]
theorem row_run {W : World} {base : Nat} {A : Option Addr} {n c : Nat} {l : List Run} (h : W.ownsRow base 28 2 (.slice A n c) l.length (flatR l)) (j : Nat) (x : Run) (hj : l[j]? = some x) :
    ∃ g, A = some ⟨g, 0, none⟩ ∧ has W g ∧ W.cell? ⟨g, j * 2, none⟩ = some (.int .i64 x.1) ∧ W.cell? ⟨g, j * 2 + 1, none⟩ = some (.int .i64 x.2) := by
  have hlt := (List.getElem?_eq_some_iff.1 hj).1
  rcases h.2 with ⟨_, h0⟩ | ⟨g, cap, cur, hv, _, hh, _⟩
  · omega
  · rw [hv] at h
    obtain ⟨rfl, -, -⟩ := by simpa only [Value.slice.injEq] using hv
    obtain ⟨h1, h2⟩ := flatR_get l j x hj
    exact ⟨g, rfl, (Array.getElem?_eq_some_iff.1 hh).1, (h.cellAt _ (by omega)).trans h1, (h.cellAt _ (by omega)).trans h2⟩
set_option maxRecDepth 100000 in
set_option maxHeartbeats 2000000 in
theorem places1_in (n : Nat) (hn : 1 ≤ n) (lp bx base : Nat) (v : Value) (l : List Run) (J Jx : List Int → World → Prop) (W : World) (hJ : AbidesFrom W.heap.size J)
    (hY : ∀ pre (x : Int) W, J pre W → pre.length < (placesN l).length → YieldAt Fence.wide (n - 1) Try.prog lp #[.int .i64 x] W fun r W' =>
      (r = .returned (.bool true) ∧ J (pre ++ [x]) W' ∧ KpE W W') ∨ (r = .returned (.bool false) ∧ Jx (pre ++ [x]) W'))
    (hl : l.length ≤ 100000) (hs : Small l) (hbx : W.heap[bx]? = some (.cells #[v] 23)) (hrow : W.ownsRow base 28 2 v l.length (flatR l)) (h0 : J [] W) :
    CallsIn Fence.wide n Try.prog 28 #[.func (.yield lp) #[] #[], .pointer (some ⟨bx, 0, none⟩)] W fun r W' => (∃ v, r = .returned v) ∧
      ((∃ ys, ys = placesN l ∧ J ys W') ∨ (∃ pre, True ∧ Jx pre W')) := by
  obtain ⟨A, c, rfl⟩ := ownsRow_form hrow
  refine callsIn_of_wp Try.func28 rfl trivial ?_ rfl
  simp only [Try.ntmps28, List.size_toArray, List.length_cons, List.length_nil, Nat.reduceAdd, Nat.reduceSub, Array.replicate_succ, Array.replicate_zero, List.push_toArray, List.append_toArray, List.nil_append, List.cons_append]
  have hcs : W.cell? ⟨bx, 0, none⟩ = some (.slice A l.length c) := by simp only [World.cell?, hbx]; rfl
  have HROW := Lib.hid hrow
  clear hrow hbx
  gi_wp2
  clear hcs
  gi_loopw [8] (fun z wr => ∃ k : Nat, k ≤ l.length ∧ z = .int .i64 (k : Int) ∧ Hid (KpE W wr) ∧ J (placesN (l.take k)) wr) (fun z _ => l.length - (intOf z).toNat)
  case atStart => exact ⟨0, by omega, rfl, KpE.refl W, h0⟩
  case round =>
    obtain ⟨k, hk, rfl, HK, hJs⟩ := hrel
    by_cases hlt : k < l.length
    · have hd : decide ((k : Int) < (l.length : Int)) = true := by simp; omega
      obtain ⟨x, hx⟩ : ∃ x, l[k]? = some x := ⟨_, List.getElem?_eq_getElem hlt⟩
      have hsm := hs x (List.mem_of_getElem? hx)
      have hpt := placesN_take l k x hx
      have hpl := placesN_len l k x hx
      obtain ⟨g, rfl, g1, g2, g3⟩ := row_run (kpE_row HROW.out HK.out) k x hx
      obtain ⟨x1, x2⟩ := x
      simp only at hsm g2 g3 hpl
      obtain ⟨m, hm⟩ : ∃ m : Nat, x2.toNat = m := ⟨_, rfl⟩
      have hm1 : (if 0 < x2 then x2 else 0) = (m : Int) := by split <;> omega
      have hm2 : max 0 x2 = (m : Int) := by omega
      have hm3 : (m : Int) ≤ 1073741824 := by omega
      have hpo : placesOf (x1, x2) = (List.range m).map fun i : Nat => x1 + (i : Int) := by simp only [placesOf, hm]
      rw [hpo] at hpt
      have HPT := Lib.hid hpt
      rw [hm] at hpl
      have HPL := Lib.hid hpl
      clear hpt hpo hm hx hpl
      have hJ1 : J (placesN (l.take k)) (wr.alloc (.cells #[.int .i64 x1, .int .i64 x2] 28)) := hJ _ wr _ none hJs (World.grownBy_alloc _ _ _) (fun _ h => by cases h)
      have hbox := new_at wr (.cells #[.int .i64 x1, .int .i64 x2] 28)
      have HK1 := Lib.hid (kpE_t HK.out (kpE_below ((Below.refl _ wr).alloc (Nat.le_refl _) (.cells #[.int .i64 x1, .int .i64 x2] 28))))
      obtain ⟨rb, hrb⟩ : ∃ rb, wr.heap.size = rb := ⟨_, rfl⟩
      gi_wp2
      rw [hrb] at hbox
      obtain ⟨W1, hW1⟩ : ∃ W1, wr.alloc (.cells #[.int .i64 x1, .int .i64 x2] 28) = W1 := ⟨_, rfl⟩
      rw [hW1] at hbox hJ1 HK1 ⊢
      clear hW1 hrb HK hJs g1 g2 g3
      rename_i K2 hK2
      have HKK2 := Lib.hid hK2
      clear hK2
      gi_loopw [15] (fun z wr => ∃ i : Nat, i ≤ m ∧ z = .int .i64 (i : Int) ∧ Hid (KpE W wr) ∧ wr.heap[rb]? = some (.cells #[.int .i64 x1, .int .i64 x2] 28) ∧ J (placesN (l.take k) ++ (List.range i).map fun i : Nat => x1 + (i : Int)) wr) (fun z _ => m - (intOf z).toNat)
      case atStart => exact ⟨0, by omega, rfl, HK1.out, hbox, by simpa using hJ1⟩
      case round =>
        clear hJ1 hbox HK1
        obtain ⟨i, hi, rfl, HK, hbox, hJs⟩ := hrel
        obtain ⟨b1, b2⟩ := cells2 hbox
        have b3 : has wr rb := (Array.getElem?_eq_some_iff.1 hbox).1
        by_cases him : i < m
        · have hd2 : decide ((i : Int) < (m : Int)) = true := by simp; omega
          obtain ⟨fn, tmps, assign, body, hy, hR⟩ := hY _ (x1 + (i : Int)) wr hJs (by have := HPL.out; simp; omega)
          gi_wp2
          refine hR.mono ?_
          rintro r W3 (⟨rfl, hJ3, hk3⟩ | ⟨rfl, hJx3⟩)
          · have HK3 := Lib.hid (kpE_t HK.out hk3)
            have hbox3 := hk3 _ _ _ _ (.inl rfl) hbox
            gi_wp2
            go_roundw
            case rel => exact ⟨i + 1, by omega, by go_num, HK3.out, hbox3, by rw [places_succ, ← List.append_assoc]; exact hJ3⟩
            case measure => simp [intOf]; omega
          · gi_wp2
            refine bodyPost_ret (results_none rfl _ _ _) rfl ?_
            exact ⟨⟨_, rfl⟩, .inr ⟨_, trivial, hJx3⟩⟩
        · obtain rfl : i = m := by omega
          have hd2 : decide ((i : Int) < (i : Int)) = false := by simp
          rw [← HPT.out] at hJs
          gi_wp2
          refine HKK2.out _ _ ?_
          clear HKK2
          gi_wp2
          go_roundw
          case rel => exact ⟨k + 1, by omega, by go_num, HK.out, hJs⟩
          case measure => simp [intOf]; omega
    · obtain rfl : k = l.length := by omega
      have hd : decide ((l.length : Int) < (l.length : Int)) = false := by simp
      rw [List.take_length] at hJs
      gi_wp2
      go_end0
      exact ⟨⟨_, rfl⟩, .inl ⟨_, rfl, hJs⟩⟩
end Go.Proofs.Ytbdiombbknmlaaa

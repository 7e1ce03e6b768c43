/- Walks: what a sector has. -/
import Derived.Test.YtojgfaichkcmpaaRead3
namespace Go.Proofs.Ytojgfaichkcmpaa
open Go.RowKit Go.Shelf

attribute [local go_sem] Oper.semAt_some
def DS.read (S : DS) (i : Int) : List UInt8 × Int :=
  if S.down = true then ([], 7) else if ¬ (0 ≤ i ∧ i < S.firm.length) then ([], 1) else ((match lastN S.loose i with | some s => s | none => S.firm.getD i.toNat []), 0)
theorem leave_read {w V : World} {tmps : Array Value} {q D : Nat} {r : List UInt8} {b : Int} {R : Ending → World → Prop} (hq : q + 1 < D) (hw : w.heap.size ≤ D) (c4 : V.cell? ⟨q, 0, none⟩ = some (strV r)) (c5 : V.cell? ⟨q + 1, 0, none⟩ = some (.int .i64 b))
    (hD : V.heap[D]? = some (.deferred (some []))) (hb : Below w.heap.size w V) (t4 : tmps[4]?.getD undef = .pointer (some ⟨q, 0, none⟩)) (t5 : tmps[5]?.getD undef = .pointer (some ⟨q + 1, 0, none⟩))
    (hR : ∀ w', Below w.heap.size w w' → R (.returned (.tuple #[strV r, .int .i64 b])) w') : LeavesInM Fence.wide 12 Try.prog Try.f15 tmps R [{ target := .collected D, args := #[] }] .returning V := by
  refine ⟨by simp, .inl ⟨_, _, rfl, run_takeDeferred hD, ?_⟩⟩
  have h4 : (V.putObj D (.deferred none)).cell? ⟨q, 0, none⟩ = some (strV r) := (World.cell?_of_block (World.putObj_heap_other (by simp only; omega))).trans c4
  have h5 : (V.putObj D (.deferred none)).cell? ⟨q + 1, 0, none⟩ = some (.int .i64 b) := (World.cell?_of_block (World.putObj_heap_other (by simp only; omega))).trans c5
  refine ⟨.tuple #[strV r, .int .i64 b], ?_, hR _ (hb.trans (put_below _ _ hw))⟩
  simp [results, Try.results15, go_sem, t4, t5, h4, h5]
set_option maxRecDepth 100000 in
theorem read_any {W : World} {p f : Nat} {lv : Value} {S : DS} (h : DiskAt W p f lv S) (i : Int) :
    Calls Try.prog 15 #[ptr p, .int .i64 i] W fun e w' => e = .returned (.tuple #[strV (S.read i).1, .int .i64 (S.read i).2]) ∧ Below W.heap.size W w' := by
  rw [← callsIn_wide (n := 12)]
  refine callsIn_of_wp_marks Try.func15 rfl trivial ?_ rfl
  simp only [Try.ntmps15, List.size_toArray, List.length_cons, List.length_nil, Nat.reduceAdd, Nat.reduceSub, Array.replicate_succ, Array.replicate_zero, List.push_toArray, List.append_toArray, List.nil_append, List.cons_append]
  obtain ⟨c0, c1, c2, c3, hf⟩ := h.cells
  have q1 : has W p := h.lt.1
  have q2 : has W f := h.lt.2
  by_cases hd : S.down = true
  · have hw : S.read i = ([], 7) := by unfold DS.read; rw [if_pos hd]
    rw [hw]
    rw [hd] at c2
    gi_wp2
    refine ⟨.tuple #[strV [], .int .i64 7], by simp [results, Try.results15, go_sem], rfl, ?_⟩
    repeat (first | exact Below.refl _ _ | refine Below.setCell ?_ (by first | (simp; done) | (simp; omega) | (simp [size_plus]; done) | (simp [size_plus]; omega)) _ | refine Below.alloc ?_ (by first | (simp; done) | (simp; omega) | (simp [size_plus]; done) | (simp [size_plus]; omega)) _ | refine Below.drew ?_ | refine Below.plus ?_ (by first | (simp; done) | (simp; omega) | (simp [size_plus]; done) | (simp [size_plus]; omega)) _)
  · have hd' : S.down = false := by simpa using hd
    rw [hd'] at c2
    have k25 := callsIn_wide (n := 11).2 (has_any (W := (W.alloc (.cells #[.string { data := #[] }] 9)).alloc (.cells #[.int .i64 0] 23)) (S := S) (h.below (by repeat (first | exact Below.refl _ _ | refine Below.setCell ?_ (by first | (simp; done) | (simp; omega) | (simp [size_plus]; done) | (simp [size_plus]; omega)) _ | refine Below.alloc ?_ (by first | (simp; done) | (simp; omega) | (simp [size_plus]; done) | (simp [size_plus]; omega)) _ | refine Below.drew ?_ | refine Below.plus ?_ (by first | (simp; done) | (simp; omega) | (simp [size_plus]; done) | (simp [size_plus]; omega)) _))) i)
    by_cases hi : 0 ≤ i ∧ i < S.firm.length
    · rw [decide_eq_true hi] at k25
      obtain ⟨j, rfl⟩ : ∃ j : Nat, i = (j : Int) := ⟨i.toNat, by omega⟩
      have hjl : j < S.firm.length := by omega
      have hw : S.read j = ((match lastN S.loose j with | some s => s | none => S.firm.getD j []), 0) := by unfold DS.read; rw [if_neg hd, if_neg (by simp [hi]), Int.toNat_natCast]
      gi_wp2
      refine ⟨trivial, k25.mono ?_⟩
      rintro _ W2 ⟨rfl, hW2⟩
      rw [hW2]
      clear hW2 k25
      gi_wp2
      refine ⟨trivial, (backward_call Fence.wide 11 trivial rfl p _ _).mono ?_⟩
      rintro _ W2 ⟨rfl, hW2⟩
      rw [hW2]
      clear hW2
      gi_wp2
      obtain ⟨V, hV⟩ : ∃ V, (((W.alloc (.cells #[.string { data := #[] }] 9)).alloc (.cells #[.int .i64 0] 23)).alloc (.cells #[ptr p] 22)).alloc (.cells #[.int .i64 j] 3) = V := ⟨_, rfl⟩
      have vs : V.heap.size = W.heap.size + 4 := by rw [← hV]; simp
      have vb : Below W.heap.size W V := by rw [← hV]; repeat (first | exact Below.refl _ _ | refine Below.setCell ?_ (by first | (simp; done) | (simp; omega) | (simp [size_plus]; done) | (simp [size_plus]; omega)) _ | refine Below.alloc ?_ (by first | (simp; done) | (simp; omega) | (simp [size_plus]; done) | (simp [size_plus]; omega)) _ | refine Below.drew ?_ | refine Below.plus ?_ (by first | (simp; done) | (simp; omega) | (simp [size_plus]; done) | (simp [size_plus]; omega)) _)
      have g0 : V.heap[W.heap.size]? = some (.cells #[.string { data := #[] }] 9) := by
        rw [← hV, Below.heap_alloc _ _ _ (by simp <;> omega), Below.heap_alloc _ _ _ (by simp <;> omega), Below.heap_alloc _ _ _ (by simp), new_at]
      have g1 : V.heap[W.heap.size + 1]? = some (.cells #[.int .i64 0] 23) := by
        have := new_at (W.alloc (.cells #[.string { data := #[] }] 9)) (.cells #[.int .i64 0] 23)
        simp only [World.size_alloc] at this
        rw [← hV, Below.heap_alloc _ _ _ (by simp <;> omega), Below.heap_alloc _ _ _ (by simp), this]
      have g2 : V.heap[W.heap.size + 2]? = some (.cells #[ptr p] 22) := by
        have := new_at ((W.alloc (.cells #[.string { data := #[] }] 9)).alloc (.cells #[.int .i64 0] 23)) (.cells #[ptr p] 22)
        simp only [World.size_alloc] at this
        rw [← hV, Below.heap_alloc _ _ _ (by simp), this]
      have g3 : V.heap[W.heap.size + 3]? = some (.cells #[.int .i64 j] 3) := by
        have := new_at (((W.alloc (.cells #[.string { data := #[] }] 9)).alloc (.cells #[.int .i64 0] 23)).alloc (.cells #[ptr p] 22)) (.cells #[.int .i64 j] 3)
        simp only [World.size_alloc] at this
        rw [← hV, this]
      rw [hV]
      clear hV c0 c1 c2 c3 hf
      have HD := h.below vb
      refine wpIn_rangeFunc_once (opt := lastN S.loose j) (by omega) (gf := 41) (lb := #[ptr (W.heap.size + 2), ptr (W.heap.size + 3)]) rfl (enters_of Try.func41 (by kernel_rfl) rfl) (encs := fun s => #[strV s]) (fun _ => rfl)
        (fun s X => Below W.heap.size W X ∧ V.heap.size ≤ X.heap.size ∧ X.cell? ⟨W.heap.size, 0, none⟩ = some (strV s) ∧ X.cell? ⟨W.heap.size + 1, 0, none⟩ = some (.int .i64 0))
        (fun s A B hA hb => ⟨hA.1.trans (hb.mono (by omega)), Nat.le_trans hA.2.1 hb.size, (hb.cell (p := ⟨W.heap.size, 0, none⟩) (show W.heap.size < V.heap.size by omega)).trans hA.2.2.1, (hb.cell (p := ⟨W.heap.size + 1, 0, none⟩) (show W.heap.size + 1 < V.heap.size by omega)).trans hA.2.2.2⟩)
        ?seq (fun s => { tmps := #[ptr p, .int .i64 j, undef, undef, ptr W.heap.size, ptr (W.heap.size + 1), strV s, .bool false, ptr p, .bool false, .bool false, ptr p, ptr p, .pointer (some ⟨p, 2, none⟩), .bool false, .bool false, ptr p, .int .i64 j, .bool true, .bool false, ptr p, .int .i64 j, .func (.func 41) #[] #[ptr (W.heap.size + 2), ptr (W.heap.size + 3)], strV s, undef, undef, undef, undef, undef, undef, undef, undef], defers := [] }) ?assign ?body ?done ?stop
      case seq =>
        intro l X hX J0 Jx hJ hJx hY h0
        exact first_in 11 (by omega) l p f (W.heap.size + 2) (W.heap.size + 3) j lv S X (HD.below hX) ((hX.cell (p := ⟨W.heap.size + 2, 0, none⟩) (show W.heap.size + 2 < V.heap.size by omega)).trans (by simp only [World.cell?, g2]; rfl)) ((hX.cell (p := ⟨W.heap.size + 3, 0, none⟩) (show W.heap.size + 3 < V.heap.size by omega)).trans (by simp only [World.cell?, g3]; rfl)) (by have := hX.size; omega) J0 Jx hJ hJx hY h0
      case assign =>
        intro l s X K hK
        gi_wp2
        exact hK
      case body =>
        intro l s X hX
        have d0 : X.heap[W.heap.size]? = some (.cells #[.string { data := #[] }] 9) := (hX.block _ (by omega)).trans g0
        have d1 : X.heap[W.heap.size + 1]? = some (.cells #[.int .i64 0] 23) := (hX.block _ (by omega)).trans g1
        have e0 : X.cell? ⟨W.heap.size, 0, none⟩ = some (.string { data := #[] }) := by simp only [World.cell?, d0]; rfl
        have e1 : X.cell? ⟨W.heap.size + 1, 0, none⟩ = some (.int .i64 0) := by simp only [World.cell?, d1]; rfl
        have f0 : X.frozen? ⟨W.heap.size, 0, none⟩ = false := by simp [World.frozen?, d0]
        have f1 : X.frozen? ⟨W.heap.size + 1, 0, none⟩ = false := by simp [World.frozen?, d1]
        gi_wp2
        refine ⟨by rw [setCell_size, setCell_size]; omega, fun k o hk ho => ?_, ?_, by rw [setCell_size, setCell_size]; exact hX.size, ?_, ?_⟩
        · rw [setCell_other _ _ _ _ _ (by omega), setCell_other _ _ _ _ _ (by omega)]
          exact ho
        · have hb : Below W.heap.size W X := vb.trans (hX.mono (by omega))
          repeat (first | exact Below.refl _ _ | refine Below.setCell ?_ (by first | (simp; done) | (simp; omega) | (simp [size_plus]; done) | (simp [size_plus]; omega)) _ | refine Below.alloc ?_ (by first | (simp; done) | (simp; omega) | (simp [size_plus]; done) | (simp [size_plus]; omega)) _ | refine Below.drew ?_ | refine Below.plus ?_ (by first | (simp; done) | (simp; omega) | (simp [size_plus]; done) | (simp [size_plus]; omega)) _)
          exact hb
        · rw [World.cell?_of_block (a := ⟨W.heap.size, 0, none⟩) (setCell_other _ (W.heap.size + 1) 0 W.heap.size _ (by omega))]
          simp only [World.cell?, setCell_block d0]
          rfl
        · have := setCell_block ((setCell_other X W.heap.size 0 (W.heap.size + 1) (.string { data := s.toArray }) (by omega)).trans d1) 0 (.int .i64 0)
          simp only [World.cell?, this]
          rfl
      case done =>
        intro D X hD ho hX hK
        have hn : V.heap.size ≤ D := hD
        have d0 : X.heap[W.heap.size]? = some (.cells #[.string { data := #[] }] 9) := (hX.block _ (by omega)).trans g0
        have d1 : X.heap[W.heap.size + 1]? = some (.cells #[.int .i64 0] 23) := (hX.block _ (by omega)).trans g1
        have e0 : X.cell? ⟨W.heap.size, 0, none⟩ = some (.string { data := #[] }) := by simp only [World.cell?, d0]; rfl
        have e1 : X.cell? ⟨W.heap.size + 1, 0, none⟩ = some (.int .i64 0) := by simp only [World.cell?, d1]; rfl
        have f0 : X.frozen? ⟨W.heap.size, 0, none⟩ = false := by simp [World.frozen?, d0]
        have f1 : X.frozen? ⟨W.heap.size + 1, 0, none⟩ = false := by simp [World.frozen?, d1]
        have HX := HD.below hX
        obtain ⟨c0, c1, c2, c3, hf⟩ := HX.cells
        obtain ⟨s1, s2⟩ := HX.sector j hjl
        rw [ho] at hw
        obtain ⟨y, hy⟩ : ∃ y, S.firm.getD j [] = y := ⟨_, rfl⟩
        simp only [hy] at hw s1
        clear hy
        have HW := Lib.hid hw
        have HB : Below W.heap.size W X := vb.trans (hX.mono (by omega))
        clear hw ho
        gi_wp2
        refine leave_read (q := W.heap.size) (w := W) (r := y) (b := 0) (by omega) (by omega) ?_ ?_ ?_ ?_ rfl rfl ?_
        · rw [World.cell?_of_block (a := ⟨W.heap.size, 0, none⟩) (setCell_other _ (W.heap.size + 1) 0 W.heap.size _ (by omega))]
          simp only [World.cell?, setCell_block d0]
          rfl
        · have := setCell_block ((setCell_other X W.heap.size 0 (W.heap.size + 1) (.string { data := y.toArray }) (by omega)).trans d1) 0 (.int .i64 0)
          simp only [World.cell?, this]
          rfl
        · rw [setCell_other _ _ _ _ _ (by omega), setCell_other _ _ _ _ _ (by omega)]
          exact hK
        · repeat (first | exact Below.refl _ _ | refine Below.setCell ?_ (by first | (simp; done) | (simp; omega) | (simp [size_plus]; done) | (simp [size_plus]; omega)) _ | refine Below.alloc ?_ (by first | (simp; done) | (simp; omega) | (simp [size_plus]; done) | (simp [size_plus]; omega)) _ | refine Below.drew ?_ | refine Below.plus ?_ (by first | (simp; done) | (simp; omega) | (simp [size_plus]; done) | (simp [size_plus]; omega)) _)
          exact HB
        · intro w' hb
          rw [HW.out]
          exact ⟨rfl, hb⟩
      case stop =>
        intro D s X hD ho hX hK
        rw [ho] at hw
        gi_wp2
        refine leave_read (q := W.heap.size) (w := W) (r := s) (b := 0) (by omega) (by omega) hX.2.2.1 hX.2.2.2 hK hX.1 rfl rfl fun w' hb => ?_
        exact ⟨rfl, hb⟩
    · rw [decide_eq_false hi] at k25
      have hw : S.read i = ([], 1) := by unfold DS.read; rw [if_neg hd, if_pos hi]
      rw [hw]
      gi_wp2
      refine ⟨trivial, k25.mono ?_⟩
      rintro _ W2 ⟨rfl, hW2⟩
      rw [hW2]
      clear hW2 k25
      gi_wp2
      refine ⟨.tuple #[strV [], .int .i64 1], by simp [results, Try.results15, go_sem], rfl, ?_⟩
      repeat (first | exact Below.refl _ _ | refine Below.setCell ?_ (by first | (simp; done) | (simp; omega) | (simp [size_plus]; done) | (simp [size_plus]; omega)) _ | refine Below.alloc ?_ (by first | (simp; done) | (simp; omega) | (simp [size_plus]; done) | (simp [size_plus]; omega)) _ | refine Below.drew ?_ | refine Below.plus ?_ (by first | (simp; done) | (simp; omega) | (simp [size_plus]; done) | (simp [size_plus]; omega)) _)
end Go.Proofs.Ytojgfaichkcmpaa

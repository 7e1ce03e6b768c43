/- Walks: the loose writes of a sector, the first one told. -/
import Derived.Test.YtojgfaichkcmpaaRead1
namespace Go.Proofs.Ytojgfaichkcmpaa
open Go.RowKit Go.Shelf

attribute [local go_sem] Oper.semAt_some

theorem room_any {F : Fence} (hd : F.depth = none) (k : Nat) : F.room k := fun d h => by rw [hd] at h; cases h
theorem yield_any {F : Fence} (hd : F.depth = none) {m : Nat} (m' : Nat) {P : Program} {l : Nat} {args : Array Value} {W : World} {R : Ending → World → Prop} (h : YieldAt F m P l args W R) : YieldAt F m' P l args W R := by
  obtain ⟨fn, tmps, assign, body, hy, hR⟩ := h
  exact ⟨fn, tmps, assign, body, hy, hR.1, fun c cs _ => hR.2 c cs (room_any hd _)⟩
/-- The last loose write of a sector. -/
def lastN (l : List (Nat × List UInt8)) (i : Int) : Option (List UInt8) := (l.reverse.find? fun x => (x.1 : Int) == i).map (·.2)
theorem revs_reverse (L : List (Nat × List UInt8)) (k : Nat) (hk : k ≤ L.length) : (revs L k).map (·.2) = L.reverse.take k := by
  apply List.ext_getElem
  · simp [revs]; omega
  · intro j h1 h2
    simp only [List.length_map, revs_length] at h1
    simp only [revs, List.getElem_map, List.getElem_range, List.getElem_take, List.getElem_reverse]
    rw [List.getD_eq_getElem?_getD, List.getElem?_eq_getElem (by omega)]
    rfl
theorem lastN_none (L : List (Nat × List UInt8)) (i : Int) (h : ∀ x ∈ revs L L.length, ¬ ((x.2.1 : Nat) : Int) = i) : lastN L i = none := by
  have h1 := revs_reverse L L.length (Nat.le_refl _)
  rw [List.take_of_length_le (by simp)] at h1
  rw [lastN, ← h1, List.find?_eq_none.2]
  · rfl
  · intro x hx
    obtain ⟨y, hy, rfl⟩ := List.mem_map.1 hx
    simpa using h y hy
theorem lastN_some (L : List (Nat × List UInt8)) (i : Int) (k : Nat) (hk : k ≤ L.length) (pre0 : List (Nat × Nat × List UInt8)) (x : Nat × Nat × List UInt8) (he : pre0 ++ [x] = revs L k) (hx : ((x.2.1 : Nat) : Int) = i) (h : ∀ y ∈ pre0, ¬ ((y.2.1 : Nat) : Int) = i) : lastN L i = some x.2.2 := by
  have h1 := revs_reverse L k hk
  rw [← he] at h1
  rw [lastN, ← List.take_append_drop k L.reverse, ← h1, List.map_append, List.append_assoc, List.find?_append, List.find?_eq_none.2]
  · simp [hx]
  · intro z hz
    obtain ⟨y, hy, rfl⟩ := List.mem_map.1 hz
    simpa using h y hy
theorem put_below {B D : Nat} (W : World) (o : Obj) (h : B ≤ D) : Below B W (W.putObj D o) := ⟨rfl, rfl, rfl, by simp, fun j hj => World.putObj_heap_other (by omega)⟩
/-- What lay from B on lies as it lay. -/
def Above (B : Nat) (W W' : World) : Prop := W.heap.size ≤ W'.heap.size ∧ ∀ k o, B ≤ k → W.heap[k]? = some o → W'.heap[k]? = some o
set_option maxRecDepth 100000 in
set_option maxHeartbeats 4000000 in
theorem first_in (n : Nat) (hn : 6 ≤ n) (l p f bd bi : Nat) (i : Int) (lv : Value) (S : DS) (W : World) (h : DiskAt W p f lv S) (hbd : W.cell? ⟨bd, 0, none⟩ = some (ptr p)) (hbi : W.cell? ⟨bi, 0, none⟩ = some (.int .i64 i)) (hbl : bi < W.heap.size)
    (J0 : World → Prop) (Jx : List UInt8 → World → Prop) (hJ : ∀ A B, J0 A → Below W.heap.size A B → J0 B) (hJx : ∀ s A B, Jx s A → Below W.heap.size A B → Jx s B)
    (hY : ∀ W1 s, J0 W1 → Below W.heap.size W W1 → YieldAt Fence.wide (n - 1) Try.prog l #[strV s] W1 fun e W' => e = .returned (.bool false) ∧ Jx s W' ∧ Above W.heap.size W1 W')
    (h0 : J0 W) :
    CallsIn Fence.wide n Try.prog 41 #[.func (.yield l) #[] #[], ptr bd, ptr bi] W fun e W' => (∃ v, e = .returned v) ∧ ((lastN S.loose i = none ∧ J0 W') ∨ ∃ s, lastN S.loose i = some s ∧ Jx s W') := by
  have h1 : 1 ≤ n := by omega
  obtain ⟨c0, c1, c2, c3, hf⟩ := h.cells
  obtain ⟨A, z, rfl⟩ := h.form
  refine callsIn_of_wp_marks Try.func41 rfl trivial ?_ rfl
  simp only [Try.ntmps41, List.size_toArray, List.length_cons, List.length_nil, Nat.reduceAdd, Nat.reduceSub, Array.replicate_succ, Array.replicate_zero, List.push_toArray, List.append_toArray, List.nil_append, List.cons_append]
  have q1 : has W p := h.lt.1
  have q2 : has W bd := by
    unfold World.cell? at hbd
    unfold has
    cases hk : W.heap[bd]? with
    | none => simp [hk] at hbd
    | some o => exact (Array.getElem?_eq_some_iff.1 hk).1
  gi_wp2
  refine ⟨trivial, ?_⟩
  refine (back_call Fence.wide (n - 1) trivial rfl A S.loose.length z _).mono ?_
  rintro _ _ ⟨rfl, rfl⟩
  gi_wp2
  obtain ⟨W1, hW1⟩ : ∃ W1, (W.alloc (.cells #[.func (.yield l) #[] #[]] 83)).alloc (.cells #[.slice A S.loose.length z] 49) = W1 := ⟨_, rfl⟩
  have hs1 : W1.heap.size = W.heap.size + 2 := by rw [← hW1]; simp
  have hB1 : Below W.heap.size W W1 := by rw [← hW1]; repeat (first | exact Below.refl _ _ | refine Below.setCell ?_ (by first | (simp; done) | (simp; omega) | (simp [size_plus]; done) | (simp [size_plus]; omega)) _ | refine Below.alloc ?_ (by first | (simp; done) | (simp; omega) | (simp [size_plus]; done) | (simp [size_plus]; omega)) _ | refine Below.drew ?_ | refine Below.plus ?_ (by first | (simp; done) | (simp; omega) | (simp [size_plus]; done) | (simp [size_plus]; omega)) _)
  have hy1 : W1.cell? ⟨W.heap.size, 0, none⟩ = some (.func (.yield l) #[] #[]) := by
    rw [← hW1]
    simp only [World.cell?]
    rw [Below.heap_alloc _ _ _ (by simp), new_at]
    rfl
  have hR1 : RowAt W1 (W.heap.size + 1) (.slice A S.loose.length z) S.loose := by
    refine ⟨?_, (h.below hB1).hl⟩
    rw [← hW1]
    simp only [World.cell?]
    have := new_at (W.alloc (.cells #[.func (.yield l) #[] #[]] 83)) (.cells #[.slice A S.loose.length z] 49)
    simp only [World.size_alloc] at this
    rw [this]
    rfl
  have hbi1 : W1.cell? ⟨bi, 0, none⟩ = some (.int .i64 i) := (hB1.cell (p := ⟨bi, 0, none⟩) hbl).trans hbi
  have hJ1 := hJ W W1 h0 hB1
  rw [hW1]
  clear hW1 c0 c1 c2 c3 hf q1 q2 hbd hbi h0
  have hown : ∀ g, (Value.slice A S.loose.length z).ownBlock = some g → g < W1.heap.size := fun g hg => by
    obtain ⟨cur, h2⟩ := ownsRow_elem hR1.row hg
    exact (Array.getElem?_eq_some_iff.1 h2).1
  have hgrow : ∀ (X Y : World) (row : Option Nat), W1.heap.size ≤ X.heap.size → X.grownBy Y row → (∀ r, row = some r → W1.heap.size ≤ r ∧ ∃ o : Obj, X.heap[r]? = some o ∧ o.isCells = false) → Below W1.heap.size X Y := fun X Y row hX hg hr =>
    ⟨hg.os, hg.tape, hg.output, hg.size, fun k hk => hg.block k (by omega) (fun e => by have := (hr k e.symm).1; omega)⟩
  refine wpIn_rangeFunc_ownH rfl h1 (gf := 50) (lb := #[.pointer (some ⟨W.heap.size + 1, 0, none⟩)]) rfl trivial (enters_of Try.func50 (by kernel_rfl) rfl)
    (back_stops Fence.wide (n - 1) trivial rfl (by omega) (W.heap.size + 1) W1.heap.size (.slice A S.loose.length z) S.loose h.hm W1 (by omega) hown (Nat.le_refl _) hR1) belowK_t (belowK_b (Nat.le_refl _)) (Below.refl _ _) (fun _ => rfl)
    (fun pre W' => (∀ x ∈ pre, ¬ ((x.2.1 : Nat) : Int) = i) ∧ J0 W' ∧ Below W1.heap.size W1 W')
    (fun c pre W' => c = .ret ∧ (∃ pre0 x, pre = pre0 ++ [x] ∧ ((x.2.1 : Nat) : Int) = i ∧ (∀ y ∈ pre0, ¬ ((y.2.1 : Nat) : Int) = i) ∧ Jx x.2.2 W') ∧ W1.heap.size ≤ W'.heap.size)
    (fun s X Y row hs hg hr => ⟨hs.1, hJ X Y hs.2.1 ((hgrow X Y row hs.2.2.size hg hr).mono (by omega)), hs.2.2.trans (hgrow X Y row hs.2.2.size hg hr)⟩)
    (fun c s X Y row hs hg hr => by
      obtain ⟨rfl, ⟨pre0, x, h2, h3, h4, h5⟩, h6⟩ := hs
      exact ⟨rfl, ⟨pre0, x, h2, h3, h4, hJx _ X Y h5 ((hgrow X Y row h6 hg hr).mono (by omega))⟩, Nat.le_trans h6 hg.size⟩)
    ⟨fun x hx => (by cases hx), hJ1, Below.refl _ _⟩
    (fun x a' W' => ∃ Bx, W1.heap.size ≤ Bx ∧ W'.heap[Bx]? = some (.cells #[.int .i64 (x.2.1 : Int), strV x.2.2] 54) ∧ a' = { tmps := #[.func (.yield l) #[] #[], ptr bd, ptr bi, .pointer (some ⟨W.heap.size, 0, none⟩), undef, .pointer (some ⟨Bx, 0, none⟩), ptr p, .pointer (some ⟨p, 0, none⟩), .pointer (some ⟨p, 1, none⟩), .slice A S.loose.length z, .func (.func 50) #[] #[.pointer (some ⟨W.heap.size + 1, 0, none⟩)], .int .i64 (x.1 : Int), .agg #[.int .i64 (x.2.1 : Int), strV x.2.2], undef, undef, undef, undef, undef, undef, undef, undef, undef, undef, undef], defers := [] })
    (fun x a' _ X Y row hs hg hr => by
      obtain ⟨Bx, h2, h3, h4⟩ := hs
      refine ⟨Bx, h2, (hg.block Bx (Array.getElem?_eq_some_iff.1 h3).1 (fun e => ?_)).trans h3, h4⟩
      obtain ⟨_, o, ho, hc⟩ := hr Bx e.symm
      rw [h3] at ho
      cases ho
      cases hc)
    ?assign ?body ?done ?stop
  case assign =>
    rintro l2 pre x W2 K ⟨g1, g2, g3⟩ hK
    obtain ⟨k, a, b⟩ := x
    simp only [encW]
    gi_wp2
    refine hK _ _ ((KeepsOthers.alloc _ _).from _) ((Below.refl _ W2).alloc g3.size _) ⟨g1, hJ _ _ g2 ((Below.refl _ W2).alloc (by have := g3.size; omega) _), g3.alloc g3.size _⟩ ?_
    exact ⟨W2.heap.size, g3.size, new_at W2 _, rfl⟩
  case body =>
    rintro l2 pre x a' W2 hl2 ⟨r, hr⟩ ⟨g1, g2, g3⟩ ⟨Bx, hBx, hX, rfl⟩ hlt
    obtain ⟨k, a, b⟩ := x
    dsimp only at hX ⊢
    have hlW : W1.heap.size = W.heap.size + 2 := hs1
    have r0 : W2.cell? ⟨Bx, 0, none⟩ = some (.int .i64 (a : Int)) := by simp only [World.cell?, hX]; rfl
    have r1 : W2.cell? ⟨Bx, 1, none⟩ = some (strV b) := by simp only [World.cell?, hX]; rfl
    have ry : W2.cell? ⟨W.heap.size, 0, none⟩ = some (.func (.yield l) #[] #[]) := (g3.cell (p := ⟨W.heap.size, 0, none⟩) (show W.heap.size < W1.heap.size by omega)).trans hy1
    have rb : W2.cell? ⟨bi, 0, none⟩ = some (.int .i64 i) := (g3.cell (p := ⟨bi, 0, none⟩) (show bi < W1.heap.size by omega)).trans hbi1
    by_cases he : (a : Int) = i
    · obtain ⟨fn, tmps, assign, body, hy, hR⟩ := yield_any rfl (n - 1 - 1 - 1) (hY W2 b g2 (hB1.trans (g3.mono (by omega))))
      gi_wp2
      refine ⟨fun h => (by cases h), RoundIn.mono (F := Fence.wide.inRound l2) hR ?_⟩
      rintro _ W3 ⟨rfl, hJ3, hA3⟩
      dsimp only
      gi_wp2
      exact ⟨⟨hA3.1, fun k o hk ho _ => hA3.2 k o (by omega) ho⟩, rfl, ⟨pre, (k, i.toNat, b), by rw [← he]; rfl, by dsimp only; omega, g1, hJ3⟩, by have := hA3.1; have := g3.size; omega⟩
    · have hne : ((a : Int) == i) = false := by simp [he]
      gi_wp2
      refine ⟨fun f h => (by cases h), ?_⟩
      rename_i K3 hK3 _ _ _ _
      refine hK3 _ _ ?_
      gi_wp2
      refine ⟨KeepsFrom.refl _ _, Below.refl _ _, ?_, g2, g3⟩
      intro x hx
      rcases List.mem_append.1 hx with hx | hx
      · exact g1 x hx
      · obtain rfl := List.mem_singleton.1 hx
        exact he
  case done =>
    rintro D ys W2 hD rfl ⟨g1, g2, g3⟩ hK
    gi_wp2
    refine ⟨by simp, .inl ⟨_, _, rfl, run_takeDeferred hK, ?_⟩⟩
    exact ⟨.tuple #[], by simp [results, Try.results41, go_sem], ⟨_, rfl⟩, .inl ⟨lastN_none _ _ g1, hJ _ _ g2 (put_below _ _ (by omega))⟩⟩
  case stop =>
    rintro D c pre W2 hD hS ⟨rfl, ⟨pre0, x, h2, h3, h4, h5⟩, h6⟩ hK
    gi_wp2
    refine ⟨by simp, .inl ⟨_, _, rfl, run_takeDeferred hK, ?_⟩⟩
    obtain ⟨k, hk, rfl⟩ := hS
    exact ⟨.tuple #[], by simp [results, Try.results41, go_sem], ⟨_, rfl⟩, .inr ⟨_, lastN_some _ _ k hk pre0 x h2.symm h3 h4, hJx _ _ _ h5 (put_below _ _ (by omega))⟩⟩
end Go.Proofs.Ytojgfaichkcmpaa

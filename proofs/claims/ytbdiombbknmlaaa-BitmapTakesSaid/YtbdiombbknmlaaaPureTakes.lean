/- What is taken of free runs, and what is left (plain). -/
import Derived.Test.YtbdiombbknmlaaaTk2
namespace Go.Proofs.Ytbdiombbknmlaaa

theorem mem_places (l : List Run) (p : Int) : p ∈ placesN l ↔ cov l p := by
  simp only [placesN, List.mem_flatMap, placesOf, List.mem_map, List.mem_range, cov]
  constructor
  · rintro ⟨x, hx, i, hi, rfl⟩
    exact ⟨x, hx, by omega, by omega⟩
  · rintro ⟨x, hx, h1, h2⟩
    exact ⟨x, hx, (p - x.1).toNat, by omega, by omega⟩
theorem places_rise : ∀ (l : List Run), l.Pairwise (fun x y => x.1 + x.2 < y.1) → (∀ x ∈ l, 1 ≤ x.2) → (placesN l).Pairwise (· < ·)
  | [], _, _ => by simp [placesN]
  | x :: l, h, hp => by
    have h1 := List.pairwise_cons.1 h
    have ih := places_rise l h1.2 fun y hy => hp y (List.mem_cons_of_mem _ hy)
    have e : placesN (x :: l) = placesOf x ++ placesN l := by simp [placesN]
    rw [e, List.pairwise_append]
    refine ⟨?_, ih, ?_⟩
    · unfold placesOf
      rw [List.pairwise_map]
      exact (List.pairwise_lt_range).imp fun h => by omega
    · intro p hp1 q hq
      obtain ⟨y, hy, h2, h3⟩ := (mem_places l q).1 hq
      have h4 := h1.1 y hy
      simp only [placesOf, List.mem_map, List.mem_range] at hp1
      obtain ⟨i, hi, rfl⟩ := hp1
      omega
theorem rise_ext : ∀ (l m : List Int), l.Pairwise (· < ·) → m.Pairwise (· < ·) → (∀ x, x ∈ l ↔ x ∈ m) → l = m
  | [], [], _, _, _ => rfl
  | [], y :: m, _, _, h => by simpa using (h y).2 (by simp)
  | x :: l, [], _, _, h => by simpa using (h x).1 (by simp)
  | x :: l, y :: m, hl, hm, h => by
    have hl1 := List.pairwise_cons.1 hl
    have hm1 := List.pairwise_cons.1 hm
    have hxy : x = y := by
      rcases List.mem_cons.1 ((h x).1 (by simp)) with h1 | h1
      · exact h1
      · rcases List.mem_cons.1 ((h y).2 (by simp)) with h2 | h2
        · exact h2.symm
        · have := hl1.1 y h2
          have := hm1.1 x h1
          omega
    subst hxy
    congr 1
    refine rise_ext l m hl1.2 hm1.2 fun z => ?_
    constructor
    · intro hz
      rcases List.mem_cons.1 ((h z).1 (List.mem_cons_of_mem _ hz)) with h1 | h1
      · subst h1
        have := hl1.1 _ hz
        omega
      · exact h1
    · intro hz
      rcases List.mem_cons.1 ((h z).2 (List.mem_cons_of_mem _ hz)) with h1 | h1
      · subst h1
        have := hm1.1 _ hz
        omega
      · exact h1
theorem count_places (l : List Run) : countN l = ((placesN l).length : Int) := by
  induction l with
  | nil => rfl
  | cons x l ih =>
    have e : countN (x :: l) = max 0 x.2 + countN l := by simp [countN]
    have e2 : placesN (x :: l) = placesOf x ++ placesN l := by simp [placesN]
    rw [e, e2, ih, List.length_append]
    simp only [placesOf, List.length_map, List.length_range]
    omega
theorem placesOf_min (x : Run) (k : Nat) : placesOf (x.1, min (k : Int) x.2) = (placesOf x).take k := by
  simp only [placesOf]
  rw [← List.map_take, List.take_range]
  congr 2
  omega
theorem fold_take : ∀ (l : List Run) (s : List Run × Int) (k : Nat), (∀ x ∈ l, 1 ≤ x.2) → s.2 = k → placesN (l.foldl stepT s).1 = placesN s.1 ++ (placesN l).take k ∧ (l.foldl stepT s).2 = ((k - (placesN l).length : Nat) : Int)
  | [], s, k, _, h => by simp [placesN, h]
  | x :: l, s, k, hp, h => by
    have e : placesN (x :: l) = placesOf x ++ placesN l := by simp [placesN]
    have hl : (placesOf x).length = x.2.toNat := by simp [placesOf]
    have hx := hp x (by simp)
    rw [List.foldl_cons, e, List.take_append]
    by_cases h1 : s.2 < 1
    · have e1 : stepT s x = s := if_pos h1
      rw [e1, takeT_stop l s h1]
      obtain rfl : k = 0 := by omega
      simp [h]
    · have e1 : stepT s x = (s.1 ++ [(x.1, min s.2 x.2)], s.2 - min s.2 x.2) := if_neg h1
      obtain ⟨i1, i2⟩ := fold_take l (s.1 ++ [(x.1, min s.2 x.2)], s.2 - min s.2 x.2) (k - x.2.toNat) (fun y hy => hp y (List.mem_cons_of_mem _ hy)) (by simp only; omega)
      rw [e1, i1, i2, hl, List.length_append, hl]
      refine ⟨?_, by omega⟩
      have e3 : placesN (s.1 ++ [(x.1, min s.2 x.2)]) = placesN s.1 ++ placesOf (x.1, min s.2 x.2) := by simp [placesN]
      simp only [e3]
      rw [h, placesOf_min, List.append_assoc]
theorem take_places (l : List Run) (n : Nat) (hp : ∀ x ∈ l, 1 ≤ x.2) : placesN (takeS l n).1 = (placesN l).take n ∧ (takeS l n).2 = ((n - (placesN l).length : Nat) : Int) := by
  have h := fold_take l ([], (n : Int)) n hp rfl
  rw [show placesN ([] : List Run) = [] from rfl, List.nil_append] at h
  exact h
theorem cov_append (U V : List Run) (p : Int) : cov (U ++ V) p ↔ cov U p ∨ cov V p := by
  constructor
  · rintro ⟨x, hx, h⟩
    rcases List.mem_append.1 hx with h1 | h1
    · exact .inl ⟨x, h1, h⟩
    · exact .inr ⟨x, h1, h⟩
  · rintro (⟨x, hx, h⟩ | ⟨x, hx, h⟩)
    · exact ⟨x, List.mem_append_left _ hx, h⟩
    · exact ⟨x, List.mem_append_right _ hx, h⟩
theorem Free.covIn {a b : Int} {U FL : List Run} (h : Free a b U FL) (p : Int) : cov FL p ↔ a ≤ p ∧ p < b ∧ ¬ cov U p := by
  constructor
  · intro hc
    obtain ⟨x, hx, h1, h2⟩ := hc
    have h3 := h.ok x hx
    exact ⟨by omega, by omega, (h.parts p (by omega) (by omega)).1 ⟨x, hx, h1, h2⟩⟩
  · rintro ⟨h1, h2, h3⟩
    exact (h.parts p h1 h2).2 h3
theorem Free.rises {a b : Int} {U FL : List Run} (h : Free a b U FL) : (placesN FL).Pairwise (· < ·) := places_rise FL h.apart fun x hx => (h.ok x hx).1
theorem left_places {a b : Int} {U FL V LEFT : List Run} {n : Nat} (hF : Free a b U FL) (hV : placesN V = (placesN FL).take n) (hL : Free a b (U ++ V) LEFT) : placesN LEFT = (placesN FL).drop n := by
  refine rise_ext _ _ hL.rises (hF.rises.sublist (List.drop_sublist _ _)) fun p => ?_
  have hr := hF.rises
  rw [← List.take_append_drop n (placesN FL), List.pairwise_append] at hr
  have hcv : cov V p ↔ p ∈ (placesN FL).take n := by rw [← hV, mem_places]
  have hcf : cov FL p ↔ p ∈ (placesN FL).take n ∨ p ∈ (placesN FL).drop n := by
    rw [← mem_places, ← List.mem_append, List.take_append_drop]
  have hf := hF.covIn p
  rw [mem_places, hL.covIn p, cov_append, hcv]
  rw [hcf] at hf
  constructor
  · rintro ⟨h1, h2, h3⟩
    rcases hf.2 ⟨h1, h2, fun h => h3 (.inl h)⟩ with h4 | h4
    · exact absurd (.inr h4) h3
    · exact h4
  · intro h4
    obtain ⟨h1, h2, h3⟩ := hf.1 (.inr h4)
    refine ⟨h1, h2, fun h5 => ?_⟩
    rcases h5 with h5 | h5
    · exact h3 h5
    · have := hr.2.2 p h5 p h4
      omega
theorem Free.some {U FL : List Run} (h : Free 0 300 U FL) (hU : Tiny U) : 0 < (placesN FL).length := by
  have h1 : cov FL 299 := (h.covIn 299).2 ⟨by omega, by omega, fun ⟨x, hx, h2, h3⟩ => by have := hU x hx; omega⟩
  have h2 := (mem_places FL 299).2 h1
  exact List.length_pos_of_mem h2
theorem rise_len : ∀ (l : List Int) (a b : Int), l.Pairwise (· < ·) → (∀ x ∈ l, a ≤ x ∧ x < b) → l.length ≤ (b - a).toNat
  | [], _, _, _, _ => by simp
  | x :: l, a, b, h, hx => by
    have h1 := List.pairwise_cons.1 h
    have h2 := hx x (by simp)
    have ih := rise_len l (x + 1) b h1.2 fun y hy => ⟨by have := h1.1 y hy; omega, (hx y (List.mem_cons_of_mem _ hy)).2⟩
    simp only [List.length_cons]
    omega
theorem Free.most {U FL : List Run} (h : Free 0 300 U FL) : (placesN FL).length ≤ 300 := by
  have h2 := rise_len (placesN FL) 0 300 h.rises fun p hp => by
    obtain ⟨h3, h4, _⟩ := (h.covIn p).1 ((mem_places FL p).1 hp)
    exact ⟨h3, h4⟩
  simpa using h2
theorem realN_free {a b : Int} {U FL : List Run} (h : Free a b U FL) : realN FL = FL := List.filter_eq_self.2 fun x hx => by have := h.ok x hx; simp; omega
theorem fits_law (FL : List Run) (n : Nat) (hp : ∀ x ∈ FL, 1 ≤ x.2) : fitsN FL n = decide ((n : Int) ≤ countN FL) := by
  unfold fitsN
  rw [(take_places FL n hp).2, count_places]
  exact decide_eq_decide.2 (by omega)
theorem took_fits (FL : List Run) (n : Nat) (h : fitsN FL n = true) : tookN FL n = (takeS FL n).1 := if_pos (by simpa [fitsN] using h)
theorem took_not (FL : List Run) (n : Nat) (h : fitsN FL n = false) : tookN FL n = [] := if_neg (by simpa [fitsN] using h)
end Go.Proofs.Ytbdiombbknmlaaa

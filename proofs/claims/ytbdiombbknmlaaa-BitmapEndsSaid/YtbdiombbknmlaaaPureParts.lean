/- What is free, in plain words. -/
import Derived.Test.YtbdiombbknmlaaaBm5
namespace Go.Proofs.Ytbdiombbknmlaaa

def cov (l : List Run) (p : Int) : Prop := ∃ x ∈ l, x.1 ≤ p ∧ p < x.1 + x.2
theorem cov_nil (p : Int) : ¬ cov [] p := fun ⟨_, h, _⟩ => by cases h
theorem cov_snoc (l : List Run) (x : Run) (p : Int) : cov (l ++ [x]) p ↔ cov l p ∨ (x.1 ≤ p ∧ p < x.1 + x.2) := by
  constructor
  · rintro ⟨y, hy, h⟩
    rcases List.mem_append.1 hy with h1 | h1
    · exact .inl ⟨y, h1, h⟩
    · simp only [List.mem_singleton] at h1
      subst h1
      exact .inr h
  · rintro (⟨y, hy, h⟩ | h)
    · exact ⟨y, List.mem_append_left _ hy, h⟩
    · exact ⟨x, by simp, h⟩
theorem cov_real (l l' : List Run) (h : l'.Perm (realN l)) (p : Int) : cov l' p ↔ cov l p := by
  constructor
  · rintro ⟨y, hy, h1⟩
    exact ⟨y, (List.mem_filter.1 (h.mem_iff.1 hy)).1, h1⟩
  · rintro ⟨y, hy, h1⟩
    exact ⟨y, h.mem_iff.2 (List.mem_filter.2 ⟨hy, by simp; omega⟩), h1⟩
structure Inv (a b : Int) (m : List Run) (out : List Run) (at_ : Int) : Prop where
  lo : a ≤ at_
  ends : ∀ x ∈ m, x.1 + x.2 ≤ at_
  ok : ∀ y ∈ out, 1 ≤ y.2 ∧ a ≤ y.1 ∧ y.1 + y.2 ≤ b
  before : ∀ y ∈ out, y.1 + y.2 < at_ ∧ ∃ z ∈ m, y.1 + y.2 ≤ z.1
  apart : out.Pairwise fun y z => y.1 + y.2 < z.1
  parts : ∀ p, a ≤ p → p < at_ → p < b → (cov out p ↔ ¬ cov m p)
theorem Inv.start (a b : Int) : Inv a b [] [] a := ⟨by omega, by simp, by simp, by simp, by simp, fun p h1 h2 _ => by omega⟩
theorem Inv.notBehind {a b at_ : Int} {m out : List Run} (h : Inv a b m out at_) (p : Int) (hp : at_ ≤ p) : ¬ cov m p ∧ ¬ cov out p :=
  ⟨fun ⟨x, hx, h1⟩ => by have := h.ends x hx; omega, fun ⟨y, hy, h1⟩ => by have := (h.before y hy).1; omega⟩
/-- A step, but for what must lie before. -/
theorem step_parts {a b at_ : Int} {m out : List Run} (h : Inv a b m out at_) (x : Run) (hs : ∀ z ∈ m, z.1 ≤ x.1) :
    (∀ y ∈ (stepF b (out, at_) x).1, 1 ≤ y.2 ∧ a ≤ y.1 ∧ y.1 + y.2 ≤ b) ∧ (stepF b (out, at_) x).1.Pairwise (fun y z => y.1 + y.2 < z.1) ∧
    ∀ p, a ≤ p → p < (stepF b (out, at_) x).2 → p < b → (cov (stepF b (out, at_) x).1 p ↔ ¬ cov (m ++ [x]) p) := by
  have hlo := h.lo
  unfold stepF
  simp only
  by_cases hp : 0 < min x.1 b - at_
  · rw [if_pos hp]
    refine ⟨fun y hy => ?_, ?_, fun p h1 h2 h3 => ?_⟩
    · rcases List.mem_append.1 hy with h1 | h1
      · exact h.ok y h1
      · simp only [List.mem_singleton] at h1
        subst h1
        simp only
        omega
    · rw [List.pairwise_append]
      refine ⟨h.apart, by simp, fun y hy z hz => ?_⟩
      simp only [List.mem_singleton] at hz
      subst hz
      exact (h.before y hy).1
    · rw [cov_snoc, cov_snoc]
      simp only
      rcases Int.lt_or_le p at_ with h4 | h4
      · have h5 := h.parts p h1 h4 h3
        constructor
        · rintro (h6 | h6)
          · rintro (h7 | h7)
            · exact h5.1 h6 h7
            · obtain ⟨y, hy, h8⟩ := h6
              obtain ⟨-, z, hz, h9⟩ := h.before y hy
              have := hs z hz
              omega
          · omega
        · intro h6
          exact .inl (h5.2 fun h7 => h6 (.inl h7))
      · obtain ⟨h5, h6⟩ := h.notBehind p h4
        constructor
        · rintro (h7 | h7)
          · exact absurd h7 h6
          · rintro (h8 | h8)
            · exact h5 h8
            · omega
        · intro h7
          refine .inr ⟨h4, ?_⟩
          have : ¬ (x.1 ≤ p ∧ p < x.1 + x.2) := fun h8 => h7 (.inr h8)
          omega
  · rw [if_neg hp]
    refine ⟨h.ok, h.apart, fun p h1 h2 h3 => ?_⟩
    rw [cov_snoc]
    rcases Int.lt_or_le p at_ with h4 | h4
    · have h5 := h.parts p h1 h4 h3
      constructor
      · intro h6
        rintro (h7 | h7)
        · exact h5.1 h6 h7
        · obtain ⟨y, hy, h8⟩ := h6
          obtain ⟨-, z, hz, h9⟩ := h.before y hy
          have := hs z hz
          omega
      · intro h6
        exact h5.2 fun h7 => h6 (.inl h7)
    · obtain ⟨h5, h6⟩ := h.notBehind p h4
      constructor
      · intro h7
        exact absurd h7 h6
      · intro h7
        exfalso
        apply h7
        right
        omega
theorem Inv.step {a b at_ : Int} {m out : List Run} (h : Inv a b m out at_) (x : Run) (hs : ∀ z ∈ m, z.1 ≤ x.1) (hx : 1 ≤ x.2) : Inv a b (m ++ [x]) (stepF b (out, at_) x).1 (stepF b (out, at_) x).2 := by
  obtain ⟨h1, h2, h3⟩ := step_parts h x hs
  have hlo := h.lo
  refine ⟨by simp only [stepF]; omega, fun y hy => ?_, h1, fun y hy => ?_, h2, h3⟩
  · simp only [stepF]
    rcases List.mem_append.1 hy with h4 | h4
    · have := h.ends y h4
      omega
    · simp only [List.mem_singleton] at h4
      subst h4
      omega
  · simp only [stepF] at hy ⊢
    split at hy
    · rcases List.mem_append.1 hy with h4 | h4
      · obtain ⟨h5, z, hz, h6⟩ := h.before y h4
        exact ⟨by omega, z, List.mem_append_left _ hz, h6⟩
      · simp only [List.mem_singleton] at h4
        subst h4
        exact ⟨by simp only; omega, x, by simp, by simp only; omega⟩
    · obtain ⟨h5, z, hz, h6⟩ := h.before y hy
      exact ⟨by omega, z, List.mem_append_left _ hz, h6⟩
theorem Inv.all (a b : Int) : ∀ (l m out : List Run) (at_ : Int), Inv a b m out at_ → (m ++ l).Pairwise (fun x y => x.1 ≤ y.1) → (∀ x ∈ l, 1 ≤ x.2) → Inv a b (m ++ l) (l.foldl (stepF b) (out, at_)).1 (l.foldl (stepF b) (out, at_)).2
  | [], m, out, at_, h, _, _ => by simpa using h
  | x :: l, m, out, at_, h, hp, hx => by
    have e : m ++ x :: l = (m ++ [x]) ++ l := by simp
    rw [e] at hp ⊢
    have h1 := h.step x (fun z hz => (List.pairwise_append.1 (List.pairwise_append.1 hp).1).2.2 z hz x (by simp)) (hx x (by simp))
    exact Inv.all a b l (m ++ [x]) _ _ h1 hp (fun y hy => hx y (List.mem_cons_of_mem _ hy))
/-- What is free. -/
structure Free (a b : Int) (U fl : List Run) : Prop where
  ok : ∀ y ∈ fl, 1 ≤ y.2 ∧ a ≤ y.1 ∧ y.1 + y.2 ≤ b
  apart : fl.Pairwise fun y z => y.1 + y.2 < z.1
  parts : ∀ p, a ≤ p → p < b → (cov fl p ↔ ¬ cov U p)
theorem free_law (a b : Int) (U l' : List Run) (hab : a ≤ b) (hp : l'.Perm (realN U)) (hs : l'.Pairwise fun x y => x.1 ≤ y.1) : Free a b U (freeS (l' ++ [(max a b, 0)]) a b).1 := by
  have hpos : ∀ x ∈ l', 1 ≤ x.2 := fun x hx => by simpa using (List.mem_filter.1 (hp.mem_iff.1 hx)).2
  have hI := Inv.all a b l' [] [] a (Inv.start a b) (by simpa using hs) hpos
  rw [List.nil_append] at hI
  rw [freeS_snoc, show max a b = b by omega]
  obtain ⟨⟨out, at_⟩, hst⟩ : ∃ s, freeS l' a b = s := ⟨_, rfl⟩
  have hst' : l'.foldl (stepF b) ([], a) = (out, at_) := hst
  rw [hst'] at hI
  rw [hst]
  simp only at hI
  have hlo := hI.lo
  by_cases hgt : 0 < min b b - at_
  · have e : (stepF b (out, at_) (b, 0)).1 = out ++ [(at_, b - at_)] := by simp only [stepF]; rw [if_pos hgt, Int.min_self]
    rw [e]
    have hba : at_ < b := by omega
    refine ⟨fun y hy => ?_, ?_, fun p h1 h2 => ?_⟩
    · rcases List.mem_append.1 hy with h3 | h3
      · exact hI.ok y h3
      · simp only [List.mem_singleton] at h3
        subst h3
        simp only
        omega
    · rw [List.pairwise_append]
      refine ⟨hI.apart, by simp, fun y hy z hz => ?_⟩
      simp only [List.mem_singleton] at hz
      subst hz
      exact (hI.before y hy).1
    · rw [cov_snoc, ← cov_real U l' hp]
      simp only
      rcases Int.lt_or_le p at_ with h4 | h4
      · have h5 := hI.parts p h1 h4 h2
        constructor
        · rintro (h6 | h6)
          · exact h5.1 h6
          · omega
        · exact fun h6 => .inl (h5.2 h6)
      · exact ⟨fun _ => (hI.notBehind p h4).1, fun _ => .inr ⟨h4, by omega⟩⟩
  · have e : (stepF b (out, at_) (b, 0)).1 = out := by simp only [stepF]; rw [if_neg hgt]
    rw [e]
    refine ⟨hI.ok, hI.apart, fun p h1 h2 => ?_⟩
    rw [← cov_real U l' hp]
    exact hI.parts p h1 (by omega) h2
end Go.Proofs.Ytbdiombbknmlaaa

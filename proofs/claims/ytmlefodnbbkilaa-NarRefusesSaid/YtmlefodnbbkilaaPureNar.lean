/- Nodes in a row and trees (plain): which rows are trees. -/
import Derived.Test.YtmlefodnbbkilaaPureTree
namespace Go.Proofs.Ytmlefodnbbkilaa
abbrev Nd := Bs × Int × Bs
def mayNodeN (x : Nd) : Bool :=
  if x.2.1 = 1 ∨ x.2.1 = 2 then decide (x.2.2.length ≤ 65536) else if x.2.1 = 3 then !x.2.2.isEmpty && decide (x.2.2.length ≤ 4096) && !x.2.2.contains 0 else if x.2.1 = 4 then x.2.2.isEmpty else false
/-- A path at its last name. -/
def cutN : Bs → Option (Bs × Bs)
  | [] => none
  | c :: r => match cutN r with
    | some (a, b) => some (c :: a, b)
    | none => if c = 47 then some ([], r) else none
theorem cutN_none : ∀ (p : Bs), cutN p = none ↔ (47 : UInt8) ∉ p
  | [] => by simp [cutN]
  | c :: r => by
    unfold cutN
    have ih := cutN_none r
    cases h : cutN r with
    | some q =>
      have : (47 : UInt8) ∈ r := by
        rcases Classical.em ((47 : UInt8) ∈ r) with h2 | h2
        · exact h2
        · rw [ih.2 h2] at h; cases h
      simp [this]
    | none =>
      have h2 := ih.1 h
      by_cases hc : c = 47
      · simp [hc]
      · have : ¬ (47 : UInt8) = c := fun e => hc e.symm
        simp [hc, h2, this]
theorem cutN_some : ∀ (p a b : Bs), cutN p = some (a, b) ↔ (p = a ++ 47 :: b ∧ (47 : UInt8) ∉ b)
  | [], a, b => by simp [cutN]
  | c :: r, a, b => by
    unfold cutN
    cases h : cutN r with
    | some q =>
      obtain ⟨x, y⟩ := q
      have ih := (cutN_some r x y).1 h
      simp only [Option.some.injEq, Prod.mk.injEq]
      constructor
      · rintro ⟨rfl, rfl⟩
        exact ⟨by rw [ih.1]; rfl, ih.2⟩
      · rintro ⟨h1, h2⟩
        cases a with
        | nil =>
          simp only [List.nil_append, List.cons.injEq] at h1
          exact absurd (by rw [← h1.2, ih.1]; simp) h2
        | cons d a =>
          simp only [List.cons_append, List.cons.injEq] at h1
          have := (cutN_some r a b).2 ⟨h1.2, h2⟩
          rw [this] at h
          simp only [Option.some.injEq, Prod.mk.injEq] at h
          exact ⟨by rw [h1.1, h.1], h.2.symm⟩
    | none =>
      have hn := (cutN_none r).1 h
      dsimp only
      constructor
      · intro h1
        by_cases hc : c = 47
        · rw [if_pos hc] at h1
          simp only [Option.some.injEq, Prod.mk.injEq] at h1
          obtain ⟨rfl, rfl⟩ := h1
          exact ⟨by simp [hc], hn⟩
        · rw [if_neg hc] at h1; cases h1
      · rintro ⟨h1, h2⟩
        cases a with
        | nil =>
          simp only [List.nil_append, List.cons.injEq] at h1
          obtain ⟨rfl, rfl⟩ := h1
          simp
        | cons d a =>
          simp only [List.cons_append, List.cons.injEq] at h1
          exact absurd (by rw [h1.2]; simp) hn
/-- A path's parent and its last name; none: it begins at its separator. -/
def parentN (p : Bs) : Option (Bs × Bs) := match cutN p with
  | none => some ([], p)
  | some (a, b) => if a = [] then none else some (a, b)
abbrev Lv := Bs × Bs
def stepN (op : List Lv) (x : Nd) : Option (List Lv) := match parentN x.1 with
  | none => none
  | some (pa, nm) =>
    if op.findIdx (fun y => y.1 == pa) < op.length ∧ mayNameN nm = true ∧ ltB (op.getD (op.findIdx (fun y => y.1 == pa)) ([], [])).2 nm = true ∧ op.findIdx (fun y => y.1 == pa) < 64 then
      some (op.take (op.findIdx (fun y => y.1 == pa)) ++ (pa, nm) :: (if x.2.1 = 4 then [(x.1, [])] else [])) else none
def runN : List Lv → List Nd → Bool
  | _, [] => true
  | op, x :: l => match stepN op x with
    | none => false
    | some o => runN o l
def mayN : List Nd → Bool
  | [] => false
  | x :: r => decide (r.length < 256) && x.1.isEmpty && (x :: r).all mayNodeN && runN (if x.2.1 = 4 then [([], [])] else []) r
def joinP (p nm : Bs) : Bs := if p.isEmpty then nm else p ++ 47 :: nm
mutual
def nodesT (path : Bs) : Tr → List Nd
  | .file d => [(path, 1, d)]
  | .exec d => [(path, 2, d)]
  | .link d => [(path, 3, d)]
  | .dir f => (path, 4, []) :: nodesF path f
def nodesF (path : Bs) : Fo → List Nd
  | .nil => []
  | .cons nm t f => nodesT (joinP path nm) t ++ nodesF path f
end
theorem mayName_no {nm : Bs} (h : mayNameN nm = true) : nm ≠ [] ∧ (47 : UInt8) ∉ nm ∧ (0 : UInt8) ∉ nm ∧ nm.length ≤ 255 := by
  simp only [mayNameN, Bool.and_eq_true, Bool.not_eq_true', decide_eq_true_eq] at h
  obtain ⟨⟨⟨⟨⟨h1, h2⟩, h3⟩, h4⟩, -⟩, -⟩ := h
  refine ⟨fun e => by simp [e] at h1, fun e => ?_, fun e => ?_, h2⟩
  · rw [List.contains_iff_mem.2 e] at h4; cases h4
  · rw [List.contains_iff_mem.2 e] at h3; cases h3
theorem parent_join {p nm : Bs} (h : (47 : UInt8) ∉ nm) : parentN (joinP p nm) = some (p, nm) := by
  unfold parentN joinP
  by_cases hp : p = []
  · subst hp
    simp [(cutN_none nm).2 h]
  · have : p.isEmpty = false := by cases p <;> simp_all
    rw [this]
    simp only [Bool.false_eq_true, if_false]
    rw [(cutN_some _ p nm).2 ⟨rfl, h⟩]
    simp [hp]
theorem join_parent {q p nm : Bs} (h : parentN q = some (p, nm)) : q = joinP p nm ∧ (47 : UInt8) ∉ nm := by
  unfold parentN at h
  cases hc : cutN q with
  | none =>
    rw [hc] at h
    simp only [Option.some.injEq, Prod.mk.injEq] at h
    obtain ⟨rfl, rfl⟩ := h
    exact ⟨by simp [joinP], (cutN_none _).1 hc⟩
  | some r =>
    obtain ⟨a, b⟩ := r
    rw [hc] at h
    dsimp only at h
    split at h
    · cases h
    rename_i ha
    simp only [Option.some.injEq, Prod.mk.injEq] at h
    obtain ⟨rfl, rfl⟩ := h
    have := (cutN_some _ _ _).1 hc
    refine ⟨?_, this.2⟩
    have he : a.isEmpty = false := by cases a <;> simp_all
    rw [this.1]
    simp [joinP, he]
/-! The directories that are open, the deepest first. -/
def pth : List Bs → Bs
  | [] => []
  | n :: r => joinP (pth r) n
def stR : List Bs → Bs → List Lv
  | [], last => [([], last)]
  | n :: r, last => stR r n ++ [(pth (n :: r), last)]
theorem stR_len : ∀ (rn : List Bs) (last : Bs), (stR rn last).length = rn.length + 1
  | [], _ => rfl
  | n :: r, _ => by simp [stR, stR_len r]
theorem join_long {p nm : Bs} (h : nm ≠ []) : p.length < (joinP p nm).length := by
  have h0 : 0 < nm.length := List.length_pos_iff.2 h
  unfold joinP
  split
  · rename_i hp
    have : p = [] := by simpa using hp
    subst this
    simpa using h0
  · simp
theorem stR_short : ∀ (rn : List Bs) (last : Bs), (∀ n ∈ rn, n ≠ []) → ∀ e ∈ stR rn last, e.1.length ≤ (pth rn).length
  | [], last, _, e, he => by simp [stR] at he; simp [he, pth]
  | n :: r, last, h, e, he => by
    simp only [stR, List.mem_append, List.mem_singleton] at he
    have hj : (pth r).length < (pth (n :: r)).length := join_long (h n (by simp))
    rcases he with he | rfl
    · have := stR_short r n (fun m hm => h m (List.mem_cons_of_mem _ hm)) e he
      omega
    · exact Nat.le_refl _
theorem stR_init : ∀ (rn : List Bs) (last : Bs), ∃ l, stR rn last = l ++ [(pth rn, last)] ∧ l.length = rn.length ∧ (∀ last', stR rn last' = l ++ [(pth rn, last')])
  | [], last => ⟨[], rfl, rfl, fun _ => rfl⟩
  | n :: r, last => ⟨stR r n, rfl, by rw [stR_len]; simp, fun _ => rfl⟩
theorem findIdx_at (l : List Lv) (x : Lv) (r : List Lv) (q : Lv → Bool) (h : ∀ y ∈ l, q y = false) (hx : q x = true) : (l ++ x :: r).findIdx q = l.length := by
  induction l with
  | nil => simp [List.findIdx_cons, hx]
  | cons a l ih => simp [List.findIdx_cons, h a (by simp), ih fun y hy => h y (by simp [hy])]
theorem stR_find (rn : List Bs) (last : Bs) (junk : List Lv) (h : ∀ n ∈ rn, n ≠ []) : (stR rn last ++ junk).findIdx (fun y => y.1 == pth rn) = rn.length := by
  obtain ⟨l, h1, h2, -⟩ := stR_init rn last
  rw [h1, List.append_assoc, List.singleton_append, findIdx_at, h2]
  · intro y hy
    have hs : ∀ e ∈ l, e.1.length < (pth rn).length := by
      cases rn with
      | nil => intro e he; have : l = [] := List.length_eq_zero_iff.1 h2; rw [this] at he; cases he
      | cons n r =>
        intro e he
        have hl : l = stR r n := by
          have : stR (n :: r) last = stR r n ++ [(pth (n :: r), last)] := rfl
          rw [this] at h1
          exact ((List.append_inj' h1 rfl).1).symm
        rw [hl] at he
        have := stR_short r n (fun m hm => h m (List.mem_cons_of_mem _ hm)) e he
        have hj : (pth r).length < (pth (n :: r)).length := join_long (h n (by simp))
        omega
    have := hs y hy
    simp only [beq_eq_false_iff_ne, ne_eq]
    intro e
    rw [e] at this
    omega
  · simp
theorem step_at (rn : List Bs) (last : Bs) (junk : List Lv) (h : ∀ n ∈ rn, n ≠ []) (nm : Bs) (k : Int) (d : Bs) (h1 : mayNameN nm = true) (h2 : ltB last nm = true) (h3 : rn.length < 64) :
    stepN (stR rn last ++ junk) (joinP (pth rn) nm, k, d) = some (stR rn nm ++ (if k = 4 then [(joinP (pth rn) nm, [])] else [])) := by
  unfold stepN
  rw [parent_join (mayName_no h1).2.1]
  dsimp only
  rw [stR_find rn last junk h]
  obtain ⟨l, e1, e2, e3⟩ := stR_init rn last
  rw [if_pos]
  · rw [e3 nm, e1]
    rw [List.append_assoc, List.take_append_of_le_length (by omega), ← e2, List.take_length]
    simp
  · refine ⟨by rw [List.length_append, stR_len]; omega, h1, ?_, h3⟩
    rw [e1]
    have : ((l ++ [(pth rn, last)] ++ junk).getD rn.length ([], [])) = (pth rn, last) := by
      rw [List.append_assoc, List.getD_eq_getElem?_getD, List.getElem?_append_right (by omega)]
      simp [e2]
    rw [this]
    exact h2
mutual
theorem run_T : ∀ (t : Tr) (rn : List Bs) (last nm : Bs) (junk : List Lv) (rest : List Nd), okT (rn.length + 1) t → (∀ n ∈ rn, n ≠ []) → mayNameN nm = true → ltB last nm = true → rn.length < 64 →
    ∃ junk', runN (stR rn last ++ junk) (nodesT (joinP (pth rn) nm) t ++ rest) = runN (stR rn nm ++ junk') rest
  | .file d, rn, last, nm, junk, rest, ok, hn, h1, h2, h3 => ⟨[], by
    simp only [nodesT, List.singleton_append, runN]
    rw [step_at rn last junk hn nm 1 d h1 h2 h3]
    simp⟩
  | .exec d, rn, last, nm, junk, rest, ok, hn, h1, h2, h3 => ⟨[], by
    simp only [nodesT, List.singleton_append, runN]
    rw [step_at rn last junk hn nm 2 d h1 h2 h3]
    simp⟩
  | .link d, rn, last, nm, junk, rest, ok, hn, h1, h2, h3 => ⟨[], by
    simp only [nodesT, List.singleton_append, runN]
    rw [step_at rn last junk hn nm 3 d h1 h2 h3]
    simp⟩
  | .dir f, rn, last, nm, junk, rest, ok, hn, h1, h2, h3 => by
    simp only [okT] at ok
    obtain ⟨last', junk', e⟩ := run_F f (nm :: rn) [] [] rest ok (by intro m hm; rcases List.mem_cons.1 hm with rfl | hm; exact (mayName_no h1).1; exact hn m hm)
    refine ⟨(pth (nm :: rn), last') :: junk', ?_⟩
    simp only [nodesT, List.cons_append, runN]
    rw [step_at rn last junk hn nm 4 [] h1 h2 h3]
    simp only [if_true]
    rw [List.append_nil] at e
    have e2 : stR (nm :: rn) [] = stR rn nm ++ [(joinP (pth rn) nm, [])] := rfl
    rw [← e2]
    have e3 : stR (nm :: rn) last' ++ junk' = stR rn nm ++ (pth (nm :: rn), last') :: junk' := by simp [stR]
    rw [← e3]
    exact e
theorem run_F : ∀ (f : Fo) (rn : List Bs) (last : Bs) (junk : List Lv) (rest : List Nd), okF rn.length last f → (∀ n ∈ rn, n ≠ []) →
    ∃ last' junk', runN (stR rn last ++ junk) (nodesF (pth rn) f ++ rest) = runN (stR rn last' ++ junk') rest
  | .nil, rn, last, junk, rest, ok, hn => ⟨last, junk, rfl⟩
  | .cons nm t f, rn, last, junk, rest, ok, hn => by
    simp only [okF] at ok
    obtain ⟨h1, h2, h3, h4, h5⟩ := ok
    obtain ⟨j1, e1⟩ := run_T t rn last nm junk (nodesF (pth rn) f ++ rest) h4 hn h1 h2 h3
    obtain ⟨l2, j2, e2⟩ := run_F f rn nm j1 rest h5 hn
    refine ⟨l2, j2, ?_⟩
    simp only [nodesF, List.append_assoc]
    rw [e1, e2]
end
mutual
theorem may_T : ∀ (t : Tr) (deep : Nat) (p : Bs), okT deep t → (nodesT p t).all mayNodeN = true
  | .file d, deep, p, ok => by simp only [okT] at ok; simp [nodesT, mayNodeN, ok]
  | .exec d, deep, p, ok => by simp only [okT] at ok; simp [nodesT, mayNodeN, ok]
  | .link d, deep, p, ok => by
    simp only [okT] at ok
    obtain ⟨h1, h2, h3⟩ := ok
    have : d.isEmpty = false := by cases d <;> simp_all
    simp [nodesT, mayNodeN, h2, this]
    simpa using h3
  | .dir f, deep, p, ok => by
    simp only [okT] at ok
    have := may_F f deep [] p ok
    simp only [nodesT, List.all_cons, this, Bool.and_true]
    rfl
theorem may_F : ∀ (f : Fo) (deep : Nat) (last p : Bs), okF deep last f → (nodesF p f).all mayNodeN = true
  | .nil, _, _, _, _ => rfl
  | .cons nm t f, deep, last, p, ok => by
    simp only [okF] at ok
    obtain ⟨h1, h2, h3, h4, h5⟩ := ok
    simp only [nodesF, List.all_append, may_T t _ _ h4, may_F f _ _ p h5, Bool.and_self]
end
theorem may_of_tree (t : Tr) (ok : okT 0 t) (hl : (nodesT [] t).length ≤ 256) : mayN (nodesT [] t) = true := by
  have hm := may_T t 0 [] ok
  cases t with
  | file d => simp only [nodesT] at hm ⊢; simp only [mayN, hm]; rfl
  | exec d => simp only [nodesT] at hm ⊢; simp only [mayN, hm]; rfl
  | link d => simp only [nodesT] at hm ⊢; simp only [mayN, hm]; rfl
  | dir f =>
    simp only [nodesT] at hm hl ⊢
    simp only [mayN, hm]
    obtain ⟨l, j, e⟩ := run_F f [] [] [] [] (by simp only [okT] at ok; exact ok) (by simp)
    simp only [stR, pth, List.append_nil, runN] at e
    simp only [if_true, e]
    simp only [List.length_cons] at hl
    simp
    omega
/-! The other way: such a row is a tree. -/
def Spine : List Bs → Bs → List Nd → Prop
  | [], last, l => ∃ f, okF 0 last f ∧ l = nodesF [] f
  | n :: r, last, l => ∃ f rest, okF (r.length + 1) last f ∧ l = nodesF (pth (n :: r)) f ++ rest ∧ Spine r n rest
theorem spine_nil : ∀ (rn : List Bs) (last : Bs), Spine rn last []
  | [], _ => ⟨.nil, trivial, rfl⟩
  | n :: r, _ => ⟨.nil, [], trivial, rfl, spine_nil r n⟩
/-- One more ahead in the deepest directory. -/
theorem spine_cons (rn : List Bs) (last nm : Bs) (t : Tr) (l : List Nd) (ok : okT (rn.length + 1) t) (h1 : mayNameN nm = true) (h2 : ltB last nm = true) (h3 : rn.length < 64) (h : Spine rn nm l) :
    Spine rn last (nodesT (joinP (pth rn) nm) t ++ l) := by
  cases rn with
  | nil =>
    obtain ⟨f, hf, rfl⟩ := h
    exact ⟨.cons nm t f, ⟨h1, h2, h3, ok, hf⟩, rfl⟩
  | cons n r =>
    obtain ⟨f, rest, hf, rfl, hr⟩ := h
    exact ⟨.cons nm t f, rest, ⟨h1, h2, h3, ok, hf⟩, by simp [nodesF], hr⟩
theorem leaf_of (p : Bs) (k : Int) (d : Bs) (h : mayNodeN (p, k, d) = true) : (∃ t, (∀ n, okT n t) ∧ nodesT p t = [(p, k, d)] ∧ k ≠ 4) ∨ (k = 4 ∧ d = []) := by
  unfold mayNodeN at h
  dsimp only at h
  by_cases h1 : k = 1
  · subst h1
    exact Or.inl ⟨.file d, fun n => by simpa [okT] using h, rfl, by omega⟩
  by_cases h2 : k = 2
  · subst h2
    exact Or.inl ⟨.exec d, fun n => by simpa [okT] using h, rfl, by omega⟩
  rw [if_neg (by omega)] at h
  by_cases h3 : k = 3
  · subst h3
    simp only [if_true, Bool.and_eq_true, Bool.not_eq_true', decide_eq_true_eq] at h
    exact Or.inl ⟨.link d, fun n => by simp only [okT]; exact ⟨fun e => by simp [e] at h, h.1.2, h.2⟩, rfl, by omega⟩
  rw [if_neg h3] at h
  by_cases h4 : k = 4
  · subst h4
    exact Or.inr ⟨rfl, by simpa using h⟩
  · rw [if_neg h4] at h; cases h
theorem step_inner (l : List Lv) (e : Lv) (x : Nd) (pa nm : Bs) (hp : parentN x.1 = some (pa, nm)) (hi : l.findIdx (fun y => y.1 == pa) < l.length) : stepN (l ++ [e]) x = stepN l x := by
  have hf : (l ++ [e]).findIdx (fun y => y.1 == pa) = l.findIdx (fun y => y.1 == pa) := by
    rw [List.findIdx_append]
    rw [if_pos hi]
  unfold stepN
  rw [hp]
  dsimp only
  rw [hf]
  have hg : (l ++ [e]).getD (l.findIdx fun y => y.1 == pa) ([], []) = l.getD (l.findIdx fun y => y.1 == pa) ([], []) := by
    rw [List.getD_eq_getElem?_getD, List.getD_eq_getElem?_getD, List.getElem?_append_left hi]
  have hlen : ((l.findIdx fun y => y.1 == pa) < (l ++ [e]).length) = ((l.findIdx fun y => y.1 == pa) < l.length) := by
    rw [List.length_append]
    exact propext ⟨fun _ => hi, fun _ => by omega⟩
  rw [hg, List.take_append_of_le_length (by omega)]
  simp only [hlen]
theorem spine_of : ∀ (l : List Nd) (rn : List Bs) (last : Bs), l.all mayNodeN = true → runN (stR rn last) l = true → Spine rn last l
  | [], rn, last, _, _ => spine_nil rn last
  | x :: l, rn, last, hm, hr => by
    have hr0 := hr
    induction rn generalizing last with
    | nil =>
      refine spine_deep x l [] last hm hr (fun rn last h1 h2 => spine_of l rn last h1 h2) ?_
      intro pa nm _ hi
      simpa [stR] using hi
    | cons n r ih =>
      simp only [runN] at hr
      cases hs : stepN (stR (n :: r) last) x with
      | none => rw [hs] at hr; cases hr
      | some o =>
        obtain ⟨pa, nm, hp⟩ : ∃ pa nm, parentN x.1 = some (pa, nm) := by
          unfold stepN at hs
          cases h : parentN x.1 with
          | none => rw [h] at hs; cases hs
          | some q => exact ⟨q.1, q.2, rfl⟩
        by_cases hi : (stR r n).findIdx (fun y => y.1 == pa) < (stR r n).length
        · have e := step_inner (stR r n) (pth (n :: r), last) x pa nm hp hi
          have hr2 : runN (stR r n) (x :: l) = true := by
            simp only [runN]
            rw [← e]
            exact hr
          exact ⟨.nil, x :: l, trivial, rfl, ih n hr2 hr2⟩
        · refine spine_deep x l (n :: r) last hm hr0 (fun rn last h1 h2 => spine_of l rn last h1 h2) ?_
          intro pa' nm' hp' hlt
          rw [hp] at hp'
          simp only [Option.some.injEq, Prod.mk.injEq] at hp'
          obtain ⟨rfl, rfl⟩ := hp'
          simp only [stR] at hlt ⊢
          rw [List.findIdx_append, if_neg hi] at hlt ⊢
          rw [stR_len] at hlt ⊢
          simp only [List.length_append, List.length_cons, List.length_nil, stR_len] at hlt ⊢
          omega
where
  /-- The step at the deepest one. -/
  spine_deep (x : Nd) (l : List Nd) (rn : List Bs) (last : Bs) (hm : (x :: l).all mayNodeN = true) (hr : runN (stR rn last) (x :: l) = true)
      (ih : ∀ rn last, l.all mayNodeN = true → runN (stR rn last) l = true → Spine rn last l)
      (hi : ∀ pa nm, parentN x.1 = some (pa, nm) → (stR rn last).findIdx (fun y => y.1 == pa) < (stR rn last).length → (stR rn last).findIdx (fun y => y.1 == pa) = rn.length) : Spine rn last (x :: l) := by
    obtain ⟨q, k, d⟩ := x
    simp only [List.all_cons, Bool.and_eq_true] at hm
    simp only [runN] at hr
    cases hs : stepN (stR rn last) (q, k, d) with
    | none => rw [hs] at hr; cases hr
    | some o =>
      rw [hs] at hr
      dsimp only at hr
      unfold stepN at hs
      cases hp : parentN q with
      | none => rw [show ((q, k, d) : Nd).1 = q from rfl, hp] at hs; cases hs
      | some pn =>
        obtain ⟨pa, nm⟩ := pn
        rw [show ((q, k, d) : Nd).1 = q from rfl, hp] at hs
        dsimp only at hs
        split at hs
        case isFalse => cases hs
        rename_i hc
        obtain ⟨c1, c2, c3, c4⟩ := hc
        have hi2 := hi pa nm hp c1
        rw [hi2] at hs c3 c4
        obtain ⟨a, e1, e2, e3⟩ := stR_init rn last
        have hpa : pa = pth rn := by
          have hq := List.findIdx_getElem (xs := stR rn last) (p := fun y => y.1 == pa) (w := c1)
          simp only [hi2] at hq
          have : (stR rn last)[rn.length]'(by rw [stR_len]; omega) = (pth rn, last) := by
            simp only [e1]
            rw [List.getElem_append_right (by omega)]
            simp [e2]
          rw [this] at hq
          have := beq_iff_eq.1 hq
          exact this.symm
        subst hpa
        have hl : (stR rn last).getD rn.length ([], []) = (pth rn, last) := by
          rw [e1, List.getD_eq_getElem?_getD, List.getElem?_append_right (by omega)]
          simp [e2]
        rw [hl] at c3
        have htake : (stR rn last).take rn.length = a := by
          rw [e1, List.take_append_of_le_length (by omega), ← e2, List.take_length]
        rw [htake] at hs
        obtain ⟨rfl, hns⟩ := join_parent hp
        rcases leaf_of _ k d hm.1 with ⟨t, ok, hnt, hk⟩ | ⟨rfl, rfl⟩
        · rw [if_neg hk, ← e3 nm] at hs
          simp only [Option.some.injEq] at hs
          rw [← hs] at hr
          have := spine_cons rn last nm t l (ok _) c2 c3 c4 (ih rn nm hm.2 hr)
          rw [hnt] at this
          exact this
        · simp only [if_true] at hs
          have e4 : a ++ [(pth rn, nm), (joinP (pth rn) nm, [])] = stR (nm :: rn) [] := by
            show _ = stR rn nm ++ [_]
            rw [e3 nm]
            simp [pth]
          rw [e4] at hs
          simp only [Option.some.injEq] at hs
          rw [← hs] at hr
          obtain ⟨g, rest, hg, rfl, hsp⟩ := ih (nm :: rn) [] hm.2 hr
          have := spine_cons rn last nm (.dir g) rest (by simpa only [okT] using hg) c2 c3 c4 hsp
          simpa [nodesT, pth] using this
theorem tree_of_may (l : List Nd) (h : mayN l = true) : ∃ t, okT 0 t ∧ l = nodesT [] t ∧ l.length ≤ 256 := by
  cases l with
  | nil => cases h
  | cons x r =>
    obtain ⟨q, k, d⟩ := x
    simp only [mayN, Bool.and_eq_true, decide_eq_true_eq] at h
    obtain ⟨⟨⟨h1, h2⟩, h3⟩, h4⟩ := h
    have hq : q = [] := by simpa using h2
    subst hq
    simp only [List.all_cons, Bool.and_eq_true] at h3
    have hlen : (([], k, d) :: r : List Nd).length ≤ 256 := by simp only [List.length_cons]; omega
    rcases leaf_of _ k d h3.1 with ⟨t, ok, hnt, hk⟩ | ⟨rfl, rfl⟩
    · rw [if_neg hk] at h4
      cases r with
      | nil => exact ⟨t, ok 0, hnt.symm, hlen⟩
      | cons y r =>
        simp only [runN] at h4
        have : stepN [] y = none := by
          unfold stepN
          cases parentN y.1 with
          | none => rfl
          | some q => simp
        rw [this] at h4
        cases h4
    · simp only [if_true] at h4
      obtain ⟨f, hf, rfl⟩ := spine_of r [] [] h3.2 h4
      exact ⟨.dir f, by simpa only [okT] using hf, rfl, hlen⟩
end Go.Proofs.Ytmlefodnbbkilaa

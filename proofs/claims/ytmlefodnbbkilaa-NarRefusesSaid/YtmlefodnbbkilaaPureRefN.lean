/- The document's way to see which rows are trees (plain). -/
import Derived.Test.YtmlefodnbbkilaaPureParse
namespace Go.Proofs.Ytmlefodnbbkilaa
def cutR (p : Bs) : Bs × Bs := match cutN p with | none => ([], p) | some q => q
def deepN (p : Bs) : Nat := 1 + p.count 47
def nameR (path dir : Bs) : Bs :=
  if dir.isEmpty then (if path.contains 47 then [] else path)
  else if path.length ≤ dir.length ∨ path.take dir.length ≠ dir ∨ path[dir.length]? ≠ some 47 then []
  else if (path.drop (dir.length + 1)).contains 47 then [] else path.drop (dir.length + 1)
mutual
def underL : Nat → Nd → List Nd → List Nd
  | 0, _, r => r
  | fu + 1, x, r => if x.2.1 = 4 then loopL fu x.1 [] r else r
def loopL : Nat → Bs → Bs → List Nd → List Nd
  | 0, _, _, r => r
  | _ + 1, _, _, [] => []
  | fu + 1, p, last, y :: r => if (nameR y.1 p).isEmpty || !ltB last (nameR y.1 p) then y :: r else loopL fu p (nameR y.1 p) (underL fu y r)
end
def mayR : List Nd → Bool
  | [] => false
  | x :: r => decide (r.length < 256) && x.1.isEmpty && mayNodeN x && r.all (fun y => mayNameN (cutR y.1).2 && decide (deepN y.1 ≤ 64) && mayNodeN y) && (underL (2 * r.length + 2) x r).isEmpty
theorem nameR_join {q p nm : Bs} (h : nameR q p = nm) (hn : nm ≠ []) : q = joinP p nm ∧ (47 : UInt8) ∉ nm := by
  unfold nameR at h
  split at h
  · rename_i hp
    split at h
    · exact absurd h.symm hn
    · rename_i hc
      subst h
      exact ⟨by simp [joinP, hp], fun e => hc (List.contains_iff_mem.2 e)⟩
  · rename_i hp
    split at h
    · exact absurd h.symm hn
    · rename_i hc
      simp only [not_or, Nat.not_le, ne_eq, Decidable.not_not] at hc
      obtain ⟨h1, h2, h3⟩ := hc
      split at h
      · exact absurd h.symm hn
      · rename_i hs
        subst h
        refine ⟨?_, fun e => hs (List.contains_iff_mem.2 e)⟩
        have hp2 : p.isEmpty = false := by simpa using hp
        simp only [joinP, hp2, Bool.false_eq_true, if_false]
        have e : q = q.take p.length ++ q.drop p.length := (List.take_append_drop _ _).symm
        have e2 : q.drop p.length = 47 :: q.drop (p.length + 1) := by
          rw [List.drop_eq_getElem_cons h1]
          congr 1
          have := List.getElem?_eq_getElem h1
          rw [this] at h3
          exact Option.some.inj h3
        rw [h2, e2] at e
        exact e
theorem join_nameR {p nm : Bs} (h : (47 : UInt8) ∉ nm) : nameR (joinP p nm) p = nm := by
  have hc : nm.contains 47 = false := by
    cases hx : nm.contains 47
    · rfl
    · exact absurd (List.contains_iff_mem.1 hx) h
  unfold nameR joinP
  by_cases hp : p = []
  · subst hp
    simp [h]
  · have hp2 : p.isEmpty = false := by cases p <;> simp_all
    simp only [hp2, Bool.false_eq_true, if_false]
    rw [if_neg]
    · have : (p ++ 47 :: nm).drop (p.length + 1) = nm := by
        rw [List.drop_append]
        simp
      rw [this, hc]
      simp
    · simp
/-- What stands behind all of a directory. -/
def Behind (p : Bs) (l : List Nd) : Prop := ∀ y r, l = y :: r → ∃ q m, y.1 = joinP q m ∧ (47 : UInt8) ∉ m ∧ q.length < p.length
theorem Behind.name {p : Bs} {y : Nd} {r : List Nd} (h : Behind p (y :: r)) : nameR y.1 p = [] := by
  obtain ⟨q, m, e, hm, hq⟩ := h y r rfl
  by_cases hn : nameR y.1 p = []
  · exact hn
  · obtain ⟨e2, h2⟩ := nameR_join rfl hn
    have h3 := parent_join (p := q) hm
    have h4 := parent_join (p := p) h2
    rw [← e] at h3
    rw [← e2, h3] at h4
    simp only [Option.some.injEq, Prod.mk.injEq] at h4
    rw [h4.1] at hq
    omega
theorem Behind.nil (p : Bs) : Behind p [] := fun y r h => by cases h
theorem nodesT_head : ∀ (t : Tr) (p : Bs), ∃ k d r, nodesT p t = (p, k, d) :: r
  | .file d, _ => ⟨1, d, [], rfl⟩
  | .exec d, _ => ⟨2, d, [], rfl⟩
  | .link d, _ => ⟨3, d, [], rfl⟩
  | .dir f, p => ⟨4, [], nodesF p f, rfl⟩
theorem behind_next (p nm : Bs) (hn : nm ≠ []) (f : Fo) (post : List Nd) (deep : Nat) (hf : okF deep nm f) (hb : Behind p post) : Behind (joinP p nm) (nodesF p f ++ post) := by
  have hl : p.length < (joinP p nm).length := join_long hn
  cases f with
  | nil =>
    intro y r h
    obtain ⟨q, m, e, hm, hq⟩ := hb y r h
    exact ⟨q, m, e, hm, by omega⟩
  | cons nm2 t f =>
    simp only [okF] at hf
    obtain ⟨k, d, r', e⟩ := nodesT_head t (joinP p nm2)
    intro y r h
    simp only [nodesF, e, List.cons_append, List.cons.injEq] at h
    obtain ⟨rfl, -⟩ := h
    exact ⟨p, nm2, rfl, (mayName_no hf.1).2.1, hl⟩
mutual
theorem under_T : ∀ (t : Tr) (fu deep : Nat) (p : Bs) (x : Nd) (r post : List Nd), nodesT p t = x :: r → okT deep t → Behind p post ∨ post = [] → 2 * sizeT t ≤ fu → underL fu x (r ++ post) = post
  | .file d, 0, _, _, x, r, post, h, ok, hb, hf => by simp [sizeT] at hf
  | .exec d, 0, _, _, x, r, post, h, ok, hb, hf => by simp [sizeT] at hf
  | .link d, 0, _, _, x, r, post, h, ok, hb, hf => by simp [sizeT] at hf
  | .dir f, 0, _, _, x, r, post, h, ok, hb, hf => by simp [sizeT] at hf; omega
  | .file d, fu + 1, _, _, x, r, post, h, ok, hb, hf => by
    simp only [nodesT, List.cons.injEq] at h
    obtain ⟨rfl, rfl⟩ := h
    rfl
  | .exec d, fu + 1, _, _, x, r, post, h, ok, hb, hf => by
    simp only [nodesT, List.cons.injEq] at h
    obtain ⟨rfl, rfl⟩ := h
    rfl
  | .link d, fu + 1, _, _, x, r, post, h, ok, hb, hf => by
    simp only [nodesT, List.cons.injEq] at h
    obtain ⟨rfl, rfl⟩ := h
    rfl
  | .dir f, fu + 1, deep, p, x, r, post, h, ok, hb, hf => by
    simp only [nodesT, List.cons.injEq] at h
    obtain ⟨rfl, rfl⟩ := h
    simp only [okT] at ok
    simp only [sizeT] at hf
    simp only [underL, if_true]
    exact under_F f fu deep [] p post ok (hb.elim id fun e => e ▸ Behind.nil p) (by omega)
theorem under_F : ∀ (f : Fo) (fu deep : Nat) (last p : Bs) (post : List Nd), okF deep last f → Behind p post → 2 * sizeF f + 1 ≤ fu → loopL fu p last (nodesF p f ++ post) = post
  | f, 0, deep, last, p, post, ok, hb, hf => by omega
  | .nil, fu + 1, deep, last, p, post, ok, hb, hf => by
    simp only [nodesF, List.nil_append]
    cases post with
    | nil => rfl
    | cons y r =>
      simp only [loopL, hb.name, List.isEmpty_nil, Bool.true_or, if_true]
  | .cons nm t f, fu + 1, deep, last, p, post, ok, hb, hf => by
    simp only [okF] at ok
    obtain ⟨h1, h2, h3, h4, h5⟩ := ok
    simp only [sizeF] at hf
    have hs : 1 ≤ sizeT t := by cases t <;> simp [sizeT]
    obtain ⟨k, d, r, e⟩ := nodesT_head t (joinP p nm)
    have hn := mayName_no h1
    have hie : nm.isEmpty = false := by cases nm <;> simp_all
    simp only [nodesF, e, List.cons_append, List.append_assoc, loopL]
    rw [join_nameR hn.2.1, hie, h2]
    simp only [Bool.not_true, Bool.or_self, Bool.false_eq_true, if_false]
    rw [under_T t fu (deep + 1) (joinP p nm) (joinP p nm, k, d) r (nodesF p f ++ post) e h4 (Or.inl (behind_next p nm hn.1 f post deep h5 hb)) (by omega)]
    exact under_F f fu deep nm p post h5 hb (by omega)
end
/-! The other way: what is under a node is a tree, but for what its nodes may be. -/
mutual
def okW : Tr → Prop
  | .file d => d.length ≤ 65536
  | .exec d => d.length ≤ 65536
  | .link d => d ≠ [] ∧ d.length ≤ 4096 ∧ d.contains 0 = false
  | .dir f => okWF [] f
def okWF (last : Bs) : Fo → Prop
  | .nil => True
  | .cons nm t f => nm ≠ [] ∧ (47 : UInt8) ∉ nm ∧ ltB last nm = true ∧ okW t ∧ okWF nm f
end
theorem tree_under (fu : Nat) : (∀ (x : Nd) (r : List Nd), 2 * r.length + 2 ≤ fu → mayNodeN x = true → r.all mayNodeN = true → ∃ t, okW t ∧ x :: r = nodesT x.1 t ++ underL fu x r ∧ (underL fu x r).length ≤ r.length) ∧
    ∀ (p last : Bs) (r : List Nd), 2 * r.length + 1 ≤ fu → r.all mayNodeN = true → ∃ f, okWF last f ∧ r = nodesF p f ++ loopL fu p last r ∧ (loopL fu p last r).length ≤ r.length := by
  induction fu with
  | zero => exact ⟨fun _ _ h => by omega, fun _ _ _ h => by omega⟩
  | succ fu ih =>
    refine ⟨fun x r hf hx hr => ?_, fun p last r hf hr => ?_⟩
    · obtain ⟨q, k, d⟩ := x
      simp only [underL]
      unfold mayNodeN at hx
      dsimp only at hx
      by_cases h1 : k = 1
      · subst h1
        exact ⟨.file d, by simpa [okW] using hx, by simp [nodesT], by simp⟩
      by_cases h2 : k = 2
      · subst h2
        exact ⟨.exec d, by simpa [okW] using hx, by simp [nodesT], by simp⟩
      rw [if_neg (by omega)] at hx
      by_cases h3 : k = 3
      · subst h3
        simp only [if_true, Bool.and_eq_true, Bool.not_eq_true', decide_eq_true_eq] at hx
        exact ⟨.link d, by simp only [okW]; exact ⟨fun e => by simp [e] at hx, hx.1.2, hx.2⟩, by simp [nodesT], by simp⟩
      rw [if_neg h3] at hx
      by_cases h4 : k = 4
      · subst h4
        obtain ⟨f, h5, h6, h7⟩ := ih.2 q [] r (by omega) hr
        have hd : d = [] := by simpa using hx
        subst hd
        refine ⟨.dir f, by simpa only [okW] using h5, ?_, by simpa using h7⟩
        simp only [nodesT, if_true, List.cons_append]
        rw [← h6]
      · rw [if_neg h4] at hx; cases hx
    · cases r with
      | nil => exact ⟨.nil, trivial, rfl, Nat.le_refl _⟩
      | cons y r =>
        simp only [loopL]
        simp only [List.all_cons, Bool.and_eq_true] at hr
        simp only [List.length_cons] at hf
        split
        · exact ⟨.nil, trivial, rfl, Nat.le_refl _⟩
        · rename_i hc
          simp only [Bool.or_eq_true, not_or, Bool.not_eq_true, Bool.not_eq_true'] at hc
          obtain ⟨c1, c2⟩ := hc
          have hn : nameR y.1 p ≠ [] := fun e => by rw [e] at c1; cases c1
          obtain ⟨e1, e2⟩ := nameR_join rfl hn
          have c3 : ltB last (nameR y.1 p) = true := by simpa using c2
          obtain ⟨t, h1, h2, h3⟩ := ih.1 y r (by omega) hr.1 hr.2
          have hall : (underL fu y r).all mayNodeN = true := by
            have h4 : (y :: r).all mayNodeN = true := by simp [hr]
            rw [h2, List.all_append, Bool.and_eq_true] at h4
            exact h4.2
          obtain ⟨f, h5, h6, h7⟩ := ih.2 p (nameR y.1 p) (underL fu y r) (by omega) hall
          refine ⟨.cons (nameR y.1 p) t f, ⟨hn, e2, c3, h1, h5⟩, ?_, by simp only [List.length_cons]; omega⟩
          simp only [nodesF]
          rw [← e1, List.append_assoc, ← h6]
          exact h2
def dn (p : Bs) : Nat := if p.isEmpty then 0 else deepN p
theorem count_no {nm : Bs} (h : (47 : UInt8) ∉ nm) : nm.count 47 = 0 := List.count_eq_zero.2 h
theorem deep_join {p nm : Bs} (h1 : nm ≠ []) (h2 : (47 : UInt8) ∉ nm) : deepN (joinP p nm) = dn p + 1 ∧ dn (joinP p nm) = dn p + 1 := by
  have hj : (joinP p nm).isEmpty = false := by
    have := join_long (p := p) h1
    cases h : joinP p nm with
    | nil => rw [h] at this; simp at this
    | cons a l => rfl
  have e : deepN (joinP p nm) = dn p + 1 := by
    unfold joinP dn
    by_cases hp : p = []
    · subst hp
      simp [deepN, count_no h2]
    · have hp2 : p.isEmpty = false := by cases p <;> simp_all
      simp only [hp2, Bool.false_eq_true, if_false, deepN, List.count_append, List.count_cons, count_no h2]
      simp
      omega
  refine ⟨e, ?_⟩
  unfold dn at e ⊢
  rw [hj]
  simpa using e
theorem cut_join {p nm : Bs} (h : (47 : UInt8) ∉ nm) : (cutR (joinP p nm)).2 = nm := by
  unfold cutR joinP
  by_cases hp : p = []
  · subst hp
    simp [(cutN_none nm).2 h]
  · have hp2 : p.isEmpty = false := by cases p <;> simp_all
    simp only [hp2, Bool.false_eq_true, if_false]
    rw [(cutN_some _ p nm).2 ⟨rfl, h⟩]
def eachN (y : Nd) : Bool := mayNameN (cutR y.1).2 && decide (deepN y.1 ≤ 64) && mayNodeN y
mutual
theorem each_T : ∀ (t : Tr) (p nm : Bs), okT (dn p + 1) t → mayNameN nm = true → dn p < 64 → (nodesT (joinP p nm) t).all eachN = true
  | .file d, p, nm, ok, h1, h2 => by
    have hn := mayName_no h1
    have := may_T (.file d) _ (joinP p nm) ok
    simp only [nodesT, List.all_cons, List.all_nil, Bool.and_true] at this ⊢
    simp only [eachN, this, cut_join hn.2.1, h1, (deep_join (p := p) hn.1 hn.2.1).1]
    simp
    omega
  | .exec d, p, nm, ok, h1, h2 => by
    have hn := mayName_no h1
    have := may_T (.exec d) _ (joinP p nm) ok
    simp only [nodesT, List.all_cons, List.all_nil, Bool.and_true] at this ⊢
    simp only [eachN, this, cut_join hn.2.1, h1, (deep_join (p := p) hn.1 hn.2.1).1]
    simp
    omega
  | .link d, p, nm, ok, h1, h2 => by
    have hn := mayName_no h1
    have := may_T (.link d) _ (joinP p nm) ok
    simp only [nodesT, List.all_cons, List.all_nil, Bool.and_true] at this ⊢
    simp only [eachN, this, cut_join hn.2.1, h1, (deep_join (p := p) hn.1 hn.2.1).1]
    simp
    omega
  | .dir f, p, nm, ok, h1, h2 => by
    have hn := mayName_no h1
    simp only [okT] at ok
    have hd := (deep_join (p := p) hn.1 hn.2.1)
    have h3 := each_F f (joinP p nm) [] (by rw [hd.2]; exact ok)
    simp only [nodesT, List.all_cons, h3, Bool.and_true]
    simp only [eachN, cut_join hn.2.1, h1, hd.1]
    simp [mayNodeN]
    omega
theorem each_F : ∀ (f : Fo) (p last : Bs), okF (dn p) last f → (nodesF p f).all eachN = true
  | .nil, _, _, _ => rfl
  | .cons nm t f, p, last, ok => by
    simp only [okF] at ok
    obtain ⟨h1, h2, h3, h4, h5⟩ := ok
    simp only [nodesF, List.all_append, each_T t p nm h4 h1 h3, each_F f p nm h5, Bool.and_self]
end
mutual
theorem ok_T : ∀ (t : Tr) (deep : Nat) (p : Bs), okW t → deep = dn p → (∀ y ∈ (nodesT p t).tail, eachN y = true) → okT deep t
  | .file d, _, _, h, _, _ => by simpa only [okT, okW] using h
  | .exec d, _, _, h, _, _ => by simpa only [okT, okW] using h
  | .link d, _, _, h, _, _ => by simpa only [okT, okW] using h
  | .dir f, deep, p, h, hd, ha => by
    simp only [okW] at h
    simp only [nodesT, List.tail_cons] at ha
    simp only [okT]
    exact ok_F f deep [] p h hd ha
theorem ok_F : ∀ (f : Fo) (deep : Nat) (last p : Bs), okWF last f → deep = dn p → (∀ y ∈ nodesF p f, eachN y = true) → okF deep last f
  | .nil, _, _, _, _, _, _ => trivial
  | .cons nm t f, deep, last, p, h, hd, ha => by
    simp only [okWF] at h
    obtain ⟨h1, h2, h3, h4, h5⟩ := h
    simp only [nodesF, List.mem_append] at ha
    obtain ⟨k, d, r, e⟩ := nodesT_head t (joinP p nm)
    have hj := deep_join (p := p) h1 h2
    have h6 := ha (joinP p nm, k, d) (Or.inl (by rw [e]; simp))
    simp only [eachN, cut_join h2, hj.1, Bool.and_eq_true, decide_eq_true_eq] at h6
    subst hd
    refine ⟨h6.1.1, h3, by omega, ok_T t (dn p + 1) (joinP p nm) h4 hj.2.symm fun y hy => ha y (Or.inl (List.mem_of_mem_tail hy)), ok_F f (dn p) nm p h5 rfl fun y hy => ha y (Or.inr hy)⟩
end
theorem mayR_eq (l : List Nd) : mayR l = mayN l := by
  apply Bool.eq_iff_iff.2
  constructor
  · intro h
    cases l with
    | nil => cases h
    | cons x r =>
      simp only [mayR, Bool.and_eq_true, decide_eq_true_eq] at h
      obtain ⟨⟨⟨⟨h1, h2⟩, h3⟩, h4⟩, h5⟩ := h
      have hx : x.1 = [] := by simpa using h2
      have h4' : ∀ y ∈ r, eachN y = true := by
        intro y hy
        have := List.all_eq_true.1 h4 y hy
        simpa [eachN] using this
      have hr : r.all mayNodeN = true := List.all_eq_true.2 fun y hy => by
        have := h4' y hy
        simp only [eachN, Bool.and_eq_true] at this
        exact this.2
      obtain ⟨t, ok, e, -⟩ := (tree_under (2 * r.length + 2)).1 x r (Nat.le_refl _) h3 hr
      have hu : underL (2 * r.length + 2) x r = [] := by simpa using h5
      rw [hu, List.append_nil, hx] at e
      have okt : okT 0 t := ok_T t 0 [] ok rfl fun y hy => by
        rw [← e] at hy
        exact h4' y hy
      rw [e]
      exact may_of_tree t okt (by rw [← e]; simp only [List.length_cons]; omega)
  · intro h
    obtain ⟨t, ok, e, hl⟩ := tree_of_may l h
    obtain ⟨k, d, r, e2⟩ := nodesT_head t []
    have hm := may_T t 0 [] ok
    have hsz := size_T t []
    have hu := under_T t (2 * r.length + 2) 0 [] ([], k, d) r [] e2 ok (Or.inr rfl) (by rw [e2] at hsz; simp only [List.length_cons] at hsz; omega)
    have he : ∀ y ∈ r, eachN y = true := by
      cases t with
      | file d => simp only [nodesT, List.cons.injEq] at e2; rw [← e2.2]; simp
      | exec d => simp only [nodesT, List.cons.injEq] at e2; rw [← e2.2]; simp
      | link d => simp only [nodesT, List.cons.injEq] at e2; rw [← e2.2]; simp
      | dir f =>
        simp only [nodesT, List.cons.injEq] at e2
        rw [← e2.2]
        simp only [okT] at ok
        exact List.all_eq_true.1 (each_F f [] [] ok)
    rw [e, e2] at hl
    rw [e2] at hm
    rw [e, e2]
    simp only [List.append_nil] at hu
    simp only [List.all_cons, Bool.and_eq_true] at hm
    simp only [List.length_cons] at hl
    simp only [mayR, hu, hm.1]
    have : r.all (fun y => mayNameN (cutR y.1).2 && decide (deepN y.1 ≤ 64) && mayNodeN y) = true := List.all_eq_true.2 fun y hy => he y hy
    rw [this]
    simp
    omega
end Go.Proofs.Ytmlefodnbbkilaa

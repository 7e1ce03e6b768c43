/- Trees that are made, part by part (plain). -/
import Derived.Test.YtmlefodnbbkilaaPureRefN
namespace Go.Proofs.Ytmlefodnbbkilaa
def appF : Fo → Fo → Fo
  | .nil, g => g
  | .cons nm t f, g => .cons nm t (appF f g)
def lastF : Bs → Fo → Bs
  | last, .nil => last
  | _, .cons nm _ f => lastF nm f
theorem nodesF_app (p : Bs) : ∀ f g : Fo, nodesF p (appF f g) = nodesF p f ++ nodesF p g
  | .nil, g => by simp [appF, nodesF]
  | .cons nm t f, g => by simp [appF, nodesF, nodesF_app p f g]
theorem okF_app (deep : Nat) : ∀ (f g : Fo) (last : Bs), okF deep last f → okF deep (lastF last f) g → okF deep last (appF f g)
  | .nil, g, last, _, h => h
  | .cons nm t f, g, last, h, h2 => by
    simp only [okF] at h
    simp only [appF, okF]
    exact ⟨h.1, h.2.1, h.2.2.1, h.2.2.2.1, okF_app deep f g nm h.2.2.2.2 h2⟩
theorem lastF_app : ∀ (f g : Fo) (last : Bs), lastF last (appF f g) = lastF (lastF last f) g
  | .nil, _, _ => rfl
  | .cons nm _ f, g, _ => lastF_app f g nm
/-- The names that trees are made with. -/
def nmL : List Bs := [[97], [98, 46, 99], [98, 105, 110], [108, 105, 98], [120, 32, 121], [122]]
def nmK (k : Nat) : Bs := nmL.getD k []
theorem nmK_ok : ∀ k, k < 6 → mayNameN (nmK k) = true ∧ (nmK k).length ≤ 3
  | 0, _ => by decide
  | 1, _ => by decide
  | 2, _ => by decide
  | 3, _ => by decide
  | 4, _ => by decide
  | 5, _ => by decide
  | k + 6, h => by omega
theorem nmK_lt : ∀ i j, i < j → j < 6 → ltB (nmK i) (nmK j) = true := by
  have h : ∀ j, j < 6 → ∀ i, i < j → ltB (nmK i) (nmK j) = true := by decide
  exact fun i j hij hj => h j hj i hij
theorem nmK_first : ∀ j, j < 6 → ltB [] (nmK j) = true := by decide
/-- Nodes that are one directory's, as far as they are laid: names from the k-th on may follow. -/
def Part (deep : Nat) (path : Bs) (k : Nat) (M : List Nd) : Prop := ∃ f, okF deep [] f ∧ M = nodesF path f ∧ ∀ j, k ≤ j → j < 6 → ltB (lastF [] f) (nmK j) = true
theorem Part.nil (deep : Nat) (path : Bs) : Part deep path 0 [] := ⟨.nil, trivial, rfl, fun j _ h => nmK_first j h⟩
theorem Part.mono {deep : Nat} {path : Bs} {k k' : Nat} {M : List Nd} (h : Part deep path k M) (hk : k ≤ k') : Part deep path k' M := by
  obtain ⟨f, h1, h2, h3⟩ := h
  exact ⟨f, h1, h2, fun j hj => h3 j (by omega)⟩
theorem Part.add {deep : Nat} {path : Bs} {k : Nat} {M : List Nd} (h : Part deep path k M) (hk : k < 6) (hd : deep < 64) {t : Tr} (ht : okT (deep + 1) t) : Part deep path (k + 1) (M ++ nodesT (joinP path (nmK k)) t) := by
  obtain ⟨f, h1, rfl, h3⟩ := h
  refine ⟨appF f (.cons (nmK k) t .nil), okF_app _ _ _ _ h1 ?_, ?_, fun j hj hj6 => ?_⟩
  · simp only [okF]
    exact ⟨(nmK_ok k hk).1, h3 k (Nat.le_refl _) hk, hd, ht, trivial⟩
  · rw [nodesF_app]
    simp [nodesF]
  · rw [lastF_app]
    exact nmK_lt k j (by omega) hj6
theorem Part.sub {deep : Nat} {path : Bs} {k k' : Nat} {M M' : List Nd} (h : Part deep path k M) (hk : k < 6) (hd : deep < 64) (h' : Part (deep + 1) (joinP path (nmK k)) k' M') :
    Part deep path (k + 1) (M ++ (joinP path (nmK k), 4, []) :: M') := by
  obtain ⟨f, h1, rfl, h3⟩ := h'
  exact h.add hk hd (t := .dir f) (by simpa only [okT] using h1)
theorem Part.tree {k : Nat} {M : List Nd} (h : Part 0 [] k M) (hl : M.length < 256) : mayN (([], 4, []) :: M) = true := by
  obtain ⟨f, h1, rfl, -⟩ := h
  exact may_of_tree (.dir f) (by simpa only [okT] using h1) (by simp only [nodesT, List.length_cons]; omega)
/-- A node that is no directory. -/
theorem leaf_made (p d : Bs) (kind : Int) (h : mayNodeN (p, kind, d) = true) (hk : kind ≠ 4) : ∃ t, (∀ n, okT n t) ∧ nodesT p t = [(p, kind, d)] := by
  rcases leaf_of p kind d h with ⟨t, h1, h2, -⟩ | ⟨h1, -⟩
  · exact ⟨t, h1, h2⟩
  · exact absurd h1 hk
theorem Part.leaf {deep : Nat} {path : Bs} {k : Nat} {M : List Nd} (h : Part deep path k M) (hk : k < 6) (hd : deep < 64) {kind : Int} {d : Bs} (hm : mayNodeN (joinP path (nmK k), kind, d) = true) : Part deep path (k + 1) (M ++ [(joinP path (nmK k), kind, d)]) := by
  rcases leaf_of _ kind d hm with ⟨t, h1, h2, -⟩ | ⟨rfl, rfl⟩
  · have := h.add hk hd (h1 (deep + 1))
    rwa [h2] at this
  · exact h.sub hk hd (Part.nil _ _)
theorem file_may (p d : Bs) (kind : Int) (hk : kind = 1 ∨ kind = 2) (hd : d.length ≤ 400) : mayNodeN (p, kind, d) = true := by
  unfold mayNodeN
  rw [if_pos hk]
  simpa using by omega
theorem link_may (p d : Bs) (hd : d.length ≤ 400) (h0 : (0 : UInt8) ∉ d) : mayNodeN (p, 3, (116 : UInt8) :: d) = true := by
  simp [mayNodeN]
  exact ⟨by omega, h0⟩
theorem dir_may (p : Bs) : mayNodeN (p, 4, []) = true := rfl
/-- Nodes of no great size. -/
def Lit4 (M : List Nd) : Prop := ∀ x ∈ M, x.1.length ≤ 100 ∧ x.2.2.length ≤ 400
theorem Lit4.nil : Lit4 [] := fun _ h => by cases h
theorem Lit4.app {M M' : List Nd} (h : Lit4 M) (h' : Lit4 M') : Lit4 (M ++ M') := fun x hx => by
  rcases List.mem_append.1 hx with hx | hx
  · exact h x hx
  · exact h' x hx
theorem Lit4.one {p d : Bs} {k : Int} (h : p.length ≤ 100) (h' : d.length ≤ 400) : Lit4 [(p, k, d)] := fun x hx => by
  rw [List.mem_singleton.1 hx]
  exact ⟨h, h'⟩
theorem join_len (p nm : Bs) : (joinP p nm).length ≤ p.length + 1 + nm.length := by
  unfold joinP
  split
  · omega
  · simp; omega
end Go.Proofs.Ytmlefodnbbkilaa

/- Walks: where a directory's nodes stand. -/
import Derived.Test.YtmlefodnbbkilaaPk3
import Derived.Deep.RegionHeld3
namespace Go.Proofs.Ytmlefodnbbkilaa
open Go.RowKit Go.Shelf

def headN (p : Bs) : Bs := if p.isEmpty then [] else p ++ [47]
theorem join_head (p nm : Bs) : joinP p nm = headN p ++ nm := by
  unfold joinP headN
  split <;> simp
def entriesF (i : Nat) : Fo → List (Nat × Bs × Tr)
  | .nil => []
  | .cons nm t f => (i, nm, t) :: entriesF (i + sizeT t) f
abbrev ent2 (e : Nat × Bs × Tr) : Nat × Bs := (e.1, e.2.1)
mutual
theorem paths_T : ∀ (t : Tr) (q : Bs), q ≠ [] → ∀ y ∈ (nodesT q t).tail, ∃ r, y.1 = q ++ 47 :: r
  | .file _, _, _, y, h => by simp [nodesT] at h
  | .exec _, _, _, y, h => by simp [nodesT] at h
  | .link _, _, _, y, h => by simp [nodesT] at h
  | .dir f, q, hq, y, h => by
    simp only [nodesT, List.tail_cons] at h
    exact paths_F f q hq y h
theorem paths_F : ∀ (f : Fo) (q : Bs), q ≠ [] → ∀ y ∈ nodesF q f, ∃ r, y.1 = q ++ 47 :: r
  | .nil, _, _, y, h => by simp [nodesF] at h
  | .cons nm t f, q, hq, y, h => by
    simp only [nodesF, List.mem_append] at h
    have hq2 : q.isEmpty = false := by cases q <;> simp_all
    have hj : joinP q nm = q ++ 47 :: nm := by simp [joinP, hq2]
    rcases h with h | h
    · obtain ⟨k, d, r, e⟩ := nodesT_head t (joinP q nm)
      rw [e] at h
      rcases List.mem_cons.1 h with rfl | h
      · exact ⟨nm, hj⟩
      · obtain ⟨r', hr⟩ := paths_T t (joinP q nm) (by rw [hj]; simp) y (by rw [e]; exact h)
        exact ⟨nm ++ 47 :: r', by rw [hr, hj]; simp⟩
    · exact paths_F f q hq y h
end
theorem below_skip (head : Bs) : ∀ (ys rest : List Nd) (i : Nat), (∀ y ∈ ys, Lib.hasPrefix y.1 head = true ∧ (y.1.drop head.length).contains 47 = true) → belowN head i (ys ++ rest) = belowN head (i + ys.length) rest
  | [], rest, i, _ => rfl
  | y :: ys, rest, i, h => by
    obtain ⟨h1, h2⟩ := h y (by simp)
    simp only [List.cons_append, belowN, h1, h2, if_true]
    rw [below_skip head ys rest (i + 1) fun z hz => h z (by simp [hz])]
    simp only [List.length_cons]
    rw [show i + 1 + ys.length = i + (ys.length + 1) by omega]
theorem prefix_app (p s : Bs) : Lib.hasPrefix (p ++ s) p = true ∧ (p ++ s).drop p.length = s := by
  refine ⟨?_, by simp⟩
  simp [Lib.hasPrefix]
theorem below_child (p nm : Bs) (t : Tr) (rest : List Nd) (i : Nat) (hn : nm ≠ []) (h47 : (47 : UInt8) ∉ nm) :
    belowN (headN p) i (nodesT (joinP p nm) t ++ rest) = (i, nm) :: belowN (headN p) (i + sizeT t) rest := by
  obtain ⟨k, d, r, e⟩ := nodesT_head t (joinP p nm)
  have hj0 : joinP p nm ≠ [] := by
    have := join_long (p := p) hn
    intro e
    rw [e] at this
    simp at this
  have hsz := size_T t (joinP p nm)
  rw [e] at hsz
  simp only [List.length_cons] at hsz
  have hc : nm.contains 47 = false := by
    cases hx : nm.contains 47
    · rfl
    · exact absurd (List.contains_iff_mem.1 hx) h47
  have h1 := prefix_app (headN p) nm
  rw [← join_head] at h1
  rw [e, List.cons_append]
  simp only [belowN, h1.1, h1.2, hc, if_true]
  rw [below_skip]
  · simp only [Bool.false_eq_true, if_false]
    rw [show i + 1 + r.length = i + sizeT t by omega]
  · intro y hy
    obtain ⟨r', hr⟩ := paths_T t (joinP p nm) hj0 y (by rw [e]; exact hy)
    have h2 := prefix_app (headN p) (nm ++ 47 :: r')
    rw [hr, join_head, List.append_assoc]
    refine ⟨h2.1, ?_⟩
    rw [h2.2]
    simp
theorem below_behind (p : Bs) (C : List Nd) (i : Nat) (h : Behind p C) : belowN (headN p) i C = [] := by
  cases C with
  | nil => rfl
  | cons y r =>
    obtain ⟨q, m, e, hm, hq⟩ := h y r rfl
    have hp : p.isEmpty = false := by cases p <;> simp_all
    have : Lib.hasPrefix y.1 (headN p) = false := by
      cases hx : Lib.hasPrefix y.1 (headN p) with
      | false => rfl
      | true =>
        exfalso
        simp only [headN, hp, Bool.false_eq_true, if_false, Lib.hasPrefix, List.isPrefixOf_iff_prefix] at hx
        obtain ⟨z, hz⟩ := hx
        rw [e] at hz
        have h47 : (joinP q m)[p.length]? = some 47 := by rw [← hz]; simp
        unfold joinP at h47
        split at h47
        · exact hm (List.mem_of_getElem? h47)
        · rw [List.getElem?_append_right (by omega)] at h47
          obtain ⟨d, hd⟩ : ∃ d, p.length - q.length = d + 1 := ⟨p.length - q.length - 1, by omega⟩
          rw [hd, List.getElem?_cons_succ] at h47
          exact hm (List.mem_of_getElem? h47)
    simp only [belowN, this]
    rfl
theorem below_entries : ∀ (f : Fo) (deep : Nat) (last p : Bs) (C : List Nd) (i : Nat), okF deep last f → Behind p C → (entriesF i f).map ent2 = belowN (headN p) i (nodesF p f ++ C)
  | .nil, deep, last, p, C, i, ok, hb => by simp only [nodesF, List.nil_append, below_behind p C i hb]; rfl
  | .cons nm t f, deep, last, p, C, i, ok, hb => by
    simp only [okF] at ok
    have hn := mayName_no ok.1
    simp only [nodesF, List.append_assoc, entriesF, List.map_cons]
    rw [below_child p nm t _ i hn.1 hn.2.1, below_entries f deep nm p C _ ok.2.2.2.2 hb]
/-- An entry in its place. -/
theorem entry_at : ∀ (f : Fo) (deep : Nat) (last p : Bs) (A C : List Nd), okF deep last f → Behind p C → ∀ e ∈ entriesF A.length f,
    ∃ A' C', A ++ (nodesF p f ++ C) = A' ++ (nodesT (joinP p e.2.1) e.2.2 ++ C') ∧ A'.length = e.1 ∧ Behind (joinP p e.2.1) C' ∧ okT (deep + 1) e.2.2 ∧ deep < 64 ∧ mayNameN e.2.1 = true ∧ sizeT e.2.2 ≤ sizeF f ∧ (strsN [sEntry, sOpen, sName, e.2.1, sNode] ++ (packT e.2.2 ++ strN sShut)).length ≤ (packF f).length
  | .nil, deep, last, p, A, C, ok, hb, e, he => by simp [entriesF] at he
  | .cons nm t f, deep, last, p, A, C, ok, hb, e, he => by
    simp only [okF] at ok
    have hn := mayName_no ok.1
    simp only [entriesF, List.mem_cons] at he
    rcases he with rfl | he
    · refine ⟨A, nodesF p f ++ C, by simp only [nodesF, List.append_assoc], rfl, behind_next p nm hn.1 f C deep ok.2.2.2.2 hb, ok.2.2.2.1, ok.2.2.1, ok.1, by simp only [sizeF]; omega, ?_⟩
      simp only [packF, List.length_append]
      omega
    · have ih := entry_at f deep nm p (A ++ nodesT (joinP p nm) t) C ok.2.2.2.2 hb e (by rw [List.length_append, size_T]; exact he)
      obtain ⟨A', C', h1, h2, h3, h4, h5, h6, h7, h8⟩ := ih
      refine ⟨A', C', by rw [← h1]; simp only [nodesF, List.append_assoc], h2, h3, h4, h5, h6, by simp only [sizeF]; omega, ?_⟩
      refine Nat.le_trans h8 ?_
      simp only [packF, List.length_append]
      omega
theorem packF_entries : ∀ (f : Fo) (i : Nat), packF f = (entriesF i f).flatMap fun e => strsN [sEntry, sOpen, sName, e.2.1, sNode] ++ (packT e.2.2 ++ strN sShut)
  | .nil, _ => rfl
  | .cons nm t f, i => by
    simp only [packF, entriesF, List.flatMap_cons, ← packF_entries f (i + sizeT t), List.append_assoc]
theorem entries_len : ∀ (f : Fo) (i : Nat), (entriesF i f).length ≤ sizeF f
  | .nil, _ => Nat.le_refl _
  | .cons nm t f, i => by
    have := entries_len f (i + sizeT t)
    have hs : 1 ≤ sizeT t := by cases t <;> simp [sizeT]
    simp only [entriesF, List.length_cons, sizeF]
    omega
theorem cells3 {W : World} {p : Nat} {a b c : Value} {e : TypeId} {fr : Nat × Nat} (h : W.heap[p]? = some (.cells #[a, b, c] e fr)) : W.cell? ⟨p, 0, none⟩ = some a ∧ W.cell? ⟨p, 1, none⟩ = some b ∧ W.cell? ⟨p, 2, none⟩ = some c := by
  refine ⟨?_, ?_, ?_⟩ <;> simp [World.cell?, h]
set_option maxRecDepth 100000 in
theorem below_any {P at_ : Nat} {p v lv : Value} {l : List Nd} {W : World} {x : Nd} (hP : W.heap[P]? = some (.cells #[p, v, lv] 59 (0, 0))) (hNI : NIn W lv l) (hx : l[at_]? = some x) (hp : x.1.length ≤ 1000000) (_hl : l.length ≤ 1000000) :
    Calls Try.prog 49 #[.pointer (some ⟨P, 0, none⟩), .int .i64 (at_ : Int)] W fun e w' => ∃ bi bt bh, e = .returned (.func (.func 63) #[] #[.pointer (some ⟨bi, 0, none⟩), .pointer (some ⟨bt, 0, none⟩), .pointer (some ⟨bh, 0, none⟩)]) ∧ Below W.heap.size W w' ∧
      w'.heap[bt]? = some (.cells #[.pointer (some ⟨P, 0, none⟩)] 54) ∧ w'.heap[bi]? = some (.cells #[.int .i64 (at_ : Int)] 3) ∧ w'.heap[bh]? = some (.cells #[strV (headN x.1)] 9) := by
  obtain ⟨A, c, rfl⟩ := hNI.form
  obtain ⟨g, off, rfl, g1, g2, -, -⟩ := nin_at hNI at_ x hx
  have hlt := (List.getElem?_eq_some_iff.1 hx).1
  obtain ⟨-, -, h3⟩ := cells3 hP
  have q4 : has W P := has_box hP
  have hd : decide ((at_ : Int) < (l.length : Int)) = true := by simp; omega
  obtain ⟨pth, k, d⟩ := x
  dsimp only at g2 hp ⊢
  clear hNI hx hP
  go_enter Try.func49, Try.ntmps49
  go_wp2_with fail
  obtain ⟨V, hV⟩ : ∃ V, (W.alloc (.cells #[.pointer (some ⟨P, 0, none⟩)] 54)).alloc (.cells #[.int .i64 (at_ : Int)] 3) = V := ⟨_, rfl⟩
  have hB : Below W.heap.size W V := by rw [← hV]; exact ((Below.refl _ W).alloc (Nat.le_refl _) _).alloc (by simp) _
  have hsz : V.heap.size = W.heap.size + 1 + 1 := by rw [← hV]; simp
  have b1 : V.heap[W.heap.size]? = some (.cells #[.pointer (some ⟨P, 0, none⟩)] 54) := by
    rw [← hV]
    exact (Below.heap_alloc _ _ _ (by simp)).trans (new_at W _)
  have b2 : V.heap[W.heap.size + 1]? = some (.cells #[.int .i64 (at_ : Int)] 3) := by
    rw [← hV]
    have := new_at (W.alloc (.cells #[.pointer (some ⟨P, 0, none⟩)] 54)) (.cells #[.int .i64 (at_ : Int)] 3)
    simpa using this
  have q1 : V.cell? ⟨W.heap.size, 0, none⟩ = some (.pointer (some ⟨P, 0, none⟩)) := by simp [World.cell?, b1]
  have q2 : V.cell? ⟨W.heap.size + 1, 0, none⟩ = some (.int .i64 (at_ : Int)) := by simp [World.cell?, b2]
  have q3 : V.cell? ⟨P, 2, none⟩ = some (.slice (some ⟨g, off, none⟩) l.length c) := (cell_below (a := ⟨P, 2, none⟩) hB (show P < W.heap.size from q4)).trans h3
  have q5 : V.cell? ⟨g, off + at_ * 3, none⟩ = some (strV pth) := (cell_below (a := ⟨g, off + at_ * 3, none⟩) hB (show g < W.heap.size from g1)).trans g2
  have q6 : has V P := by unfold has at q4 ⊢; have := hB.size; omega
  have q7 : has V g := by unfold has at g1 ⊢; have := hB.size; omega
  rw [hV]
  have HB := Lib.hid hB
  have HB1 := Lib.hid b1
  have HB2 := Lib.hid b2
  have HSZ := Lib.hid hsz
  clear hB b1 b2 hsz hV h3 g1 g2 q4
  go_region_held3 (fun w' => w'.cell? ⟨W.heap.size, 0, none⟩ = some (.pointer (some ⟨P, 0, none⟩)) ∧ w'.cell? ⟨W.heap.size + 1, 0, none⟩ = some (.int .i64 (at_ : Int)) ∧ w'.cell? ⟨P, 2, none⟩ = some (.slice (some ⟨g, off, none⟩) l.length c) ∧ w'.cell? ⟨g, off + at_ * 3, none⟩ = some (strV pth)) (first | go_keep | exact ⟨q1, q2, q3, q5⟩) (first | exact trivial)
  obtain ⟨U, hU⟩ : ∃ U, (V.alloc (.cells #[strV pth] 9)).drew = U := ⟨_, rfl⟩
  have hUb : Below V.heap.size V U := by rw [← hU]; exact ((Below.refl _ V).alloc (Nat.le_refl _) _).drew
  have b3 : U.heap[V.heap.size]? = some (.cells #[strV pth] 9) := by rw [← hU]; exact new_at V _
  have f3 : U.frozen? ⟨V.heap.size, 0, none⟩ = false := Lib.frozen_of_heap b3 0
  have q8 : U.cell? ⟨V.heap.size, 0, none⟩ = some (strV pth) := by simp [World.cell?, b3]
  have HBU := Lib.hid (HB.out.trans (hUb.mono HB.out.size))
  have HU1 := Lib.hid (keeps_below HB1.out hUb)
  have HU2 := Lib.hid (keeps_below HB2.out hUb)
  have HU3 := Lib.hid b3
  rw [hU]
  clear hU hUb b3 q1 q2 q3 q5 q6 q7 HB1 HB2 hd hlt
  by_cases hp0 : pth = []
  · subst hp0
    go_wp2_with fail
    refine bodyPost_ret (v := .func (.func 63) #[] #[.pointer (some ⟨W.heap.size + 1, 0, none⟩), .pointer (some ⟨W.heap.size, 0, none⟩), .pointer (some ⟨V.heap.size, 0, none⟩)]) (by simp [results, Try.results49, go_sem]) rfl ⟨_, _, _, rfl, HBU.out, HU1.out, HU2.out, HU3.out⟩
  · have he : pth.isEmpty = false := by cases pth <;> simp_all
    have hh : headN pth = pth ++ [47] := by simp [headN, he]
    have hsc : (U.setCell ⟨V.heap.size, 0, none⟩ (strV (pth ++ [47]))).heap[V.heap.size]? = some (.cells #[strV (headN pth)] 9) := by rw [hh]; exact setCell_block HU3.out 0 (strV (pth ++ [47]))
    have hkeep : ∀ k o, k ≠ V.heap.size → U.heap[k]? = some o → (U.setCell ⟨V.heap.size, 0, none⟩ (strV (pth ++ [47]))).heap[k]? = some o := fun k o hk ho => (setCell_other U V.heap.size 0 k _ hk).trans ho
    have hbf : Below W.heap.size W (U.setCell ⟨V.heap.size, 0, none⟩ (strV (pth ++ [47]))) := HBU.out.trans ⟨rfl, rfl, rfl, by rw [setCell_size]; exact Nat.le_refl _, fun k hk => setCell_other U V.heap.size 0 k _ (by have := HSZ.out; omega)⟩
    have HF := Lib.hid (And.intro hbf (And.intro (hkeep _ _ (by have := HSZ.out; omega) HU1.out) (And.intro (hkeep _ _ (by have := HSZ.out; omega) HU2.out) hsc)))
    have HPN : Hid (pth ≠ []) := Lib.hid hp0
    clear hh hsc hkeep hbf hp0 HU1 HU2 HU3
    go_wp2_with fail
    refine bodyPost_ret (v := .func (.func 63) #[] #[.pointer (some ⟨W.heap.size + 1, 0, none⟩), .pointer (some ⟨W.heap.size, 0, none⟩), .pointer (some ⟨V.heap.size, 0, none⟩)]) (by simp [results, Try.results49, go_sem]) rfl ⟨_, _, _, rfl, HF.out.1, HF.out.2.1, HF.out.2.2.1, HF.out.2.2.2⟩
end Go.Proofs.Ytmlefodnbbkilaa

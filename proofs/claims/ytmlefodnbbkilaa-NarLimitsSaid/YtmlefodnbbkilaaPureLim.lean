/- Trees at their limits (plain). -/
import Derived.Test.YtmlefodnbbkilaaPureMade
namespace Go.Proofs.Ytmlefodnbbkilaa
/-! A name that may be too long. -/
theorem lim_name (k : Nat) (h1 : 3 ≤ k) : mayN [([], 4, []), (List.replicate k 110, 1, [])] = decide (k ≤ 255) := by
  have hn : (47 : UInt8) ∉ List.replicate k (110 : UInt8) := fun h => by have := List.eq_of_mem_replicate h; revert this; decide
  have hz : (0 : UInt8) ∉ List.replicate k (110 : UInt8) := fun h => by have := List.eq_of_mem_replicate h; revert this; decide
  have hmn : mayNameN (List.replicate k 110) = decide (k ≤ 255) := by
    unfold mayNameN
    have e1 : (List.replicate k (110 : UInt8)).isEmpty = false := by cases k with | zero => omega | succ k => rfl
    have e2 : (List.replicate k (110 : UInt8)).contains 0 = false := by simp
    have e3 : (List.replicate k (110 : UInt8)).contains 47 = false := by simp
    have e4 : (List.replicate k (110 : UInt8) != [46]) = true := by
      simp only [bne_iff_ne, ne_eq]
      intro e
      have := congrArg List.length e
      simp at this
      omega
    have e5 : (List.replicate k (110 : UInt8) != [46, 46]) = true := by
      simp only [bne_iff_ne, ne_eq]
      intro e
      have := congrArg List.length e
      simp at this
      omega
    rw [e1, e2, e3, e4, e5]
    simp
  by_cases hk : k ≤ 255
  · have hd : decide (k ≤ 255) = true := by simpa using hk
    rw [hd] at hmn ⊢
    have hlt : ltB [] (List.replicate k (110 : UInt8)) = true := by cases k with | zero => omega | succ k => rfl
    have := may_of_tree (.dir (.cons (List.replicate k 110) (.file []) .nil)) (by simp only [okT, okF]; exact ⟨hmn, hlt, by omega, by simp, trivial⟩) (by simp [nodesT, nodesF])
    simpa [nodesT, nodesF, joinP] using this
  · have hd : decide (k ≤ 255) = false := by simpa using hk
    rw [hd] at hmn ⊢
    rw [← mayR_eq]
    have hc : (cutR (List.replicate k (110 : UInt8))).2 = List.replicate k 110 := by
      unfold cutR
      rw [(cutN_none _).2 hn]
    simp [mayR, hc, hmn]
/-! Directories in directories. -/
def dp : Nat → Bs
  | 0 => []
  | i + 1 => joinP (dp i) [100]
def chT : Nat → Fo
  | 0 => .nil
  | m + 1 => .cons [100] (.dir (chT m)) .nil
def chL (m : Nat) : List Nd := (List.range m).map fun i => (dp (i + 1), 4, [])
theorem dp_first (i : Nat) : dp (i + 1) = (if i = 0 then [100] else dp i ++ [47, 100]) := by
  show joinP (dp i) [100] = _
  unfold joinP
  cases i with
  | zero => rfl
  | succ i =>
    have : (dp (i + 1)).isEmpty = false := by
      have := join_long (p := dp i) (nm := [100]) (by simp)
      show (joinP (dp i) [100]).isEmpty = false
      cases h : joinP (dp i) [100] with
      | nil => rw [h] at this; simp at this
      | cons a l => rfl
    rw [this]
    simp
theorem dp_len : ∀ i, (dp (i + 1)).length = 2 * i + 1
  | 0 => rfl
  | i + 1 => by rw [dp_first, if_neg (by omega), List.length_append, dp_len i]; simp; omega
theorem chT_ok : ∀ (m deep : Nat), deep + m ≤ 64 → okF deep [] (chT m)
  | 0, _, _ => trivial
  | m + 1, deep, h => by
    simp only [chT, okF, okT]
    exact ⟨by decide, by decide, by omega, chT_ok m (deep + 1) (by omega), trivial⟩
theorem chT_nodes : ∀ (m j : Nat), nodesF (dp j) (chT m) = (List.range m).map fun i => (dp (j + i + 1), 4, [])
  | 0, _ => rfl
  | m + 1, j => by
    have ih := chT_nodes m (j + 1)
    simp only [chT, nodesF, nodesT, List.append_nil]
    rw [show joinP (dp j) [100] = dp (j + 1) from rfl, ih, List.range_succ_eq_map, List.map_cons, List.map_map]
    refine congrArg _ (List.map_congr_left fun i _ => ?_)
    simp only [Function.comp_apply]
    rw [show j + 1 + i + 1 = j + i.succ + 1 by omega]
theorem dn_dp : ∀ i, dn (dp i) = i ∧ deepN (dp (i + 1)) = i + 1
  | 0 => ⟨rfl, rfl⟩
  | i + 1 => by
    have h1 := deep_join (p := dp i) (nm := [100]) (by simp) (by decide)
    have h2 := deep_join (p := dp (i + 1)) (nm := [100]) (by simp) (by decide)
    have ih := dn_dp i
    have e : dn (dp (i + 1)) = i + 1 := by rw [show dp (i + 1) = joinP (dp i) [100] from rfl, h1.2, ih.1]
    exact ⟨e, by rw [show dp (i + 1 + 1) = joinP (dp (i + 1)) [100] from rfl, h2.1, e]⟩
theorem lim_deep (m : Nat) (h0 : 1 ≤ m) (h : m ≤ 200) : mayN (([], 4, []) :: chL m) = decide (m ≤ 64) := by
  by_cases hm : m ≤ 64
  · have hd : decide (m ≤ 64) = true := by simpa using hm
    rw [hd]
    have e := chT_nodes m 0
    simp only [Nat.zero_add] at e
    have e2 : chL m = nodesF [] (chT m) := e.symm
    rw [e2]
    exact may_of_tree (.dir (chT m)) (by simp only [okT]; exact chT_ok m 0 (by omega)) (by simp only [nodesT, List.length_cons, ← e2, chL]; simp; omega)
  · have hd : decide (m ≤ 64) = false := by simpa using hm
    rw [hd, ← mayR_eq]
    have hmem : ((dp (m - 1 + 1), 4, []) : Nd) ∈ chL m := List.mem_map.2 ⟨m - 1, by simp; omega, rfl⟩
    have hbad : (chL m).all (fun y => mayNameN (cutR y.1).2 && decide (deepN y.1 ≤ 64) && mayNodeN y) = false := by
      rw [List.all_eq_false]
      refine ⟨_, hmem, ?_⟩
      have : decide (deepN (dp (m - 1 + 1)) ≤ 64) = false := by rw [(dn_dp (m - 1)).2]; simp; omega
      simp [this]
    simp only [mayR, hbad]
    simp
/-! Data. -/
theorem lim_data (k : Nat) : mayN [([], 1, List.replicate k 0)] = decide (k ≤ 65536) := by
  simp only [mayN, mayNodeN, List.all_cons, List.all_nil]
  simp [runN]
/-! Nodes. -/
def nm2 (i : Nat) : Bs := [UInt8.ofNat (97 + i / 26 % 26), UInt8.ofNat (97 + i % 26)]
def flT : Nat → Nat → Fo
  | 0, _ => .nil
  | m + 1, j => .cons (nm2 j) (.file []) (flT m (j + 1))
def flL (m j : Nat) : List Nd := (List.range m).map fun i => (nm2 (j + i), 1, [])
theorem nm2_ok : ∀ i, i < 300 → mayNameN (nm2 i) = true ∧ ltB (nm2 i) (nm2 (i + 1)) = true := by decide +kernel
theorem flT_ok : ∀ (m j : Nat) (last : Bs), j + m ≤ 300 → ltB last (nm2 j) = true → okF 0 last (flT m j)
  | 0, _, _, _, _ => trivial
  | m + 1, j, last, h, hl => by
    have := nm2_ok j (by omega)
    simp only [flT, okF, okT]
    exact ⟨this.1, hl, by omega, by simp, flT_ok m (j + 1) _ (by omega) this.2⟩
theorem flT_nodes : ∀ (m j : Nat), nodesF [] (flT m j) = flL m j
  | 0, _ => rfl
  | m + 1, j => by
    have ih := flT_nodes m (j + 1)
    simp only [flT, nodesF, nodesT]
    rw [ih]
    unfold flL
    rw [List.range_succ_eq_map, List.map_cons, List.map_map]
    show ([(joinP [] (nm2 j), 1, [])] ++ _ : List Nd) = _
    rw [show joinP [] (nm2 j) = nm2 (j + 0) from rfl, List.singleton_append]
    refine congrArg _ (List.map_congr_left fun i _ => ?_)
    simp only [Function.comp_apply]
    rw [show j + 1 + i = j + i.succ by omega]
theorem lim_nodes (m : Nat) (h : m ≤ 290) : mayN (([], 4, []) :: flL m 1) = decide (m < 256) := by
  by_cases hm : m < 256
  · have hd : decide (m < 256) = true := by simpa using hm
    rw [hd, ← flT_nodes]
    exact may_of_tree (.dir (flT m 1)) (by simp only [okT]; exact flT_ok m 1 _ (by omega) (by rfl)) (by simp only [nodesT, List.length_cons, flT_nodes, flL]; simp; omega)
  · have hd : decide (m < 256) = false := by simpa using hm
    rw [hd]
    have : decide ((flL m 1).length < 256) = false := by simp [flL]; omega
    simp only [mayN, this]
    simp
theorem chL_succ (m : Nat) : chL (m + 1) = chL m ++ [(dp (m + 1), 4, [])] := by simp [chL, List.range_succ]
theorem flL_succ (m : Nat) : flL (m + 1) 1 = flL m 1 ++ [(nm2 (m + 1), 1, [])] := by simp [flL, List.range_succ, Nat.add_comm]
end Go.Proofs.Ytmlefodnbbkilaa

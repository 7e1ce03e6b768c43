/- The plain side: sectors put, kept, read. -/
import Derived.Test.YtojgfaichkcmpaaIRow
namespace Go.Proofs.Ytojgfaichkcmpaa
open Go.RowKit

theorem getD_set_ne (F : List (List UInt8)) (i j : Nat) (s : List UInt8) (h : i ≠ j) : (F.set i s).getD j [] = F.getD j [] := by
  simp [List.getElem?_set_ne h]
theorem getD_set_eq (F : List (List UInt8)) (i : Nat) (s : List UInt8) (h : i < F.length) : (F.set i s).getD i [] = s := by
  simp [h]
theorem putAll_other (j : Nat) : ∀ (l : List (Nat × List UInt8)) (F : List (List UInt8)), (∀ x ∈ l, x.1 ≠ j) → (putAll F l).getD j [] = F.getD j []
  | [], _, _ => rfl
  | x :: l, F, h => by
    show (putAll (F.set x.1 x.2) l).getD j [] = _
    rw [putAll_other j l _ (fun y hy => h y (List.mem_cons_of_mem _ hy)), getD_set_ne _ _ _ _ (h x List.mem_cons_self)]
theorem keptN_mem (zs : List Int) : ∀ (l : List (Nat × List UInt8)) (i : Nat) (x : Nat × List UInt8), x ∈ keptN zs i l → x ∈ l
  | [], _, _, h => h
  | y :: l, i, x, h => by
    unfold keptN at h
    split at h
    · rcases List.mem_cons.1 h with h | h
      · exact h ▸ List.mem_cons_self
      · exact List.mem_cons_of_mem _ (keptN_mem zs l (i + 1) x h)
    · exact List.mem_cons_of_mem _ (keptN_mem zs l (i + 1) x h)
theorem keptN_all (zs : List Int) : ∀ (l : List (Nat × List UInt8)) (i : Nat), (∀ j, j < l.length → zs.contains ((i + j : Nat) : Int) = true) → keptN zs i l = l
  | [], _, _ => rfl
  | y :: l, i, h => by
    have h0 := h 0 (by simp)
    rw [Nat.add_zero] at h0
    unfold keptN
    rw [if_pos h0, keptN_all zs l (i + 1) (fun j hj => by
      have := h (j + 1) (by simpa using hj)
      rwa [show i + 1 + j = i + (j + 1) by omega])]
theorem keptN_none (zs : List Int) : ∀ (l : List (Nat × List UInt8)) (i : Nat), (∀ j, j < l.length → zs.contains ((i + j : Nat) : Int) = false) → keptN zs i l = []
  | [], _, _ => rfl
  | y :: l, i, h => by
    have h0 := h 0 (by simp)
    rw [Nat.add_zero] at h0
    unfold keptN
    rw [if_neg (by rw [h0]; exact Bool.noConfusion), keptN_none zs l (i + 1) (fun j hj => by
      have := h (j + 1) (by simpa using hj)
      rwa [show i + 1 + j = i + (j + 1) by omega])]
/-- A disk with nothing loose. -/
def calm (F : List (List UInt8)) : DS := { firm := F, loose := [], down := false, fuse := -1 }
theorem calm_new (n : Nat) : DS.new n = calm (List.replicate n zeroS) := rfl
theorem calm_read (F : List (List UInt8)) (j : Nat) (h : j < F.length) : (calm F).read j = (F.getD j [], 0) := by
  unfold DS.read
  rw [if_neg (by simp [calm]), if_neg (by simp [calm]; omega)]
  rfl
theorem crash_calm (S : DS) (zs : List Int) : S.crash zs = calm (putAll S.firm (keptN zs 0 S.loose)) := rfl
theorem flush_calm (S : DS) (h : S.down = false) (hf : S.fuse = -1) : S.flush = (calm (putAll S.firm S.loose), 0) := by
  unfold DS.flush calm
  rw [if_neg (by simp [h]), h, hf]
theorem zero_at (n j : Nat) (h : j < n) : (List.replicate n zeroS).getD j [] = zeroS := by simp [h]
theorem secN_nil : secN [] = zeroS := rfl
end Go.Proofs.Ytojgfaichkcmpaa

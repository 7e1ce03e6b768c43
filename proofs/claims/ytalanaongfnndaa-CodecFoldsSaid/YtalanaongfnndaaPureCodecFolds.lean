/- CodecFolds, over bytes alone: folded bytes of two texts are both folded, one upon the other. -/
import Derived.Test.YtalanaongfnndaaG1
namespace Go.Proofs.Ytalanaongfnndaa.Pure
open Go.RowKit Go.Proofs.Ytalanaongfnndaa Go.Proofs.Ytalanaongfnndaa.G Go.Proofs.YtalanaongfnndaaW.PrintWords Go.Proofs.YtalanaongfnndaaW.PrintLast

/-- What lies in place i behind k bytes. -/
def xr (l : List UInt8) (n i : Nat) : Nat → UInt8
  | 0 => 0
  | k + 1 => if k % n = i then xr l n i k ^^^ l.getD k 0 else xr l n i k
theorem foldS_at (l : List UInt8) (n i : Nat) (hi : i < n) : ∀ k, (foldS l n k).getD i 0 = xr l n i k
  | 0 => by simp [foldS, xr, hi]
  | k + 1 => by
    have ih := foldS_at l n i hi k
    have hl := foldS_length l n k
    rw [foldS, xr, getD_set (by rw [hl]; exact Nat.mod_lt _ (by omega))]
    by_cases h : k % n = i
    · rw [if_pos h, if_pos h, h, ih]
    · rw [if_neg h, if_neg h, ih]
theorem xr_left (s t : List UInt8) (n i : Nat) : ∀ k, k ≤ s.length → xr (s ++ t) n i k = xr s n i k
  | 0, _ => rfl
  | k + 1, h => by
    have : (s ++ t).getD k 0 = s.getD k 0 := by simp [List.getElem?_append, show k < s.length by omega]
    rw [xr, xr, xr_left s t n i k (by omega), this]
theorem xr_both (s t : List UInt8) (n i : Nat) (hd : n ∣ s.length) : ∀ k, xr (s ++ t) n i (s.length + k) = xr s n i s.length ^^^ xr t n i k
  | 0 => by rw [Nat.add_zero, xr_left s t n i _ (Nat.le_refl _), xr, UInt8.xor_zero]
  | k + 1 => by
    have hm : (s.length + k) % n = k % n := by
      obtain ⟨q, hq⟩ := hd
      rw [hq, Nat.mul_add_mod]
    have hg : (s ++ t).getD (s.length + k) 0 = t.getD k 0 := by
      rw [List.getD_eq_getElem?_getD, List.getElem?_append_right (by omega), Nat.add_sub_cancel_left, List.getD_eq_getElem?_getD]
    rw [← Nat.add_assoc, xr, xr_both s t n i hd k, xr, hm, hg]
    by_cases h : k % n = i
    · rw [if_pos h, if_pos h, UInt8.xor_assoc]
    · rw [if_neg h, if_neg h]
theorem xr_self (a : List UInt8) (n i : Nat) (hi : i < n) : ∀ k, k ≤ n → xr a n i k = if i < k then a.getD i 0 else 0
  | 0, _ => by simp [xr]
  | k + 1, h => by
    rw [xr, xr_self a n i hi k (by omega), Nat.mod_eq_of_lt (show k < n by omega)]
    by_cases h1 : k = i
    · subst h1
      rw [if_pos rfl, if_neg (by omega), if_pos (by omega), UInt8.zero_xor]
    · rw [if_neg h1]
      by_cases h2 : i < k
      · rw [if_pos h2, if_pos (by omega)]
      · rw [if_neg h2, if_neg (by omega)]
theorem fold_self (a : List UInt8) (n : Nat) (hn : a.length = n) : foldS a n a.length = a := by
  apply List.ext_getElem (by rw [foldS_length, hn])
  intro i h1 h2
  have h3 := foldS_at a n i (by omega) a.length
  rw [xr_self a n i (by omega) a.length (by omega), if_pos h2] at h3
  simp [h1, h2] at h3
  exact h3

theorem fold_f (l : List UInt8) (m : Nat) (hl : l.length ≤ 1000000) (h1 : 1 ≤ m) (h2 : m ≤ 64) : codec_Fold.f (ba l) (m : Int) = some (ba (foldS l m l.length)) := by
  unfold codec_Fold.f
  rw [if_pos (show (ba l).size ≤ 1000000 from hl)]
  unfold foldN
  rw [if_neg (by omega)]
  rfl
theorem fold_none (l : List UInt8) (n : Int) (hl : l.length ≤ 1000000) (h : n < 1 ∨ n > 64) : codec_Fold.f (ba l) n = some (ba []) := by
  unfold codec_Fold.f
  rw [if_pos (show (ba l).size ≤ 1000000 from hl)]
  unfold foldN
  rw [if_pos h]
theorem awake_f : shelfmarklaw5_awake.f = some true := by decide +kernel
theorem ba_size (l : List UInt8) : (ba l).size = l.length := rfl
theorem ba_toList (l : List UInt8) : (ba l).toList = l := by rw [ByteArray.toList_eq]; rfl
theorem bt_ba (l : List UInt8) (i : Nat) (h : i < l.length) : bt (ba l) (i : Int) = ((l.getD i 0).toNat : Int) := by
  unfold bt
  rw [dif_pos (show ((i : Int)).toNat < (ba l).size from h)]
  simp [h]
  rfl

theorem folds_loop (s a b c : List UInt8) (m : Nat) (ha : a.length = m) (hb : b.length = m) (hc : c.length = m) (h1 : 1 ≤ m) (h2 : m ≤ 64) (hs : s.length ≤ 1000000)
    (hx : ∀ i, i < m → c.getD i 0 = a.getD i 0 ^^^ b.getD i 0) (hf : foldS a m a.length = a) (d : Nat) : ∀ (k i : Nat), i + d = m → d < k →
    shelfmarklaw5_CodecFolds.l0 k (ba s) (m : Int) (ba a) (ba b) (ba c) (i : Int) = some true := by
  induction d with
  | zero =>
    intro k i hi hk
    obtain ⟨k, rfl⟩ : ∃ j, k = j + 1 := ⟨k - 1, by omega⟩
    simp only [shelfmarklaw5_CodecFolds.l0]
    rw [if_neg (by omega), fold_f a m (by omega) h1 h2, hf]
    simp only [Option.bind_some]
    rw [if_pos trivial, show (0 : Int) = 0 from rfl, fold_none s 0 hs (by omega)]
    simp only [Option.bind_some]
    rw [if_pos (by rw [ba_toList]), fold_none s 65 hs (by omega)]
    simp only [Option.bind_some]
    rw [if_pos (by rw [ba_toList]), awake_f]
    rfl
  | succ d ih =>
    intro k i hi hk
    obtain ⟨k, rfl⟩ : ∃ j, k = j + 1 := ⟨k - 1, by omega⟩
    simp only [shelfmarklaw5_CodecFolds.l0]
    rw [if_pos (by omega), if_pos (by omega), if_pos (by rw [ba_size]; omega), if_pos (by rw [ba_size]; omega), if_pos (by rw [ba_size]; omega), bt_ba a i (by omega), bt_ba b i (by omega), bt_ba c i (by omega), xor_u8, hx i (by omega), if_pos rfl]
    rw [show wrap64 ((i : Int) + 1) = ((i + 1 : Nat) : Int) by unfold wrap64; omega]
    exact ih k (i + 1) (by omega) (by omega)

theorem CodecFolds : shelfmarklaw5_CodecFolds.Pure := by
  intro a0 a1 a2 _ _ h2
  obtain ⟨s, rfl⟩ : ∃ s, a0 = ba s := ⟨a0.data.toList, rfl⟩
  obtain ⟨t, rfl⟩ : ∃ t, a1 = ba t := ⟨a1.data.toList, rfl⟩
  obtain ⟨m, hm, h1, h64⟩ : ∃ m : Nat, wrap64 (1 + (Int.tmod (wrap64 a2) 64)) = (m : Int) ∧ 1 ≤ m ∧ m ≤ 64 := by
    simp [Lit.wf, IntKind.min, IntKind.max, IntKind.signed, IntKind.bits] at h2
    have e : wrap64 a2 = a2 := by unfold wrap64; omega
    have e2 : Int.tmod a2 64 = a2 % 64 := Int.tmod_eq_emod_of_nonneg (by omega)
    refine ⟨(1 + a2 % 64).toNat, ?_, by omega, by omega⟩
    rw [e, e2]
    unfold wrap64
    omega
  refine ⟨m + 3, ?_⟩
  unfold shelfmarklaw5_CodecFolds.f
  rw [hm]
  have hlong : ∀ x y, shelfmarklaw5_CodecFolds.j0 (m + 3) x y (m : Int) true = some true := fun x y => by
    simp only [shelfmarklaw5_CodecFolds.j0]
    rw [if_pos trivial, awake_f]
    rfl
  by_cases hs : s.length > 300
  · rw [if_pos (show (((ba s).size : Nat) : Int) > 300 by show ((s.length : Nat) : Int) > 300; omega)]
    exact hlong _ _
  · rw [if_neg (show ¬ (((ba s).size : Nat) : Int) > 300 by show ¬ ((s.length : Nat) : Int) > 300; omega)]
    by_cases ht : t.length > 300
    · rw [show decide ((((ba t).size : Nat) : Int) > 300) = true from decide_eq_true (show ((t.length : Nat) : Int) > 300 by omega)]
      exact hlong _ _
    · rw [show decide ((((ba t).size : Nat) : Int) > 300) = false from decide_eq_false (show ¬ ((t.length : Nat) : Int) > 300 by omega)]
      obtain ⟨q, hq⟩ : ∃ q, s.length / m * m = q := ⟨_, rfl⟩
      have hqs : q ≤ s.length := by rw [← hq]; exact Nat.div_mul_le_self _ _
      have hw : wrap64 ((wrap64 ((((ba s).size : Nat) : Int) / (m : Int))) * (m : Int)) = (q : Int) := by
        show wrap64 ((wrap64 (((s.length : Nat) : Int) / (m : Int))) * (m : Int)) = (q : Int)
        obtain ⟨dd, hdd⟩ : ∃ dd, s.length / m = dd := ⟨_, rfl⟩
        have e1 : ((s.length : Nat) : Int) / (m : Int) = (dd : Int) := by rw [← hdd]; simp
        have e2 : dd ≤ 300 := by rw [← hdd]; exact Nat.le_trans (Nat.div_le_self _ _) (by omega)
        have e3 : (dd : Int) * (m : Int) = (q : Int) := by rw [← hq, hdd]; simp
        rw [e1, show wrap64 (dd : Int) = (dd : Int) by unfold wrap64; omega, e3]
        unfold wrap64
        omega
      have hex : (ba s).extract 0 ((q : Int)).toNat = ba (s.take q) := by
        apply ByteArray.ext
        simp [ba]
      obtain ⟨u, hu⟩ : ∃ u, s.take q = u := ⟨_, rfl⟩
      have hul : u.length = q := by rw [← hu]; simp; omega
      have hdvd : m ∣ u.length := by rw [hul, ← hq]; exact Nat.dvd_mul_left _ _
      simp only [shelfmarklaw5_CodecFolds.j0]
      rw [hw, hex, hu, if_neg (by simp), if_neg (by omega), if_pos (by omega), if_pos (by rw [ba_size]; omega), fold_f u m (by omega) h1 h64]
      simp only [Option.bind_some]
      rw [fold_f t m (by omega) h1 h64]
      simp only [Option.bind_some]
      have happ : ba u ++ ba t = ba (u ++ t) := by
        apply ByteArray.ext
        simp [ba]
      rw [if_pos (show (ba u).size + (ba t).size ≤ 9223372036854775807 by rw [ba_size, ba_size]; omega), happ, fold_f (u ++ t) m (by simp; omega) h1 h64]
      simp only [Option.bind_some]
      rw [if_pos (by rw [ba_size, foldS_length]), if_pos (by rw [ba_size, foldS_length]), show ((((ba (foldS (u ++ t) m (u ++ t).length)).size : Nat) : Int) != (m : Int)) = false by rw [ba_size, foldS_length]; simp]
      simp only [shelfmarklaw5_CodecFolds.j1]
      rw [if_neg (by simp)]
      have hla := foldS_length u m u.length
      exact folds_loop u (foldS u m u.length) (foldS t m t.length) (foldS (u ++ t) m (u ++ t).length) m hla (foldS_length _ _ _) (foldS_length _ _ _) h1 h64 (by omega)
        (fun i hi => by rw [foldS_at _ _ _ hi, foldS_at _ _ _ hi, foldS_at _ _ _ hi, List.length_append, xr_both u t m i hdvd]) (fold_self _ m hla) m (m + 1) 0 (by omega) (by omega)
end Go.Proofs.Ytalanaongfnndaa.Pure

/- Walks: what 32 bytes say as a scalar; the laws' own example. -/
import Derived.Test.YtihbjlpohjohpaaSc4
namespace Go.Proofs.Ytihbjlpohjohpaa
open Go.RowKit Go.Shelf

def fromS (l : List UInt8) : Nat × Bool := if l.length = 32 ∧ ofle l < ordN then (ofle l, true) else (0, false)
theorem from_same {l : List UInt8} (h32 : l.length = 32) (h : ofle l < ordN) : le 32 (ofle l % ordN % ordN) = l := by
  rw [Nat.mod_mod, Nat.mod_eq_of_lt h]
  have := le_ofle l
  rwa [h32] at this
theorem from_other {l : List UInt8} (h : ¬ ofle l < ordN) : le 32 (ofle l % ordN % ordN) ≠ l := by
  intro e
  have h2 := ofle_le 32 (ofle l % ordN % ordN)
  rw [e, Nat.mod_mod] at h2
  have h3 : ofle l % ordN < ordN := Nat.mod_lt _ ordN_pos
  have h4 : ofle l % ordN % 256 ^ 32 ≤ ofle l % ordN := Nat.mod_le _ _
  omega

set_option maxRecDepth 100000 in
theorem fromS_any (l : List UInt8) (w : World) (hl : l.length ≤ 9223372036854775807) : Ret Try.prog 37 #[strV l] w (.tuple #[numV (fromS l).1, .bool (fromS l).2]) := by
  refine Ret.of ?_
  by_cases h32 : l.length = 32
  · have hr : redN l = ofle l % ordN := by unfold redN; rw [List.take_of_length_le (by omega)]
    have h1 := @from_same l h32
    have h2 := @from_other l
    have HF := Lib.hid (show fromS l = if ofle l < ordN then (ofle l, true) else (0, false) by simp [fromS, h32])
    have HO := Lib.hid (ord4 (ofle l))
    obtain ⟨n, hn⟩ : ∃ n, ofle l = n := ⟨_, rfl⟩
    rw [hn] at hr h1 h2 HF HO
    clear hn
    go_enter Try.func37, Try.ntmps37
    go_wp2_with fail
    have H1 := Lib.hid h1
    have H2 := Lib.hid h2
    have HR := Lib.hid hr
    clear h1 h2 hr
    refine (reduce_any l _ hl).out.mono ?_
    rintro _ _ ⟨rfl, x1, rfl⟩
    rw [HR.out]
    go_wp2_with fail
    refine (bytesS_any (n % ordN) _ HO.out).out.mono ?_
    rintro _ _ ⟨rfl, x2, rfl⟩
    obtain ⟨s, hs⟩ : ∃ s, le 32 (n % ordN % ordN) = s := ⟨_, rfl⟩
    have HS := Lib.hid hs
    rw [hs]
    clear hs
    by_cases hp : n < ordN
    · have hs := HS.out
      rw [H1.out hp] at hs
      subst hs
      go_wp2_with fail
      refine bodyPost_ret (v := .tuple #[numV (fromS l).1, .bool (fromS l).2]) (by rw [HF.out, if_pos hp, Nat.mod_eq_of_lt hp]; simp [results, Try.results37, go_sem]) rfl ⟨rfl, ?_⟩
      repeat (first | exact Below.refl _ _ | refine Below.setCell ?_ (by first | (simp; done) | (simp; omega) | (simp [size_plus]; done) | (simp [size_plus]; omega)) _ | refine Below.alloc ?_ (by first | (simp; done) | (simp; omega) | (simp [size_plus]; done) | (simp [size_plus]; omega)) _ | refine Below.drew ?_ | refine Below.plus ?_ (by first | (simp; done) | (simp; omega) | (simp [size_plus]; done) | (simp [size_plus]; omega)) _)
    · have hne : (s == l) = false := by
        have h := H2.out hp
        rw [HS.out] at h
        simpa using h
      go_wp2_with fail
      refine bodyPost_ret (v := .tuple #[numV (fromS l).1, .bool (fromS l).2]) (by rw [HF.out, if_neg hp]; simp [results, Try.results37, go_sem]; exact ⟨rfl, rfl, rfl, rfl⟩) rfl ⟨rfl, ?_⟩
      repeat (first | exact Below.refl _ _ | refine Below.setCell ?_ (by first | (simp; done) | (simp; omega) | (simp [size_plus]; done) | (simp [size_plus]; omega)) _ | refine Below.alloc ?_ (by first | (simp; done) | (simp; omega) | (simp [size_plus]; done) | (simp [size_plus]; omega)) _ | refine Below.drew ?_ | refine Below.plus ?_ (by first | (simp; done) | (simp; omega) | (simp [size_plus]; done) | (simp [size_plus]; omega)) _)
  · go_enter Try.func37, Try.ntmps37
    go_wp2_with fail
    refine bodyPost_ret (v := .tuple #[numV (fromS l).1, .bool (fromS l).2]) (by rw [fromS, if_neg (fun h => h32 h.1)]; simp [results, Try.results37, go_sem]; exact ⟨rfl, rfl, rfl, rfl⟩) rfl ⟨rfl, ?_⟩
    repeat (first | exact Below.refl _ _ | refine Below.setCell ?_ (by first | (simp; done) | (simp; omega) | (simp [size_plus]; done) | (simp [size_plus]; omega)) _ | refine Below.alloc ?_ (by first | (simp; done) | (simp; omega) | (simp [size_plus]; done) | (simp [size_plus]; omega)) _ | refine Below.drew ?_ | refine Below.plus ?_ (by first | (simp; done) | (simp; omega) | (simp [size_plus]; done) | (simp [size_plus]; omega)) _)
end Go.Proofs.Ytihbjlpohjohpaa

/- Walks: what the reference reads of bytes. -/
import Derived.Test.YtihbjlpohjohpaaRef6b
namespace Go.Proofs.Ytihbjlpohjohpaa
open Go.RowKit

theorem byte_at (l : List UInt8) (i : Nat) (h : i < l.length) : (⟨l.toArray⟩ : ByteArray)[i]'(by simpa [ByteArray.size] using h) = l[i] := rfl

set_option maxRecDepth 100000 in
set_option maxHeartbeats 1000000 in
theorem number_any (l : List UInt8) (w : World) : Ret Try.prog 54 #[strV l] w (numV (ofle (l.take 32))) := by
  refine Ret.of ?_
  go_enter Try.func54, Try.ntmps54
  go_wp2_with fail
  go_loopw [4] (fun v wr => ∃ i : Nat, i ≤ 32 ∧ i ≤ l.length ∧ v = .int .i64 i ∧ ∃ x : Ext, wr = plus ((w.alloc (.cells #[.int .u64 0, .int .u64 0, .int .u64 0, .int .u64 0] 24)).alloc (.cells (wordsOf (ofle (l.take i))) 24)) x) (fun v _ => 32 - (intOf v).toNat)
  case atStart => exact ⟨0, by omega, by omega, rfl, ⟨#[], w.drawn⟩, by rw [show wordsOf (ofle (l.take 0)) = #[.int .u64 0, .int .u64 0, .int .u64 0, .int .u64 0] by simp [wordsOf, ofle, nw]]; exact (plus_none _).symm⟩
  case round =>
    obtain ⟨i, hi, hil, rfl, x, rfl⟩ := hrel
    by_cases h1 : i < l.length
    · have d1 : decide ((i : Int) < (l.length : Int)) = true := by simp; omega
      by_cases h2 : i < 32
      · have d2 : decide ((i : Int) < 32) = true := by simp; omega
        obtain ⟨b, hbe⟩ : ∃ b, l.getD i 0 = b := ⟨_, rfl⟩
        have HB := Lib.hid hbe
        have hb256 := b.toNat_lt
        have hgb : l[i] = b := by rw [← hbe]; simp [h1]
        clear hbe
        have HM := Lib.hid (take_lt_ofle l i (by omega))
        have HS := Lib.hid (take_succ_ofle l i (by omega))
        generalize hm : ofle (l.take i) = m at *
        clear hm
        have hw := word_get m (i / 8) (by omega)
        have hi4 : (i : Int) / 8 < 4 := by omega
        go_wp2_with fail
        go_region
        go_wp2_with fail
        go_roundw
        case rel =>
          obtain ⟨k1, k2⟩ := word_more HM.out hb256
          refine ⟨i + 1, by omega, by omega, by go_num, ⟨x.blocks, x.draws + 1⟩, ?_⟩
          rw [HS.out, HB.out, ← words_set HM.out hb256 h2]
          rw [byte_at l i h1, hgb, wrap_u64_nat b.toNat (by omega), or_byte k1 (by omega) hb256]
          simp
        case measure => simp [intOf]; omega
      · obtain rfl : i = 32 := by omega
        go_wp2_with fail
        refine bodyPost_ret (v := numV (ofle (l.take 32))) (by simp [results, Try.results54, go_sem]) rfl ⟨rfl, ?_⟩
        repeat (first | exact Below.refl _ _ | refine Below.setCell ?_ (by first | (simp; done) | (simp; omega) | (simp [size_plus]; done) | (simp [size_plus]; omega)) _ | refine Below.alloc ?_ (by first | (simp; done) | (simp; omega) | (simp [size_plus]; done) | (simp [size_plus]; omega)) _ | refine Below.drew ?_ | refine Below.plus ?_ (by first | (simp; done) | (simp; omega) | (simp [size_plus]; done) | (simp [size_plus]; omega)) _)
    · have he : l.take i = l.take 32 := by
        rw [List.take_of_length_le (by omega), List.take_of_length_le (by omega)]
      have d1 : decide ((i : Int) < (l.length : Int)) = false := by simp; omega
      rw [he]
      go_wp2_with fail
      refine bodyPost_ret (v := numV (ofle (l.take 32))) (by simp [results, Try.results54, go_sem]) rfl ⟨rfl, ?_⟩
      repeat (first | exact Below.refl _ _ | refine Below.setCell ?_ (by first | (simp; done) | (simp; omega) | (simp [size_plus]; done) | (simp [size_plus]; omega)) _ | refine Below.alloc ?_ (by first | (simp; done) | (simp; omega) | (simp [size_plus]; done) | (simp [size_plus]; omega)) _ | refine Below.drew ?_ | refine Below.plus ?_ (by first | (simp; done) | (simp; omega) | (simp [size_plus]; done) | (simp [size_plus]; omega)) _)

/-- What the reference reads: a number and whether. -/
theorem fromN_eq (l : List UInt8) (h : l.length = 32) : (le 32 (ofle l % Ar.pp) = l ↔ ofle l < Ar.pp) := by
  have hl := le_ofle l
  rw [h] at hl
  have h4 := ofle_lt l
  rw [h] at h4
  constructor
  · intro e
    have e2 : ofle (le 32 (ofle l % Ar.pp)) = ofle l := by rw [e]
    rw [ofle_le, Nat.mod_eq_of_lt (show ofle l % Ar.pp < 256 ^ 32 from mod4 (ofle l))] at e2
    have := Nat.mod_lt (ofle l) Ar.pp_pos
    omega
  · intro e
    rw [Nat.mod_eq_of_lt e]
    exact hl

/-- A number and whether, as the reference holds it. -/
abbrev gotV (n : Nat) (b : Bool) : Value := .agg #[.int .u64 (nw n 0), .int .u64 (nw n 1), .int .u64 (nw n 2), .int .u64 (nw n 3), .bool b]

set_option maxRecDepth 100000 in
set_option maxHeartbeats 1000000 in
theorem fromR_any (l : List UInt8) (w : World) : Ret Try.prog 27 #[strV l] w (gotV (fromN l).1 (fromN l).2) := by
  refine Ret.of ?_
  by_cases hl : l.length = 32
  · have ht : l.take 32 = l := List.take_of_length_le (by omega)
    have h4 : ofle l < B ^ 4 := by
      have := ofle_lt l
      rw [hl] at this
      exact this
    have hN := fun W => ht ▸ number_any l W
    go_enter Try.func27, Try.ntmps27
    go_wp2_with fail
    refine (hN _).out.mono ?_
    rintro _ _ ⟨rfl, x1, rfl⟩
    go_wp2_with fail
    refine (bytesR_any (ofle l) _ h4).out.mono ?_
    rintro _ _ ⟨rfl, x2, rfl⟩
    by_cases hp : ofle l < Ar.pp
    · have e := (fromN_eq l hl).2 hp
      go_wp2_with fail
      refine (hN _).out.mono ?_
      rintro _ _ ⟨rfl, x3, rfl⟩
      go_wp2_with fail
      refine bodyPost_ret (v := gotV (fromN l).1 (fromN l).2) (by rw [fromN, if_pos ⟨hl, hp⟩]; simp [results, Try.results27, go_sem]) rfl ⟨rfl, ?_⟩
      repeat (first | exact Below.refl _ _ | refine Below.setCell ?_ (by first | (simp; done) | (simp; omega) | (simp [size_plus]; done) | (simp [size_plus]; omega)) _ | refine Below.alloc ?_ (by first | (simp; done) | (simp; omega) | (simp [size_plus]; done) | (simp [size_plus]; omega)) _ | refine Below.drew ?_ | refine Below.plus ?_ (by first | (simp; done) | (simp; omega) | (simp [size_plus]; done) | (simp [size_plus]; omega)) _)
    · have e : (le 32 (ofle l % Ar.pp) == l) = false := by
        simp only [beq_eq_false_iff_ne, ne_eq]
        exact fun h => hp ((fromN_eq l hl).1 h)
      go_wp2_with fail
      refine bodyPost_ret (v := gotV (fromN l).1 (fromN l).2) (by rw [fromN, if_neg (fun h => hp h.2)]; simp [results, Try.results27, go_sem]; exact ⟨rfl, rfl, rfl, rfl⟩) rfl ⟨rfl, ?_⟩
      repeat (first | exact Below.refl _ _ | refine Below.setCell ?_ (by first | (simp; done) | (simp; omega) | (simp [size_plus]; done) | (simp [size_plus]; omega)) _ | refine Below.alloc ?_ (by first | (simp; done) | (simp; omega) | (simp [size_plus]; done) | (simp [size_plus]; omega)) _ | refine Below.drew ?_ | refine Below.plus ?_ (by first | (simp; done) | (simp; omega) | (simp [size_plus]; done) | (simp [size_plus]; omega)) _)
  · go_enter Try.func27, Try.ntmps27
    go_wp2_with fail
    refine bodyPost_ret (v := gotV (fromN l).1 (fromN l).2) (by rw [fromN, if_neg (fun h => hl h.1)]; simp [results, Try.results27, go_sem]; exact ⟨rfl, rfl, rfl, rfl⟩) rfl ⟨rfl, ?_⟩
    repeat (first | exact Below.refl _ _ | refine Below.setCell ?_ (by first | (simp; done) | (simp; omega) | (simp [size_plus]; done) | (simp [size_plus]; omega)) _ | refine Below.alloc ?_ (by first | (simp; done) | (simp; omega) | (simp [size_plus]; done) | (simp [size_plus]; omega)) _ | refine Below.drew ?_ | refine Below.plus ?_ (by first | (simp; done) | (simp; omega) | (simp [size_plus]; done) | (simp [size_plus]; omega)) _)
end Go.Proofs.Ytihbjlpohjohpaa

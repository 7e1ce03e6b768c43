/- Walks: a text with its length and what fills it. -/
import Derived.Test.YtmlefodnbbkilaaNa1
import Derived.Test.YtmlefodnbbkilaaStr1
namespace Go.Proofs.Ytmlefodnbbkilaa
open Go.RowKit

theorem rep_zero (c : Nat) : Lib.repeatL [0] c = List.replicate c (0 : UInt8) := by
  induction c with
  | zero => rfl
  | succ c ih => simp [Lib.repeatL, List.replicate_succ] at ih ⊢; exact ih
set_option maxRecDepth 100000 in
theorem str_any (s : Bs) (w : World) (hs : s.length ≤ 1000000000) : Calls Try.prog 17 #[strV s] w fun e w' => e = .returned (strV (strN s)) ∧ Below w.heap.size w w' := by
  have HW := Lib.hid (word_any (s.length : Int) w (by omega))
  rw [Int.toNat_natCast] at HW
  have h1 : (s.length : Int).tmod 8 = ((s.length % 8 : Nat) : Int) := by
    rw [Int.tmod_eq_emod_of_nonneg (by omega)]
    omega
  have h2 : (8 - ((s.length % 8 : Nat) : Int)).tmod 8 = ((padN s.length : Nat) : Int) := by
    rw [Int.tmod_eq_emod_of_nonneg (by omega)]
    unfold padN
    omega
  obtain ⟨r, hr⟩ : ∃ r, s.length % 8 = r := ⟨_, rfl⟩
  obtain ⟨q, hq⟩ : ∃ q, padN s.length = q := ⟨_, rfl⟩
  have hr8 : r < 8 := by omega
  have hq8 : q < 8 := by rw [← hq]; unfold padN; omega
  rw [hr] at h1 h2
  rw [hq] at h2
  have HREP := Lib.hid fun W => Try.strings_Repeat ⟨#[0]⟩ q W (by omega) (by have : (⟨#[0]⟩ : ByteArray).size = 1 := rfl; rw [this]; omega)
  have HQ := Lib.hid hq
  clear hr hq
  go_enter Try.func17, Try.ntmps17
  go_wp2_with fail
  refine HW.out.mono ?_
  rintro _ V ⟨rfl, hb⟩
  have HB := Lib.hid hb
  clear hb HW
  obtain ⟨wd, hwd⟩ : ∃ wd, wordN s.length = wd := ⟨_, rfl⟩
  rw [hwd]
  have HWD := Lib.hid hwd
  have hwl : wd.length = 8 := by rw [← hwd]; exact wordN_len _
  clear hwd
  go_wp2_with fail
  refine (HREP.out _).mono ?_
  rintro _ V2 ⟨rfl, hb⟩
  have HB2 := Lib.hid (HB.out.trans (hb.mono HB.out.size))
  clear hb
  rw [rep_zero q]
  obtain ⟨rp, hrp⟩ : ∃ rp, List.replicate q (0 : UInt8) = rp := ⟨_, rfl⟩
  rw [hrp]
  have HRP := Lib.hid hrp
  have hrl : rp.length = q := by rw [← hrp]; simp
  clear hrp
  go_wp2_with fail
  refine bodyPost_ret (v := strV (wd ++ (s ++ rp))) (by simp [results, Try.results17, go_sem]) rfl ⟨?_, HB2.out⟩
  rw [← HWD.out, ← HRP.out, ← HQ.out]
  simp [strN]
end Go.Proofs.Ytmlefodnbbkilaa

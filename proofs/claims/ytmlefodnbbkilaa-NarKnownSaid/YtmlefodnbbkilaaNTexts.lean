/- Walks: NarTexts. -/
import Derived.Test.YtmlefodnbbkilaaLaw0
namespace Go.Proofs.Ytmlefodnbbkilaa
open Go.RowKit

theorem strN_parts (s : Bs) : (strN s).take 8 = wordN s.length ∧ ((strN s).drop 8).take s.length = s ∧ (strN s).drop (8 + s.length) = List.replicate (padN s.length) 0 := by
  have hw := wordN_len s.length
  have e : strN s = wordN s.length ++ (s ++ List.replicate (padN s.length) 0) := by simp [strN]
  rw [e]
  refine ⟨by rw [List.take_append_of_le_length (by omega), List.take_of_length_le (by omega)], ?_, ?_⟩
  · rw [List.drop_append, hw, List.drop_of_length_le (by omega)]
    simp
  · have h8 : (wordN s.length ++ (s ++ List.replicate (padN s.length) 0)).drop 8 = s ++ List.replicate (padN s.length) 0 := by
      rw [List.drop_append, hw, List.drop_of_length_le (by omega)]
      simp
    rw [← List.drop_drop, h8]
    simp
theorem wordN_at (n k : Nat) (hk : k < 8) : (wordN n)[k]? = some (UInt8.ofNat (n / 2 ^ (8 * k))) := by
  have e : k = 0 ∨ k = 1 ∨ k = 2 ∨ k = 3 ∨ k = 4 ∨ k = 5 ∨ k = 6 ∨ k = 7 := by omega
  rcases e with rfl | rfl | rfl | rfl | rfl | rfl | rfl | rfl <;> simp [wordN]
set_option maxRecDepth 100000 in
set_option maxHeartbeats 1000000 in
theorem narTexts_any (s : Bs) (n : Nat) (below : Int) (W : World) (hn : n < 4294967296) (hb : -9223372036854775808 ≤ below ∧ below ≤ 9223372036854775807) : Calls Try.prog 6 #[strV s, .int .u32 (n : Int), .int .i64 below] W fun e w' => e = .returned (.bool true) ∧ Below W.heap.size W w' := by
  have HAW := Lib.hid awake_any
  by_cases h300 : 300 < s.length
  · have hd : decide ((300 : Int) < (s.length : Int)) = true := by simp; omega
    go_enter Try.func6, Try.ntmps6
    go_wp2_with fail
    refine (HAW.out _).mono ?_
    rintro _ V ⟨rfl, hb⟩
    have HB := Lib.hid hb
    clear hb
    go_wp2_with fail
    exact bodyPost_ret (v := .bool true) (by simp [results, Try.results6, go_sem]) rfl ⟨rfl, HB.out⟩
  · have hd : decide ((300 : Int) < (s.length : Int)) = false := by simp; omega
    have hlen := strN_len s
    obtain ⟨p1, p2, p3⟩ := strN_parts s
    have HSTR := Lib.hid fun V => str_any s V (by omega)
    obtain ⟨T, hT⟩ : ∃ T, strN s = T := ⟨_, rfl⟩
    rw [hT] at hlen p1 p2 p3 HSTR
    have HW1 := Lib.hid fun V => word_any (n : Int) V (by omega)
    have HW2 := Lib.hid fun V => word_any (s.length : Int) V (by omega)
    rw [Int.toNat_natCast] at HW1 HW2
    obtain ⟨WN, hWN⟩ : ∃ w, wordN n = w := ⟨_, rfl⟩
    obtain ⟨WL, hWL⟩ : ∃ w, wordN s.length = w := ⟨_, rfl⟩
    have hwl : WN.length = 8 := by rw [← hWN]; exact wordN_len _
    rw [hWN] at HW1
    rw [hWL] at HW2 p1
    have hTl : T.length = 8 + (s.length + 7) / 8 * 8 := hlen
    obtain ⟨q, hq⟩ : ∃ q, (s.length + 7) / 8 = q := ⟨_, rfl⟩
    rw [hq] at hTl
    have hq2 : s.length ≤ q * 8 ∧ q * 8 ≤ s.length + 7 := by omega
    have i1 : ((T.length : Int)).tmod 8 = 0 := by
      rw [Int.tmod_eq_emod_of_nonneg (by omega)]
      omega
    have i2 : IntKind.i64.wrap ((s.length : Int) + 7) = (s.length : Int) + 7 := IntWalk.i64_in _ (by omega)
    have i3 : ((s.length : Int) + 7).tdiv 8 = (q : Int) := by
      rw [Int.tdiv_eq_ediv_of_nonneg (by omega)]
      omega
    have i3b : IntKind.i64.wrap (q : Int) = (q : Int) := IntWalk.i64_in _ (by omega)
    have i4 : IntKind.i64.wrap ((q : Int) * 8) = (q : Int) * 8 := IntWalk.i64_in _ (by omega)
    have i5 : IntKind.i64.wrap (8 + (q : Int) * 8) = (T.length : Int) := by rw [IntWalk.i64_in _ (by omega)]; omega
    have i6 : IntKind.i64.wrap (8 + (s.length : Int)) = 8 + (s.length : Int) := IntWalk.i64_in _ (by omega)
    have i7 : (8 : Int) ≤ (T.length : Int) := by omega
    have i8 : (8 : Int) ≤ 8 + (s.length : Int) := by omega
    have i9 : 8 + (s.length : Int) ≤ (T.length : Int) := by omega
    have j1 : (8 + (s.length : Int)).toNat = 8 + s.length := by omega
    have x1 : (⟨T.toArray⟩ : ByteArray).extract 0 8 = ⟨WL.toArray⟩ := by
      apply ByteArray.ext
      rw [← p1]
      simp
    have x2 : (⟨T.toArray⟩ : ByteArray).extract 8 (8 + s.length) = ⟨s.toArray⟩ := by
      apply ByteArray.ext
      have : (T.drop 8).take s.length = s := p2
      conv => rhs; rw [← this]
      simp
    have HP := Lib.hid (And.intro p3 (And.intro hT (And.intro hWN hWL)))
    clear hT hWN hWL p1 p2 p3 hq hq2 hlen hTl
    go_enter Try.func6, Try.ntmps6
    go_wp2_with fail
    refine (HSTR.out _).mono ?_
    rintro _ V ⟨rfl, hb1⟩
    have HB1 := Lib.hid hb1
    clear hb1 HSTR
    go_wp2_with fail
    refine (HW1.out _).mono ?_
    rintro _ V2 ⟨rfl, hb2⟩
    have HB2 := Lib.hid (HB1.out.trans (hb2.mono HB1.out.size))
    clear hb2 HB1 HW1
    have HWL : Hid (WN.length = 8) := Lib.hid hwl
    go_wp2_with fail
    go_region_held3 (fun w' => True) (first | exact trivial)
      (first
        | (go_at_call 18; with_reducible refine (HW2.out _).mono ?_; rintro _ V3 ⟨rfl, hb3⟩))
    have HB3 : Hid (Below W.heap.size W V3) := Lib.hid ((HB2.out.trans ((Below.refl V2.heap.size V2).drew.mono HB2.out.size)).trans (hb3.mono HB2.out.size))
    clear hb3 i1 i2 i3 i3b i4 i5 i7 i8 x1 x2 HB2 HW2
    go_wp2_with fail
    rename_i K hK
    have HKK := Lib.hid hK
    clear hK
    have hTl2 : T.length = 8 + s.length + padN s.length := by
      have h1 := congrArg List.length HP.out.2.1
      rw [strN_len] at h1
      have h2 : (s.length + 7) / 8 * 8 = s.length + padN s.length := by unfold padN; omega
      omega
    have hz0 : ∀ j : Nat, 8 + s.length ≤ j → j < T.length → T[j]? = some 0 := by
      intro j h1 h2
      have h3 : (T.drop (8 + s.length))[j - (8 + s.length)]? = some 0 := by
        rw [HP.out.1, List.getElem?_replicate, if_pos (by omega)]
      rw [List.getElem?_drop] at h3
      rw [← h3]
      congr 1
      omega
    have HZ := Lib.hid hz0
    have HTL := Lib.hid hTl2
    clear hz0 hTl2
    go_loopw [9] (fun z wr => ∃ j : Nat, 8 + s.length ≤ j ∧ j ≤ T.length ∧ z = .int .i64 (j : Int) ∧ Hid (wr = V3)) (fun z _ => T.length - (intOf z).toNat)
    case atStart => exact ⟨8 + s.length, by omega, by have := HTL.out; omega, by simp, rfl⟩
    case round =>
      obtain ⟨j, hj1, hj2, rfl, HW⟩ := hrel
      have hW := HW.out
      subst hW
      by_cases hlt : j < T.length
      · have hd2 : decide ((j : Int) < (T.length : Int)) = true := by simp; omega
        have hx : ∀ p, (((⟨T.toArray⟩ : ByteArray)[j]'p).toNat : Int) = 0 := fun p => by
          have h1 := HZ.out j hj1 hlt
          rw [List.getElem?_eq_getElem hlt] at h1
          have h2 : ((⟨T.toArray⟩ : ByteArray)[j]'p) = T[j] := rfl
          rw [h2, Option.some.inj h1]
          rfl
        have hw1 : IntKind.i64.wrap ((j : Int) + 1) = (j : Int) + 1 := IntWalk.i64_in _ (by have := HTL.out; have h3 : padN s.length ≤ 8 := by unfold padN; omega
                                                                                            omega)
        go_wp2_with fail
        go_roundw
        case rel => exact ⟨j + 1, by omega, by omega, by go_num, (by first | exact Lib.hid trivial | exact Lib.hid rfl)⟩
        case measure => simp [intOf]; omega
      · obtain rfl : j = T.length := by omega
        have hd2 : decide ((T.length : Int) < (T.length : Int)) = false := by simp
        go_wp2_with fail
        refine HKK.out _ _ ?_
        clear HKK
        go_wp2_with fail
        rename_i K hK
        have HKK := Lib.hid hK
        clear hK
        go_loopw [10] (fun z W2 => ∃ k : Nat, k ≤ 8 ∧ z = .int .i64 (k : Int) ∧ Hid (Below W.heap.size W W2)) (fun z _ => 8 - (intOf z).toNat)
        case atStart => exact ⟨0, by omega, rfl, HB3⟩
        case round =>
          obtain ⟨k, hk, rfl, HBW⟩ := hrel
          by_cases hk8 : k < 8
          · have hd3 : decide ((k : Int) < 8) = true := by simp; omega
            have hkl : (k : Int) < (WN.length : Int) := by have := HWL.out; omega
            have hx : ∀ p, (((⟨WN.toArray⟩ : ByteArray)[k]'p).toNat : Int) = (n : Int) / 2 ^ (8 * k) % 256 := fun p => by
              have h1 := wordN_at n k hk8
              rw [HP.out.2.2.1] at h1
              have h2 : ((⟨WN.toArray⟩ : ByteArray)[k]'p) = WN[k]'(by have := HWL.out; omega) := rfl
              rw [h2, (List.getElem?_eq_some_iff.1 h1).2, UInt8.toNat_ofNat']
              simp
            have hw2 : IntKind.i64.wrap (8 * (k : Int)) = 8 * (k : Int) := IntWalk.i64_in _ (by omega)
            have hw3 : (8 * (k : Int)).toNat = 8 * k := by omega
            have hw4 : decide (8 * (k : Int) < 0) = false := by simp; omega
            go_wp2_with fail
            go_region_held3 (fun w' => True) (first | exact trivial) (first | exact trivial)
            go_wp2_with fail
            go_roundw
            case rel => exact ⟨k + 1, by omega, by go_num, Lib.hid HBW.out.drew⟩
            case measure => simp [intOf]; omega
          · obtain rfl : k = 8 := by omega
            have hd3 : decide ((8 : Int) < 8) = false := by decide
            go_wp2_with fail
            refine HKK.out _ _ ?_
            have HM1 := Lib.hid (word_any (min below 0) wr (by omega))
            rw [show (min below 0).toNat = 0 by omega] at HM1
            obtain ⟨Z, hZ⟩ : ∃ Z, wordN 0 = Z := ⟨_, rfl⟩
            have HM2 := Lib.hid fun V => word_any 0 V (by omega)
            rw [show (0 : Int).toNat = 0 from rfl, hZ] at HM2
            rw [hZ] at HM1
            clear hZ
            go_wp2_with fail
            refine HM1.out.mono ?_
            rintro _ V4 ⟨rfl, hb4⟩
            have HB4 := Lib.hid (HBW.out.trans (hb4.mono HBW.out.size))
            clear hb4
            go_wp2_with fail
            refine (HM2.out _).mono ?_
            rintro _ V5 ⟨rfl, hb5⟩
            have HB5 := Lib.hid (HB4.out.trans (hb5.mono HB4.out.size))
            clear hb5
            go_wp2_with fail
            refine (HAW.out _).mono ?_
            rintro _ V6 ⟨rfl, hb6⟩
            have HB6 := Lib.hid (HB5.out.trans (hb6.mono HB5.out.size))
            clear hb6
            go_wp2_with fail
            exact bodyPost_ret (v := .bool true) (by simp [results, Try.results6, go_sem]) rfl ⟨rfl, HB6.out⟩
end Go.Proofs.Ytmlefodnbbkilaa

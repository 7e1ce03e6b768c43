/- Walks: the document's functions on names and paths. -/
import Derived.Test.YtmlefodnbbkilaaLaw0
namespace Go.Proofs.Ytmlefodnbbkilaa
open Go.RowKit

theorem at_list (s : Bs) (k : Nat) (h : k < s.length) (x : UInt8) (hx : s[k]? = some x) : ∀ p, (((⟨s.toArray⟩ : ByteArray)[k]'p).toNat : Int) = (x.toNat : Int) := fun p => by
  rw [List.getElem?_eq_getElem h] at hx
  have h2 : ((⟨s.toArray⟩ : ByteArray)[k]'p) = s[k] := rfl
  rw [h2, Option.some.inj hx]
theorem beq_nat (x c : UInt8) : ((x.toNat : Int) == (c.toNat : Int)) = (x == c) := by
  rw [Bool.eq_iff_iff]
  simp only [beq_iff_eq]
  constructor
  · intro h
    exact UInt8.toNat_inj.1 (by omega)
  · rintro rfl
    rfl
set_option maxRecDepth 100000 in
theorem hasR_any (s : Bs) (c : UInt8) (W : World) (hs : s.length ≤ 1000000) : Calls Try.prog 44 #[strV s, .int .u8 (c.toNat : Int)] W fun e w' => e = .returned (.bool (s.contains c)) ∧ w' = W := by
  obtain ⟨cn, hcn⟩ : ∃ cn : Int, (c.toNat : Int) = cn := ⟨_, rfl⟩
  obtain ⟨b, hb⟩ : ∃ b, s.contains c = b := ⟨_, rfl⟩
  have HB := Lib.hid hb
  have HCN := Lib.hid hcn
  rw [hcn, hb]
  clear hcn hb
  go_enter Try.func44, Try.ntmps44
  go_wp2_with fail
  rename_i K hK
  have HKK := Lib.hid hK
  clear hK
  go_loopw [5] (fun z wr => ∃ k : Nat, k ≤ s.length ∧ z = .int .i64 (k : Int) ∧ Hid (wr = W) ∧ Hid (∀ j, j < k → s[j]? ≠ some c)) (fun z _ => s.length - (intOf z).toNat)
  case atStart => exact ⟨0, by omega, rfl, rfl, fun j hj => by omega⟩
  case round =>
    obtain ⟨k, hk, rfl, HW, HN⟩ := hrel
    have hW := HW.out
    subst hW
    by_cases hlt : k < s.length
    · have hd : decide ((k : Int) < (s.length : Int)) = true := by simp; omega
      obtain ⟨x, hx⟩ : ∃ x, s[k]? = some x := ⟨_, List.getElem?_eq_getElem hlt⟩
      have hx1 := at_list s k hlt x hx
      obtain ⟨t, ht⟩ : ∃ t, (x == c) = t := ⟨_, rfl⟩
      have hx2 : ((x.toNat : Int) == cn) = t := by rw [← HCN.out, beq_nat, ht]
      obtain ⟨xn, hxn⟩ : ∃ xn : Int, (x.toNat : Int) = xn := ⟨_, rfl⟩
      rw [hxn] at hx2
      simp only [hxn] at hx1
      have HX := Lib.hid hx
      have HT := Lib.hid ht
      clear hxn hx ht
      cases t with
      | true =>
        have hbt : b = true := by
          rw [← HB.out]
          have h1 := beq_iff_eq.1 HT.out
          rw [← h1]
          exact List.contains_iff_mem.2 (List.mem_of_getElem? HX.out)
        subst hbt
        go_wp2_with fail
        exact bodyPost_ret (v := .bool true) (by simp [results, Try.results44, go_sem]) rfl ⟨rfl, rfl⟩
      | false =>
        have hn2 : ∀ j, j < k + 1 → s[j]? ≠ some c := by
          intro j hj e
          rcases Nat.lt_or_ge j k with h2 | h2
          · exact HN.out j h2 e
          · obtain rfl : j = k := by omega
            rw [HX.out] at e
            obtain rfl := Option.some.inj e
            have := HT.out
            simp at this
        have HN2 := Lib.hid hn2
        clear hn2
        go_wp2_with fail
        go_roundw
        case rel => exact ⟨k + 1, by omega, by go_num, (by first | exact Lib.hid trivial | exact Lib.hid rfl), HN2⟩
        case measure => simp [intOf]; omega
    · obtain rfl : k = s.length := by omega
      have hd : decide ((s.length : Int) < (s.length : Int)) = false := by simp
      have hbf : b = false := by
        rw [← HB.out]
        cases hc : s.contains c with
        | false => rfl
        | true =>
          obtain ⟨j, hj, e⟩ := List.getElem_of_mem (List.contains_iff_mem.1 hc)
          exact absurd (by rw [List.getElem?_eq_getElem hj, e]) (HN.out j hj)
      subst hbf
      go_wp2_with fail
      refine HKK.out _ _ ?_
      go_wp2_with fail
      exact bodyPost_ret (v := .bool false) (by simp [results, Try.results44, go_sem]) rfl ⟨rfl, rfl⟩
set_option maxRecDepth 100000 in
theorem mayNameR_any (s : Bs) (W : World) (hs : s.length ≤ 1000000) : Calls Try.prog 22 #[strV s] W fun e w' => e = .returned (.bool (mayNameN s)) ∧ w' = W := by
  have H0 : Hid (Calls Try.prog 44 #[strV s, .int .u8 0] W fun e w' => e = .returned (.bool (s.contains 0)) ∧ w' = W) := Lib.hid (hasR_any s 0 W hs)
  have H1 : Hid (Calls Try.prog 44 #[strV s, .int .u8 47] W fun e w' => e = .returned (.bool (s.contains 47)) ∧ w' = W) := Lib.hid (hasR_any s 47 W hs)
  obtain ⟨b, hb⟩ : ∃ b, mayNameN s = b := ⟨_, rfl⟩
  rw [hb]
  unfold mayNameN at hb
  obtain ⟨c0, h0⟩ : ∃ c, s.contains 0 = c := ⟨_, rfl⟩
  obtain ⟨c1, h1⟩ : ∃ c, s.contains 47 = c := ⟨_, rfl⟩
  rw [h0] at hb H0
  rw [h1] at hb H1
  clear h0 h1
  have HB := Lib.hid hb
  clear hb
  have d1 : decide ((1 : Int) ≤ (s.length : Int)) = !s.isEmpty := by cases s <;> simp; omega
  have d2 : decide ((s.length : Int) ≤ 255) = decide (s.length ≤ 255) := decide_eq_decide.2 (by omega)
  obtain ⟨e0, he0⟩ : ∃ e, s.isEmpty = e := ⟨_, rfl⟩
  obtain ⟨e1, he1⟩ : ∃ e, decide (s.length ≤ 255) = e := ⟨_, rfl⟩
  rw [he0] at d1 HB
  rw [he1] at d2 HB
  clear he0 he1
  cases e0 with
  | true =>
    have : b = false := by rw [← HB.out]; rfl
    subst this
    go_enter Try.func22, Try.ntmps22
    go_wp2_with fail
    exact bodyPost_ret (v := .bool false) (by simp [results, Try.results22, go_sem]) rfl ⟨rfl, rfl⟩
  | false =>
    cases e1 with
    | false =>
      have : b = false := by rw [← HB.out]; rfl
      subst this
      go_enter Try.func22, Try.ntmps22
      go_wp2_with fail
      exact bodyPost_ret (v := .bool false) (by simp [results, Try.results22, go_sem]) rfl ⟨rfl, rfl⟩
    | true =>
      go_enter Try.func22, Try.ntmps22
      go_wp2_with fail
      refine H0.out.mono ?_
      rintro _ V ⟨rfl, hV⟩
      rw [hV]
      clear hV
      cases c0 with
      | true =>
        have : b = false := by rw [← HB.out]; rfl
        subst this
        go_wp2_with fail
        exact bodyPost_ret (v := .bool false) (by simp [results, Try.results22, go_sem]) rfl ⟨rfl, rfl⟩
      | false =>
        go_wp2_with fail
        refine H1.out.mono ?_
        rintro _ V2 ⟨rfl, hV⟩
        rw [hV]
        clear hV
        cases c1 with
        | true =>
          have : b = false := by rw [← HB.out]; rfl
          subst this
          go_wp2_with fail
          exact bodyPost_ret (v := .bool false) (by simp [results, Try.results22, go_sem]) rfl ⟨rfl, rfl⟩
        | false =>
          go_wp2_with fail
          · rename_i h46
            have hbf : b = false := by
              rw [← HB.out]
              first | (subst h46; rfl) | rfl
            subst hbf
            exact bodyPost_ret (v := .bool false) (by simp [results, Try.results22, go_sem]) rfl ⟨rfl, rfl⟩
          · refine bodyPost_ret (v := .bool (!s == [46] && !s == [46, 46])) (by simp [results, Try.results22, go_sem]) rfl ⟨?_, rfl⟩
            rw [← HB.out]
            rfl
set_option maxRecDepth 100000 in
theorem deepR_any (s : Bs) (W : World) (hs : s.length ≤ 1000000) : Calls Try.prog 41 #[strV s] W fun e w' => e = .returned (.int .i64 (deepN s : Int)) ∧ w' = W := by
  obtain ⟨dn, hdn⟩ : ∃ dn, deepN s = dn := ⟨_, rfl⟩
  rw [hdn]
  have HD := Lib.hid hdn
  clear hdn
  go_enter Try.func41, Try.ntmps41
  go_wp2_with fail
  rename_i K hK
  have HKK := Lib.hid hK
  clear hK
  go_loopw [3, 4] (fun y z wr => ∃ k : Nat, k ≤ s.length ∧ z = .int .i64 (k : Int) ∧ y = .int .i64 (deepN (s.take k) : Int) ∧ Hid (wr = W)) (fun _ z _ => s.length - (intOf z).toNat)
  case atStart => exact ⟨0, by omega, rfl, rfl, rfl⟩
  case round =>
    obtain ⟨k, hk, rfl, rfl, HW⟩ := hrel
    have hW := HW.out
    subst hW
    by_cases hlt : k < s.length
    · have hd : decide ((k : Int) < (s.length : Int)) = true := by simp; omega
      obtain ⟨x, hx⟩ : ∃ x, s[k]? = some x := ⟨_, List.getElem?_eq_getElem hlt⟩
      have hx1 := at_list s k hlt x hx
      have hst : deepN (s.take (k + 1)) = deepN (s.take k) + (if x == 47 then 1 else 0) := by
        rw [List.take_succ_eq_append_getElem hlt, (List.getElem?_eq_some_iff.1 hx).2]
        simp only [deepN, List.count_append, List.count_singleton]
        omega
      have hle : deepN (s.take k) ≤ 1 + k := by
        have : (s.take k).count 47 ≤ (s.take k).length := List.count_le_length
        simp only [deepN]
        simp only [List.length_take] at this
        omega
      obtain ⟨dk, hdk⟩ : ∃ dk, deepN (s.take k) = dk := ⟨_, rfl⟩
      rw [hdk] at hst hle ⊢
      obtain ⟨t, ht⟩ : ∃ t, (x == 47) = t := ⟨_, rfl⟩
      have hx2 : ((x.toNat : Int) == 47) = t := by rw [← ht]; exact beq_nat x 47
      rw [ht] at hst
      obtain ⟨xn, hxn⟩ : ∃ xn : Int, (x.toNat : Int) = xn := ⟨_, rfl⟩
      rw [hxn] at hx2
      simp only [hxn] at hx1
      have HST := Lib.hid hst
      clear hxn hx ht hdk hst
      cases t with
      | true =>
        go_wp2_with fail
        go_roundw
        case rel => exact ⟨k + 1, by omega, by go_num, by rw [HST.out]; go_num, (by first | exact Lib.hid trivial | exact Lib.hid rfl)⟩
        case measure => simp [intOf]; omega
      | false =>
        go_wp2_with fail
        go_roundw
        case rel => exact ⟨k + 1, by omega, by go_num, by rw [HST.out]; rfl, (by first | exact Lib.hid trivial | exact Lib.hid rfl)⟩
        case measure => simp [intOf]; omega
    · obtain rfl : k = s.length := by omega
      have hd : decide ((s.length : Int) < (s.length : Int)) = false := by simp
      have he : deepN (s.take s.length) = dn := by rw [List.take_length]; exact HD.out
      rw [he]
      go_wp2_with fail
      refine HKK.out _ _ ?_
      go_wp2_with fail
      exact bodyPost_ret (v := .int .i64 (dn : Int)) (by simp [results, Try.results41, go_sem]) rfl ⟨rfl, rfl⟩
set_option maxRecDepth 100000 in
theorem mayDataR_any (x : Nd) (W : World) (hl : x.2.2.length ≤ 1000000) : Calls Try.prog 39 #[.agg #[strV x.1, .int .i64 x.2.1, strV x.2.2]] W fun e w' => e = .returned (.bool (mayNodeN x)) ∧ Below W.heap.size W w' := by
  obtain ⟨p, k, d⟩ := x
  dsimp only at hl ⊢
  obtain ⟨b, hb⟩ : ∃ b, mayNodeN (p, k, d) = b := ⟨_, rfl⟩
  rw [hb]
  have HB := Lib.hid hb
  clear hb
  have hbel : Below W.heap.size W (W.alloc (.cells #[strV p, .int .i64 k, strV d] 37)) := (Below.refl _ W).alloc (Nat.le_refl _) _
  have HH : Hid (∀ V, Calls Try.prog 44 #[strV d, .int .u8 0] V fun e w' => e = .returned (.bool (d.contains 0)) ∧ w' = V) := Lib.hid fun V => hasR_any d 0 V hl
  have HBL := Lib.hid hbel
  clear hbel
  have hcell := new_at W (.cells #[strV p, .int .i64 k, strV d] 37)
  have HLE : Hid (decide ((d.length : Int) ≤ 65536) = decide (d.length ≤ 65536)) := Lib.hid (decide_eq_decide.2 (by omega))
  by_cases h1 : k = 1
  · subst h1
    go_enter Try.func39, Try.ntmps39
    go_wp2_with fail
    exact bodyPost_ret (v := .bool (decide ((d.length : Int) ≤ 65536))) (by simp [results, Try.results39, go_sem]) rfl ⟨by rw [HLE.out, ← HB.out]; rfl, HBL.out⟩
  by_cases h2 : k = 2
  · subst h2
    go_enter Try.func39, Try.ntmps39
    go_wp2_with fail
    exact bodyPost_ret (v := .bool (decide ((d.length : Int) ≤ 65536))) (by simp [results, Try.results39, go_sem]) rfl ⟨by rw [HLE.out, ← HB.out]; rfl, HBL.out⟩
  by_cases h3 : k = 3
  · subst h3
    have hbe : b = (!d.isEmpty && decide (d.length ≤ 4096) && !d.contains 0) := HB.out.symm
    have HBE := Lib.hid hbe
    clear hbe h1 h2
    have d1 : decide ((1 : Int) ≤ (d.length : Int)) = !d.isEmpty := by cases d <;> simp; omega
    have d2 : decide ((d.length : Int) ≤ 4096) = decide (d.length ≤ 4096) := decide_eq_decide.2 (by omega)
    obtain ⟨e0, he0⟩ : ∃ e, d.isEmpty = e := ⟨_, rfl⟩
    obtain ⟨e1, he1⟩ : ∃ e, decide (d.length ≤ 4096) = e := ⟨_, rfl⟩
    obtain ⟨c0, h0⟩ : ∃ c, d.contains 0 = c := ⟨_, rfl⟩
    rw [he0] at d1 HBE
    rw [he1] at d2 HBE
    rw [h0] at HH HBE
    clear he0 he1 h0
    cases e0 with
    | true =>
      have : b = false := by rw [HBE.out]; rfl
      subst this
      go_enter Try.func39, Try.ntmps39
      go_wp2_with fail
      exact bodyPost_ret (v := .bool false) (by simp [results, Try.results39, go_sem]) rfl ⟨rfl, HBL.out⟩
    | false =>
      cases e1 with
      | false =>
        have : b = false := by rw [HBE.out]; rfl
        subst this
        go_enter Try.func39, Try.ntmps39
        go_wp2_with fail
        exact bodyPost_ret (v := .bool false) (by simp [results, Try.results39, go_sem]) rfl ⟨rfl, HBL.out⟩
      | true =>
        go_enter Try.func39, Try.ntmps39
        go_wp2_with fail
        refine (HH.out _).mono ?_
        rintro _ V ⟨rfl, hV⟩
        rw [hV]
        clear hV
        go_wp2_with fail
        exact bodyPost_ret (v := .bool (!c0)) (by simp [results, Try.results39, go_sem]) rfl ⟨by rw [HBE.out]; simp, HBL.out⟩
  by_cases h4 : k = 4
  · subst h4
    have hbe : b = d.isEmpty := HB.out.symm
    have HBE := Lib.hid hbe
    clear hbe h1 h2 h3
    go_enter Try.func39, Try.ntmps39
    go_wp2_with fail
    exact bodyPost_ret (v := .bool d.isEmpty) (by simp [results, Try.results39, go_sem]) rfl ⟨by rw [HBE.out], HBL.out⟩
  · have hbe : b = false := by
      rw [← HB.out]
      simp [mayNodeN, h1, h2, h3, h4]
    subst hbe
    have e1 : (k == 1) = false := by simpa using h1
    have e2 : (k == 2) = false := by simpa using h2
    have e3 : (k == 3) = false := by simpa using h3
    have e4 : (k == 4) = false := by simpa using h4
    go_enter Try.func39, Try.ntmps39
    go_wp2_with fail
    exact bodyPost_ret (v := .bool false) (by simp [results, Try.results39, go_sem]) rfl ⟨rfl, HBL.out⟩
end Go.Proofs.Ytmlefodnbbkilaa

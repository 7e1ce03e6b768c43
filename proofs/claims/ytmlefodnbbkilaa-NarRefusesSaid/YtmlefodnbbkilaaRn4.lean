/- Walks: what stands under a node, the document's way. -/
import Derived.Test.YtmlefodnbbkilaaRn3
namespace Go.Proofs.Ytmlefodnbbkilaa
open Go.RowKit

set_option maxRecDepth 100000 in
theorem nameR_any (p d : Bs) (W : World) (hp : p.length ≤ 1000000) (hd : d.length ≤ 1000000) : Calls Try.prog 55 #[strV p, strV d] W fun e w' => e = .returned (strV (nameR p d)) ∧ w' = W := by
  have HH : Hid (∀ s : Bs, s.length ≤ 1000000 → ∀ V, Calls Try.prog 44 #[strV s, .int .u8 47] V fun e w' => e = .returned (.bool (s.contains 47)) ∧ w' = V) := Lib.hid fun s hs V => hasR_any s 47 V hs
  obtain ⟨R, hR⟩ : ∃ R, nameR p d = R := ⟨_, rfl⟩
  rw [hR]
  unfold nameR at hR
  by_cases hd0 : d = []
  · subst hd0
    simp only [List.isEmpty_nil, if_true] at hR
    have HC := Lib.hid (HH.out p hp)
    obtain ⟨t, ht⟩ : ∃ t, p.contains 47 = t := ⟨_, rfl⟩
    rw [ht] at HC hR
    clear ht HH
    cases t with
    | true =>
      simp only [if_true] at hR
      subst hR
      go_enter Try.func55, Try.ntmps55
      go_wp2_with fail
      refine (HC.out _).mono ?_
      rintro _ V ⟨rfl, hV⟩
      rw [hV]
      clear hV
      go_wp2_with fail
      exact bodyPost_ret (v := strV []) (by simp [results, Try.results55, go_sem]) rfl ⟨rfl, rfl⟩
    | false =>
      simp only [Bool.false_eq_true, if_false] at hR
      subst hR
      go_enter Try.func55, Try.ntmps55
      go_wp2_with fail
      refine (HC.out _).mono ?_
      rintro _ V ⟨rfl, hV⟩
      rw [hV]
      clear hV
      go_wp2_with fail
      exact bodyPost_ret (v := strV p) (by simp [results, Try.results55, go_sem]) rfl ⟨rfl, rfl⟩
  · have hde : d.isEmpty = false := by cases d <;> simp_all
    rw [hde] at hR
    simp only [Bool.false_eq_true, if_false] at hR
    have HD0 := Lib.hid hd0
    by_cases hle : p.length ≤ d.length
    · rw [if_pos (.inl hle)] at hR
      subst hR
      have h1 : decide (p.length ≤ d.length) = true := by simp; omega
      clear hd0 hle
      go_enter Try.func55, Try.ntmps55
      go_wp2_with fail
      exact bodyPost_ret (v := strV []) (by simp [results, Try.results55, go_sem]) rfl ⟨rfl, rfl⟩
    · have h1 : decide (p.length ≤ d.length) = false := by simp; omega
      have hlt : d.length < p.length := by omega
      have q1 : (0 : Int) ≤ (d.length : Int) := by omega
      have q2 : (d.length : Int) ≤ (p.length : Int) := by omega
      obtain ⟨T, hT⟩ : ∃ T, p.take d.length = T := ⟨_, rfl⟩
      have e1 : (⟨p.toArray⟩ : ByteArray).extract 0 d.length = ⟨T.toArray⟩ := by
        apply ByteArray.ext
        rw [← hT]
        simp
      obtain ⟨t, ht⟩ : ∃ t, (T == d) = t := ⟨_, rfl⟩
      have h2 : ((⟨p.toArray⟩ : ByteArray).extract 0 d.length = ⟨d.toArray⟩) = (t = true) := by
        rw [e1, str_eq, ← ht]
        simp
      cases t with
      | false =>
        have hne : ¬ T = d := by simpa using ht
        rw [hT, if_pos (.inr (.inl hne))] at hR
        subst hR
        have HNE := Lib.hid hne
        clear hd0 hle hT ht h2 hne hlt
        go_enter Try.func55, Try.ntmps55
        go_wp2_with fail
        all_goals first
          | exact bodyPost_ret (v := strV []) (by simp [results, Try.results55, go_sem]) rfl ⟨rfl, rfl⟩
          | (rename_i h; exact absurd HNE.out h)
          | (rename_i h; exact absurd h HNE.out)
      | true =>
        have hTd : T = d := by simpa using ht
        obtain ⟨x, hx⟩ : ∃ x, p[d.length]? = some x := ⟨_, List.getElem?_eq_getElem hlt⟩
        have hx1 := at_list p d.length hlt x hx
        obtain ⟨t2, ht2⟩ : ∃ t2, (x == 47) = t2 := ⟨_, rfl⟩
        have hx2 : ((x.toNat : Int) == 47) = t2 := by rw [← ht2]; exact beq_nat x 47
        have hx3 : ((x.toNat : Int) != 47) = !t2 := by rw [← hx2]; rfl
        obtain ⟨xn, hxn⟩ : ∃ xn : Int, (x.toNat : Int) = xn := ⟨_, rfl⟩
        rw [hxn] at hx3
        simp only [hxn] at hx1
        rw [hT, hx] at hR
        rw [hTd] at e1
        clear hx2 hT h2 ht hd0 hle hxn
        cases t2 with
        | false =>
          have hne : ¬ x = 47 := by simpa using ht2
          rw [if_pos (.inr (.inr (by simpa using hne)))] at hR
          subst hR
          clear hne ht2 hx hTd
          go_enter Try.func55, Try.ntmps55
          go_wp2_with fail
          exact bodyPost_ret (v := strV []) (by simp [results, Try.results55, go_sem]) rfl ⟨rfl, rfl⟩
        | true =>
          have h47 : x = 47 := by simpa using ht2
          rw [if_neg (by rw [h47, hTd]; simp; omega)] at hR
          obtain ⟨U, hU⟩ : ∃ U, p.drop (d.length + 1) = U := ⟨_, rfl⟩
          have hUl : U.length ≤ 1000000 := by rw [← hU]; simp; omega
          have e2 : (⟨p.toArray⟩ : ByteArray).extract (d.length + 1) p.length = ⟨U.toArray⟩ := by
            apply ByteArray.ext
            rw [← hU]
            simp
            exact List.take_of_length_le (by simp)
          rw [hU] at hR
          have HC := Lib.hid (HH.out U hUl)
          obtain ⟨t3, ht3⟩ : ∃ t, U.contains 47 = t := ⟨_, rfl⟩
          rw [ht3] at HC hR
          have q3 : (d.length : Int) + 1 ≤ (p.length : Int) := by omega
          have q4 : (0 : Int) ≤ (d.length : Int) + 1 := by omega
          have q7 : ((d.length : Int) + 1).toNat = d.length + 1 := by omega
          clear h47 ht2 hx hTd hU ht3 HH
          cases t3 with
          | true =>
            simp only [if_true] at hR
            subst hR
            go_enter Try.func55, Try.ntmps55
            go_wp2_with fail
            refine (HC.out _).mono ?_
            rintro _ V ⟨rfl, hV⟩
            rw [hV]
            clear hV
            go_wp2_with fail
            exact bodyPost_ret (v := strV []) (by simp [results, Try.results55, go_sem]) rfl ⟨rfl, rfl⟩
          | false =>
            simp only [Bool.false_eq_true, if_false] at hR
            subst hR
            go_enter Try.func55, Try.ntmps55
            go_wp2_with fail
            refine (HC.out _).mono ?_
            rintro _ V ⟨rfl, hV⟩
            rw [hV]
            clear hV
            go_wp2_with fail
            exact bodyPost_ret (v := strV U) (by simp [results, Try.results55, go_sem]) rfl ⟨rfl, rfl⟩
end Go.Proofs.Ytmlefodnbbkilaa

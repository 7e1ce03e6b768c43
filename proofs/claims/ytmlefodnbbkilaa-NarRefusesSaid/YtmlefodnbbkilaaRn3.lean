/- Walks: the document's texts in a row; a name in a directory; a path at its last name. -/
import Derived.Test.YtmlefodnbbkilaaRn2
namespace Go.Proofs.Ytmlefodnbbkilaa
open Go.RowKit

set_option maxRecDepth 100000 in
theorem strsR_any (l : List Bs) (g c : Nat) (W : World) (hg : W.heap[g]? = some (.cells (l.map strV).toArray 9)) (hl : (strsN l).length ≤ 1000000000) (hl2 : l.length ≤ 1000000) :
    Calls Try.prog 37 #[.slice (some ⟨g, 0, none⟩) l.length c] W fun e w' => e = .returned (strV (strsN l)) ∧ Below W.heap.size W w' := by
  have HG := Lib.hid hg
  obtain ⟨R, hR⟩ : ∃ R, strsN l = R := ⟨_, rfl⟩
  have HR := Lib.hid hR
  have HL := Lib.hid hl
  rw [hR]
  clear hg hR hl
  go_enter Try.func37, Try.ntmps37
  go_wp2_with fail
  rename_i K hK
  have HKK := Lib.hid hK
  clear hK
  go_loopw [3, 4] (fun y z wr => ∃ (k : Nat) (X : Bs), k ≤ l.length ∧ z = .int .i64 k ∧ y = strV X ∧ Hid (X = strsN (l.take k)) ∧ Hid (Below W.heap.size W wr)) (fun _ z _ => l.length - (intOf z).toNat)
  case atStart => exact ⟨0, [], by omega, rfl, rfl, rfl, Below.refl _ _⟩
  case round =>
    obtain ⟨k, X, hk, rfl, rfl, HX, HB⟩ := hrel
    by_cases hlt : k < l.length
    · have hd : decide ((k : Int) < (l.length : Int)) = true := by simp; omega
      obtain ⟨x, hx⟩ : ∃ x, l[k]? = some x := ⟨_, List.getElem?_eq_getElem hlt⟩
      have hxe : l[k] = x := (List.getElem?_eq_some_iff.1 hx).2
      have hgw := keeps_below HG.out HB.out
      have hc : wr.cell? ⟨g, k, none⟩ = some (strV x) := by simp [World.cell?, hgw, hx]
      have hstep := strsN_take l k hlt
      rw [hxe] at hstep
      have hle := strsN_len_le l (k + 1)
      rw [hstep, List.length_append] at hle
      have hsl : x.length ≤ (strN x).length := by rw [strN_len]; omega
      have hL := HL.out
      have HS := Lib.hid (strR_any x wr (by omega))
      have hxl : X.length + (strN x).length ≤ 1000000000 := by rw [HX.out]; omega
      obtain ⟨sx, hsx⟩ : ∃ sx, strN x = sx := ⟨_, rfl⟩
      rw [hsx] at HS hstep hxl
      have hx1 : X.length ≤ 1000000000 := by omega
      have hx2 : sx.length ≤ 1000000000 := by omega
      have HST := Lib.hid hstep
      clear hgw hstep hle hsl hx hxe hsx hL
      go_wp2_with fail
      refine HS.out.mono ?_
      rintro _ V ⟨rfl, hb⟩
      have HB2 := Lib.hid (HB.out.trans (hb.mono HB.out.size))
      clear hb HS hc
      go_wp2_with fail
      go_roundw
      case rel => exact ⟨k + 1, X ++ sx, by omega, by go_num, rfl, Lib.hid (by rw [HST.out, HX.out]), HB2⟩
      case measure => simp [intOf]; omega
    · obtain rfl : k = l.length := by omega
      have hd : decide ((l.length : Int) < (l.length : Int)) = false := by simp
      have hxe : X = R := by rw [HX.out, List.take_length, HR.out]
      subst hxe
      go_wp2_with fail
      refine HKK.out _ _ ?_
      go_wp2_with fail
      exact bodyPost_ret (v := strV X) (by simp [results, Try.results37, go_sem]) rfl ⟨rfl, HB.out⟩
theorem cutR_none {p : Bs} (h : (47 : UInt8) ∉ p) : cutR p = ([], p) := by unfold cutR; rw [(cutN_none p).2 h]
theorem cutR_some {p a b : Bs} (h : p = a ++ 47 :: b) (hb : (47 : UInt8) ∉ b) : cutR p = (a, b) := by unfold cutR; rw [(cutN_some p a b).2 ⟨h, hb⟩]
set_option maxRecDepth 100000 in
theorem cutR_any (s : Bs) (W : World) (hs : s.length ≤ 1000000) : Calls Try.prog 40 #[strV s] W fun e w' => e = .returned (.tuple #[strV (cutR s).1, strV (cutR s).2]) ∧ Below W.heap.size W w' := by
  obtain ⟨⟨a, b⟩, hab⟩ : ∃ q, cutR s = q := ⟨_, rfl⟩
  rw [hab]
  have HAB := Lib.hid hab
  clear hab
  have hsz : (⟨s.toArray⟩ : ByteArray).size = s.length := rfl
  go_enter Try.func40, Try.ntmps40
  go_wp2_with fail
  rename_i K hK
  have HKK := Lib.hid hK
  clear hK
  go_loopw [4] (fun z wr => ∃ k : Nat, k ≤ s.length ∧ z = .int .i64 ((k : Int) - 1) ∧ Hid (wr = W) ∧ Hid (∀ j, k ≤ j → s[j]? ≠ some 47)) (fun z _ => (intOf z + 1).toNat)
  case atStart => exact ⟨s.length, by omega, rfl, rfl, fun j hj e => by have := (List.getElem?_eq_some_iff.1 e).1; omega⟩
  case round =>
    obtain ⟨k, hk, rfl, HW, HN⟩ := hrel
    have hW := HW.out
    subst hW
    rcases k with _ | k
    · have hd : decide ((0 : Int) ≤ ((0 : Nat) : Int) - 1) = false := by decide
      have hno : (47 : UInt8) ∉ s := fun h => by
        obtain ⟨j, hj⟩ := List.getElem?_of_mem h
        exact HN.out j (by omega) hj
      have he := HAB.out
      rw [cutR_none hno] at he
      simp only [Prod.mk.injEq] at he
      obtain ⟨rfl, rfl⟩ := he
      go_wp2_with fail
      refine HKK.out _ _ ?_
      go_wp2_with fail
      exact bodyPost_ret (v := .tuple #[strV [], strV s]) (by simp [results, Try.results40, go_sem]) rfl ⟨rfl, Below.refl _ _⟩
    · rw [show ((k + 1 : Nat) : Int) - 1 = (k : Int) by omega]
      have hlt : k < s.length := by omega
      have hd : decide ((0 : Int) ≤ (k : Int)) = true := by simp
      obtain ⟨x, hx⟩ : ∃ x, s[k]? = some x := ⟨_, List.getElem?_eq_getElem hlt⟩
      have hx1 := at_list s k hlt x hx
      obtain ⟨t, ht⟩ : ∃ t, (x == 47) = t := ⟨_, rfl⟩
      have hx2 : ((x.toNat : Int) == 47) = t := by rw [← ht]; exact beq_nat x 47
      obtain ⟨xn, hxn⟩ : ∃ xn : Int, (x.toNat : Int) = xn := ⟨_, rfl⟩
      rw [hxn] at hx2
      simp only [hxn] at hx1
      have HX := Lib.hid hx
      have HT := Lib.hid ht
      clear hxn hx ht
      cases t with
      | true =>
        have h47 := beq_iff_eq.1 HT.out
        have hse : s = s.take k ++ 47 :: s.drop (k + 1) := by
          have h1 := HX.out
          rw [h47] at h1
          rw [← (List.getElem?_eq_some_iff.1 h1).2, ← List.drop_eq_getElem_cons hlt, List.take_append_drop]
        have hno : (47 : UInt8) ∉ s.drop (k + 1) := fun h => by
          obtain ⟨j, hj⟩ := List.getElem?_of_mem h
          rw [List.getElem?_drop] at hj
          exact HN.out (k + 1 + j) (by omega) hj
        have he := HAB.out
        rw [cutR_some hse hno] at he
        simp only [Prod.mk.injEq] at he
        obtain ⟨ha, hb⟩ := he
        have e1 : (⟨s.toArray⟩ : ByteArray).extract 0 k = ⟨a.toArray⟩ := by
          apply ByteArray.ext
          rw [← ha]
          simp
        have e2 : (⟨s.toArray⟩ : ByteArray).extract (k + 1) s.length = ⟨b.toArray⟩ := by
          apply ByteArray.ext
          rw [← hb]
          simp
          exact List.take_of_length_le (by simp)
        have q1 : (0 : Int) ≤ (k : Int) := by omega
        have q2 : (k : Int) ≤ (s.length : Int) := by omega
        have q3 : (k : Int) + 1 ≤ (s.length : Int) := by omega
        have q4 : (0 : Int) ≤ (k : Int) + 1 := by omega
        have q6 : IntKind.i64.wrap ((k : Int) + 1) = (k : Int) + 1 := IntWalk.i64_in _ (by omega)
        have q7 : ((k : Int) + 1).toNat = k + 1 := by omega
        clear hse hno ha hb h47
        go_wp2_with fail
        go_region_held3 (fun w' => True) (first | exact trivial) (first | exact trivial)
        all_goals
          go_wp2_with fail
          exact bodyPost_ret (v := .tuple #[strV a, strV b]) (by simp [results, Try.results40, go_sem]) rfl ⟨rfl, (Below.refl _ _).drew⟩
      | false =>
        have hn2 : ∀ j, k ≤ j → s[j]? ≠ some 47 := by
          intro j hj e
          rcases Nat.lt_or_ge k j with h2 | h2
          · exact HN.out j h2 e
          · obtain rfl : j = k := by omega
            rw [HX.out] at e
            obtain rfl := Option.some.inj e
            have := HT.out
            simp at this
        have HN2 := Lib.hid hn2
        clear hn2
        go_wp2_with fail
        go_roundw
        case rel => exact ⟨k, by omega, rfl, (by first | exact Lib.hid trivial | exact Lib.hid rfl), HN2⟩
        case measure => simp [intOf]
end Go.Proofs.Ytmlefodnbbkilaa

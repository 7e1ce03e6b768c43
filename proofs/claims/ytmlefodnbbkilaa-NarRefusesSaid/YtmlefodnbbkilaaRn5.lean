/- Walks: which nodes are a tree, the document's way. -/
import Derived.Test.YtmlefodnbbkilaaRn4
namespace Go.Proofs.Ytmlefodnbbkilaa
open Go.RowKit

/-- What is left is an end of the row. -/
theorem under_end (fu : Nat) : (∀ (x : Nd) (r : List Nd), ∃ k, k ≤ r.length ∧ underL fu x r = r.drop k) ∧ ∀ (p last : Bs) (r : List Nd), ∃ k, k ≤ r.length ∧ loopL fu p last r = r.drop k := by
  induction fu with
  | zero => exact ⟨fun x r => ⟨0, by omega, rfl⟩, fun p last r => ⟨0, by omega, rfl⟩⟩
  | succ fu ih =>
    refine ⟨fun x r => ?_, fun p last r => ?_⟩
    · simp only [underL]
      split
      · exact ih.2 _ _ _
      · exact ⟨0, by omega, rfl⟩
    · cases r with
      | nil => exact ⟨0, by simp, rfl⟩
      | cons y r =>
        simp only [loopL]
        split
        · exact ⟨0, by omega, rfl⟩
        · obtain ⟨k, hk, e⟩ := ih.1 y r
          obtain ⟨j, hj, e2⟩ := ih.2 p (nameR y.1 p) (underL fu y r)
          rw [e2, e, List.drop_drop]
          rw [e, List.length_drop] at hj
          exact ⟨k + j + 1, by simp only [List.length_cons]; omega, by rw [List.drop_succ_cons]⟩
set_option maxRecDepth 100000 in
set_option maxHeartbeats 1000000 in
theorem underR_any {lv : Value} {l : List Nd} (hl : l.length ≤ 1000000) (hp : ∀ x ∈ l, x.1.length ≤ 1000000) (m : Nat) : ∀ (at_ fu : Nat) (x : Nd) (W : World), NIn W lv l → l[at_]? = some x → l.length - at_ ≤ m → 2 * (l.length - at_) ≤ fu →
    Calls Try.prog 42 #[lv, .int .i64 (at_ : Int)] W fun e w' => e = .returned (.int .i64 ((l.length - (underL fu x (l.drop (at_ + 1))).length : Nat) : Int)) ∧ Below W.heap.size W w' := by
  induction m with
  | zero =>
    intro at_ fu x W _ hx hm
    have := (List.getElem?_eq_some_iff.1 hx).1
    omega
  | succ m ih =>
    intro at_ fu x W hN hx hm hfu
    have hlt := (List.getElem?_eq_some_iff.1 hx).1
    obtain ⟨f0, rfl⟩ : ∃ f0, fu = f0 + 1 := ⟨fu - 1, by omega⟩
    obtain ⟨A, c, rfl⟩ := hN.form
    obtain ⟨g, off, rfl, g1, g2, g3, -⟩ := nin_at hN at_ x hx
    obtain ⟨R, hR⟩ : ∃ R, l.length - (underL (f0 + 1) x (l.drop (at_ + 1))).length = R := ⟨_, rfl⟩
    rw [hR]
    have HR := Lib.hid hR
    have HN := Lib.hid hN
    have HX := Lib.hid hx
    have HIH := Lib.hid ih
    have HPX := Lib.hid (hp x (List.mem_of_getElem? hx))
    have HP := Lib.hid hp
    have hda : decide ((at_ : Int) < (l.length : Int)) = true := by simp; omega
    have hw0 : IntKind.i64.wrap ((at_ : Int) + 1) = ((at_ + 1 : Nat) : Int) := by rw [IntWalk.i64_in _ (by omega)]; simp
    obtain ⟨xp, xk, xd⟩ := x
    dsimp only at g2 g3
    simp only [underL] at hR
    have HRR : Hid (l.length - (if xk = 4 then loopL f0 xp [] (l.drop (at_ + 1)) else l.drop (at_ + 1)).length = R) := Lib.hid hR
    have HG1 := Lib.hid g1
    have HG2 := Lib.hid g2
    have HG3 := Lib.hid g3
    have HM := Lib.hid (And.intro hm hfu)
    clear hR hN hx ih hp g1 g2 g3 hm hfu
    have HCell : Hid (∀ V, Below W.heap.size W V → has V g ∧ V.cell? ⟨g, off + at_ * 3, none⟩ = some (strV xp) ∧ V.cell? ⟨g, off + at_ * 3 + 1, none⟩ = some (.int .i64 xk)) := Lib.hid fun V hV => by
      have hg : g < W.heap.size := HG1.out
      refine ⟨Nat.lt_of_lt_of_le hg hV.size, (cell_below (a := ⟨g, off + at_ * 3, none⟩) hV hg).trans HG2.out, (cell_below (a := ⟨g, off + at_ * 3 + 1, none⟩) hV hg).trans HG3.out⟩
    go_enter Try.func42, Try.ntmps42
    go_wp2_with fail
    rename_i K hK
    have HKK := Lib.hid hK
    clear hK
    go_loopw [5, 6] (fun z y wr => ∃ (nx F : Nat) (last : Bs), at_ + 1 ≤ nx ∧ nx ≤ l.length ∧ z = .int .i64 (nx : Int) ∧ y = strV last ∧ 2 * (l.length - nx) + 1 ≤ F ∧ Hid ((if xk = 4 then loopL f0 xp [] (l.drop (at_ + 1)) else l.drop (at_ + 1)) = (if xk = 4 then loopL F xp last (l.drop nx) else l.drop nx)) ∧ Hid (Below W.heap.size W wr)) (fun z _ _ => l.length - (intOf z).toNat)
    case atStart => exact ⟨at_ + 1, f0, [], by omega, by omega, by simp, rfl, by have := HM.out; omega, rfl, Below.refl _ _⟩
    case round =>
      obtain ⟨nx, F, last, hn1, hn2, rfl, rfl, hF, HE, HB⟩ := hrel
      obtain ⟨q1, q2, q3⟩ := HCell.out wr HB.out
      by_cases hlt2 : nx < l.length
      · have hd : decide ((nx : Int) < (l.length : Int)) = true := by simp; omega
        by_cases hk4 : xk = 4
        · subst hk4
          have he := HE.out
          simp only [if_true] at he
          obtain ⟨y, hy⟩ : ∃ y, l[nx]? = some y := ⟨_, List.getElem?_eq_getElem hlt2⟩
          have hdrop : l.drop nx = y :: l.drop (nx + 1) := by rw [List.drop_eq_getElem_cons hlt2, (List.getElem?_eq_some_iff.1 hy).2]
          obtain ⟨F', rfl⟩ : ∃ F', F = F' + 1 := ⟨F - 1, by omega⟩
          rw [hdrop] at he
          simp only [loopL] at he
          obtain ⟨g', off', h', gy1, gy2, -, -⟩ := nin_at (HN.out.on HB.out) nx y hy
          simp only [Option.some.injEq, Addr.mk.injEq, and_true] at h'
          obtain ⟨rfl, rfl⟩ := h'
          have HNM := Lib.hid (nameR_any y.1 xp)
          have hyl := HP.out y (List.mem_of_getElem? hy)
          have HIHy := Lib.hid (fun V (hV : Below W.heap.size W V) => HIH.out nx F' y V (HN.out.on hV) hy (by have := HM.out; omega) (by omega))
          have hend := (under_end F').1 y (l.drop (nx + 1))
          obtain ⟨kk, hkk, hdk⟩ := hend
          rw [List.length_drop] at hkk
          have hun : (underL F' y (l.drop (nx + 1))) = l.drop (nx + 1 + kk) := by rw [hdk, List.drop_drop]
          have hlen : l.length - (underL F' y (l.drop (nx + 1))).length = nx + 1 + kk := by rw [hun, List.length_drop]; omega
          rw [hun] at he
          rw [hlen] at HIHy
          have hxl : xp.length ≤ 1000000 := HPX.out
          obtain ⟨nm, hnm⟩ : ∃ nm, nameR y.1 xp = nm := ⟨_, rfl⟩
          rw [hnm] at he HNM
          have HE2 := Lib.hid he
          have HKKl := Lib.hid hkk
          have HYL := Lib.hid (And.intro hyl hxl)
          obtain ⟨yp, hyp⟩ : ∃ yp, y.1 = yp := ⟨_, rfl⟩
          rw [hyp] at gy2 HNM
          have HNM2 : Hid (∀ V, Calls Try.prog 55 #[strV yp, strV xp] V fun e w' => e = .returned (strV nm) ∧ w' = V) := Lib.hid fun V => HNM.out V (by rw [← hyp]; exact HYL.out.1) HYL.out.2
          clear hdrop he hdk hun hlen hkk hnm hy HNM hyl hxl hyp
          go_wp2_with fail
          go_region_held3 (fun w' => w'.cell? ⟨g, off + nx * 3, none⟩ = some (strV yp) ∧ w'.cell? ⟨g, off + at_ * 3, none⟩ = some (strV xp)) (first | exact ⟨gy2, q2⟩ | go_keep)
            (first
              | (go_at_call 55; with_reducible refine (HNM2.out _).mono ?_; rintro _ _ ⟨rfl, rfl⟩))
          have HB3 := Lib.hid HB.out.drew
          obtain ⟨t1, ht1⟩ : ∃ t, nm.isEmpty = t := ⟨_, rfl⟩
          obtain ⟨t2, ht2⟩ : ∃ t, ltB last nm = t := ⟨_, rfl⟩
          rw [ht1, ht2] at HE2
          have hstop : (t1 || !t2) = true → R = nx := fun h => by
            have e := HE2.out
            rw [h] at e
            have e2 := HRR.out
            simp only [if_true] at e e2
            rw [e] at e2
            simp only [List.length_cons, List.length_drop] at e2
            omega
          have HSTOP := Lib.hid hstop
          have HT1 := Lib.hid ht1
          clear hstop gy1 gy2 q1 q2 q3 HNM2
          cases t1 with
          | true =>
            have hRn : R = nx := HSTOP.out rfl
            clear ht1 ht2
            have hnm0 : nm = [] := by have := HT1.out; simpa using this
            subst hnm0
            go_wp2_with fail
            refine HKK.out _ _ ?_
            go_wp2_with fail
            exact bodyPost_ret (v := .int .i64 (nx : Int)) (by simp [results, Try.results42, go_sem]) rfl ⟨by rw [hRn], HB3.out⟩
          | false =>
            cases t2 with
            | false =>
              have hRn : R = nx := HSTOP.out rfl
              have HRN := Lib.hid hRn
              clear hRn
              go_wp2_with fail
              refine HKK.out _ _ ?_
              go_wp2_with fail
              exact bodyPost_ret (v := .int .i64 (nx : Int)) (by simp [results, Try.results42, go_sem]) rfl ⟨by rw [HRN.out], HB3.out⟩
            | true =>
              have HCALL := Lib.hid (HIHy.out _ HB3.out)
              go_wp2_with fail
              refine HCALL.out.mono ?_
              rintro _ V ⟨rfl, hb⟩
              have HB4 := Lib.hid (HB3.out.trans (hb.mono HB3.out.size))
              clear hb HCALL
              have hk2 := HKKl.out
              go_wp2_with fail
              have he3 : (if (4 : Int) = 4 then loopL f0 xp [] (l.drop (at_ + 1)) else l.drop (at_ + 1)) = (if (4 : Int) = 4 then loopL F' xp nm (l.drop (nx + 1 + kk)) else l.drop (nx + 1 + kk)) := by
                simp only [if_true]
                rw [HE2.out]
                simp
              go_roundw
              case rel => exact ⟨nx + 1 + kk, F', nm, by omega, by omega, rfl, rfl, by omega, he3, HB4⟩
              case measure => simp [intOf]; omega
        · have hk5 : (xk == 4) = false := by simpa using hk4
          have hRn : R = nx := by
            have e := HE.out
            have e2 := HRR.out
            rw [if_neg hk4] at e e2
            rw [if_neg hk4] at e
            rw [e] at e2
            simp only [List.length_drop] at e2
            omega
          have HRN := Lib.hid hRn
          clear hRn
          go_wp2_with fail
          refine HKK.out _ _ ?_
          go_wp2_with fail
          exact bodyPost_ret (v := .int .i64 (nx : Int)) (by simp [results, Try.results42, go_sem]) rfl ⟨by rw [HRN.out], HB.out⟩
      · obtain rfl : nx = l.length := by omega
        have hd : decide ((l.length : Int) < (l.length : Int)) = false := by simp
        have hRn : R = l.length := by
          have e := HE.out
          have e2 := HRR.out
          rw [e] at e2
          have h0 : (if xk = 4 then loopL F xp last (l.drop l.length) else l.drop l.length).length = 0 := by
            rw [List.drop_length]
            split
            · cases F <;> simp [loopL]
            · rfl
          omega
        have HRN := Lib.hid hRn
        clear hRn
        go_wp2_with fail
        refine HKK.out _ _ ?_
        go_wp2_with fail
        exact bodyPost_ret (v := .int .i64 (l.length : Int)) (by simp [results, Try.results42, go_sem]) rfl ⟨by rw [HRN.out], HB.out⟩
end Go.Proofs.Ytmlefodnbbkilaa

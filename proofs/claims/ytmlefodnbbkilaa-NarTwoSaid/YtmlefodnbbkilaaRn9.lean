/- Walks: whether nodes are the same. -/
import Derived.Test.YtmlefodnbbkilaaRn1
import Derived.BigQuiet
import Derived.Deep.QuietTactic
namespace Go.Proofs.Ytmlefodnbbkilaa
open Go.RowKit

theorem same_step {l m : List Nd} {q : Nat} {x y : Nd} (hlen : l.length = m.length) (hx : l[q]? = some x) (hy : m[q]? = some y) (hp : l.take q = m.take q) : (x = y → l.take (q + 1) = m.take (q + 1)) ∧ (x ≠ y → decide (l = m) = false) := by
  refine ⟨fun e => ?_, fun h => ?_⟩
  · have h1 := (List.getElem?_eq_some_iff.1 hx)
    have h2 := (List.getElem?_eq_some_iff.1 hy)
    obtain ⟨a1, rfl⟩ := h1
    obtain ⟨a2, rfl⟩ := h2
    rw [List.take_succ_eq_append_getElem a1, List.take_succ_eq_append_getElem a2, hp, e]
  · simp only [decide_eq_false_iff_not]
    rintro rfl
    rw [hx] at hy
    exact h (Option.some.inj hy)
set_option maxRecDepth 100000 in
set_option maxHeartbeats 1000000 in
theorem same46_any {W : World} {v u : Value} {l m : List Nd} (h : NIn W v l) (h2 : NIn W u m) (hl : l.length ≤ 1000000) :
    Calls Try.prog 46 #[v, u] W fun e w' => e = .returned (.bool (decide (l = m))) ∧ Below W.heap.size W w' := by
  obtain ⟨A, c, rfl⟩ := h.form
  obtain ⟨A2, c2, rfl⟩ := h2.form
  have HL := Lib.hid h
  have HM := Lib.hid h2
  clear h h2
  by_cases hlen : l.length = m.length
  case neg =>
    have e : decide (l = m) = false := by
      simp only [decide_eq_false_iff_not]
      rintro rfl
      exact hlen rfl
    rw [e]
    have hd : ((l.length : Int) == (m.length : Int)) = false := by simp; omega
    clear hlen e
    go_enter Try.func46, Try.ntmps46
    go_wp2_with fail
    exact bodyPost_ret (v := .bool false) (by simp [results, Try.results46, go_sem]) rfl ⟨rfl, Below.refl _ _⟩
  obtain ⟨R, hR⟩ : ∃ R, decide (l = m) = R := ⟨_, rfl⟩
  rw [hR]
  have HR := Lib.hid hR
  have HLEN := Lib.hid hlen
  rw [← hlen]
  clear hR
  have hd : ((l.length : Int) == (l.length : Int)) = true := by simp
  clear hlen
  go_enter Try.func46, Try.ntmps46
  go_wp2_with fail
  rename_i K hK
  have HKK := Lib.hid hK
  clear hK
  go_loopw [13] (fun z wr => ∃ q : Nat, q ≤ l.length ∧ z = .int .i64 (q : Int) ∧ Hid (Below W.heap.size W wr) ∧ Hid (l.take q = m.take q)) (fun z _ => l.length - (intOf z).toNat)
  case atStart => exact ⟨0, by omega, rfl, Lib.hid (Below.refl _ _), Lib.hid rfl⟩
  case round =>
    obtain ⟨q, hq, rfl, HB, HP⟩ := hrel
    by_cases hlt : q < l.length
    · have hd2 : decide ((q : Int) < (l.length : Int)) = true := by simp; omega
      obtain ⟨x, hx⟩ : ∃ x, l[q]? = some x := ⟨_, List.getElem?_eq_getElem hlt⟩
      obtain ⟨y, hy⟩ : ∃ y, m[q]? = some y := ⟨_, List.getElem?_eq_getElem (by rw [← HLEN.out]; exact hlt)⟩
      obtain ⟨g, off, rfl, g1, x1, x2, x3⟩ := nin_at (HL.out.on HB.out) q x hx
      obtain ⟨g', off', rfl, g1', y1, y2, y3⟩ := nin_at (HM.out.on HB.out) q y hy
      have HST := Lib.hid (same_step HLEN.out hx hy HP.out)
      by_cases hxy : x = y
      · have HN := Lib.hid (HST.out.1 hxy)
        subst hxy
        clear hx hy HST
        go_wp2_with fail
        go_quiet (fail)
        go_wp2_with fail
        go_roundw
        case rel => exact ⟨q + 1, by omega, by go_num, Lib.hid (HB.out.trans ⟨rfl, rfl, rfl, Nat.le_refl _, fun _ _ => rfl⟩), HN⟩
        case measure => simp [intOf]; omega
      · have HN := Lib.hid (HST.out.2 hxy)
        obtain rfl : R = false := HR.out.symm.trans HN.out
        clear hx hy HST HN
        obtain ⟨xa, xb, xc⟩ := x
        obtain ⟨ya, yb, yc⟩ := y
        dsimp only at x1 x2 x3 y1 y2 y3
        have hh : ¬ xa = ya ∨ (xa = ya ∧ ¬ xb = yb) ∨ (xa = ya ∧ xb = yb ∧ ¬ xc = yc) := by
          by_cases h1 : xa = ya <;> by_cases h2 : xb = yb <;> by_cases h3 : xc = yc <;> simp_all
        clear hxy
        rcases hh with h1 | ⟨rfl, h1⟩ | ⟨rfl, rfl, h1⟩
        all_goals
          go_wp2_with fail
          go_quiet (fail)
          go_wp2_with fail
          exact bodyPost_ret (v := .bool false) (by simp [results, Try.results46, go_sem]) rfl ⟨rfl, HB.out.trans ⟨rfl, rfl, rfl, Nat.le_refl _, fun _ _ => rfl⟩⟩
    · have hd2 : decide ((q : Int) < (l.length : Int)) = false := by simp; omega
      obtain rfl : q = l.length := by omega
      obtain rfl : R = true := by
        rw [← HR.out, decide_eq_true_eq]
        have := HP.out
        rw [List.take_of_length_le (Nat.le_refl _), HLEN.out, List.take_of_length_le (Nat.le_refl _)] at this
        exact this
      go_wp2_with fail
      refine HKK.out _ _ ?_
      go_wp2_with fail
      exact bodyPost_ret (v := .bool true) (by simp [results, Try.results46, go_sem]) rfl ⟨rfl, HB.out⟩
set_option maxRecDepth 100000 in
set_option maxHeartbeats 1000000 in
theorem same26_any {W : World} {v u : Value} {l m : List Nd} (h : NIn W v l) (h2 : NIn W u m) (hl : l.length ≤ 1000000) :
    Calls Try.prog 26 #[v, u] W fun e w' => e = .returned (.bool (decide (l = m))) ∧ Below W.heap.size W w' := by
  obtain ⟨A, c, rfl⟩ := h.form
  obtain ⟨A2, c2, rfl⟩ := h2.form
  have HL := Lib.hid h
  have HM := Lib.hid h2
  clear h h2
  by_cases hlen : l.length = m.length
  case neg =>
    have e : decide (l = m) = false := by
      simp only [decide_eq_false_iff_not]
      rintro rfl
      exact hlen rfl
    rw [e]
    have hd : ((l.length : Int) == (m.length : Int)) = false := by simp; omega
    clear hlen e
    go_enter Try.func26, Try.ntmps26
    go_wp2_with fail
    exact bodyPost_ret (v := .bool false) (by simp [results, Try.results26, go_sem]) rfl ⟨rfl, Below.refl _ _⟩
  obtain ⟨R, hR⟩ : ∃ R, decide (l = m) = R := ⟨_, rfl⟩
  rw [hR]
  have HR := Lib.hid hR
  have HLEN := Lib.hid hlen
  rw [← hlen]
  clear hR
  have hd : ((l.length : Int) == (l.length : Int)) = true := by simp
  clear hlen
  go_enter Try.func26, Try.ntmps26
  go_wp2_with fail
  rename_i K hK
  have HKK := Lib.hid hK
  clear hK
  go_loopw [5] (fun z wr => ∃ q : Nat, q ≤ l.length ∧ z = .int .i64 (q : Int) ∧ Hid (Below W.heap.size W wr) ∧ Hid (l.take q = m.take q)) (fun z _ => l.length - (intOf z).toNat)
  case atStart => exact ⟨0, by omega, rfl, Lib.hid (Below.refl _ _), Lib.hid rfl⟩
  case round =>
    obtain ⟨q, hq, rfl, HB, HP⟩ := hrel
    by_cases hlt : q < l.length
    · have hd2 : decide ((q : Int) < (l.length : Int)) = true := by simp; omega
      obtain ⟨x, hx⟩ : ∃ x, l[q]? = some x := ⟨_, List.getElem?_eq_getElem hlt⟩
      obtain ⟨y, hy⟩ : ∃ y, m[q]? = some y := ⟨_, List.getElem?_eq_getElem (by rw [← HLEN.out]; exact hlt)⟩
      obtain ⟨g, off, rfl, g1, x1, x2, x3⟩ := nin_at (HL.out.on HB.out) q x hx
      obtain ⟨g', off', rfl, g1', y1, y2, y3⟩ := nin_at (HM.out.on HB.out) q y hy
      have HST := Lib.hid (same_step HLEN.out hx hy HP.out)
      by_cases hxy : x = y
      · have HN := Lib.hid (HST.out.1 hxy)
        subst hxy
        clear hx hy HST
        go_wp2_with fail
        go_quiet (fail)
        go_wp2_with fail
        go_roundw
        case rel => exact ⟨q + 1, by omega, by go_num, Lib.hid (HB.out.trans ⟨rfl, rfl, rfl, Nat.le_refl _, fun _ _ => rfl⟩), HN⟩
        case measure => simp [intOf]; omega
      · have HN := Lib.hid (HST.out.2 hxy)
        obtain rfl : R = false := HR.out.symm.trans HN.out
        clear hx hy HST HN
        obtain ⟨xa, xb, xc⟩ := x
        obtain ⟨ya, yb, yc⟩ := y
        dsimp only at x1 x2 x3 y1 y2 y3
        have hh : ¬ xa = ya ∨ (xa = ya ∧ ¬ xb = yb) ∨ (xa = ya ∧ xb = yb ∧ ¬ xc = yc) := by
          by_cases h1 : xa = ya <;> by_cases h2 : xb = yb <;> by_cases h3 : xc = yc <;> simp_all
        clear hxy
        rcases hh with h1 | ⟨rfl, h1⟩ | ⟨rfl, rfl, h1⟩
        all_goals
          go_wp2_with fail
          go_quiet (fail)
          go_wp2_with fail
          exact bodyPost_ret (v := .bool false) (by simp [results, Try.results26, go_sem]) rfl ⟨rfl, HB.out.trans ⟨rfl, rfl, rfl, Nat.le_refl _, fun _ _ => rfl⟩⟩
    · have hd2 : decide ((q : Int) < (l.length : Int)) = false := by simp; omega
      obtain rfl : q = l.length := by omega
      obtain rfl : R = true := by
        rw [← HR.out, decide_eq_true_eq]
        have := HP.out
        rw [List.take_of_length_le (Nat.le_refl _), HLEN.out, List.take_of_length_le (Nat.le_refl _)] at this
        exact this
      go_wp2_with fail
      refine HKK.out _ _ ?_
      go_wp2_with fail
      exact bodyPost_ret (v := .bool true) (by simp [results, Try.results26, go_sem]) rfl ⟨rfl, HB.out⟩
set_option maxRecDepth 100000 in
theorem same_any {W : World} {v u : Value} {l m : List Nd} (h : NIn W v l) (h2 : NIn W u m) (hl : l.length ≤ 1000000) :
    Calls Try.prog 25 #[v, u] W fun e w' => e = .returned (.bool (decide (l = m))) ∧ Below W.heap.size W w' := by
  have H := Lib.hid (same46_any h h2 hl)
  obtain ⟨R, hR⟩ : ∃ R, decide (l = m) = R := ⟨_, rfl⟩
  rw [hR] at H ⊢
  clear h h2 hR
  go_enter Try.func25, Try.ntmps25
  go_wp2_with fail
  refine H.out.mono ?_
  rintro _ V ⟨rfl, hb⟩
  have HB := Lib.hid hb
  clear hb
  go_wp2_with fail
  exact bodyPost_ret (v := .bool R) (by simp [results, Try.results25, go_sem]) rfl ⟨rfl, HB.out⟩
/-- What is not heavy. -/
def Light (l : List Nd) : Prop := l.length ≤ 280 ∧ ∀ x ∈ l, x.1.length ≤ 6000 ∧ x.2.2.length ≤ 70000
set_option maxRecDepth 100000 in
set_option maxHeartbeats 1000000 in
theorem heavy_any {W : World} {v : Value} {l : List Nd} (h : NIn W v l) (hl : l.length ≤ 9223372036854775807) :
    Calls Try.prog 19 #[v] W fun e w' => ∃ b, e = .returned (.bool b) ∧ (b = false → Light l) ∧ Below W.heap.size W w' := by
  obtain ⟨A, c, rfl⟩ := h.form
  have HL := Lib.hid h
  clear h
  go_enter Try.func19, Try.ntmps19
  go_wp2_with fail
  rename_i K hK
  have HKK := Lib.hid hK
  clear hK
  go_loopw [3, 4] (fun y z wr => ∃ q t : Nat, q ≤ l.length ∧ q ≤ 300 ∧ t ≤ q * 70000 ∧ y = .int .i64 (t : Int) ∧ z = .int .i64 (q : Int) ∧ Hid (Below W.heap.size W wr) ∧ Hid (∀ j, j < q → ∀ x, l[j]? = some x → x.1.length ≤ 6000 ∧ x.2.2.length ≤ 70000)) (fun _ z _ => l.length - (intOf z).toNat)
  case atStart => exact ⟨0, 0, by omega, by omega, by omega, rfl, rfl, Lib.hid (Below.refl _ _), Lib.hid fun j hj => by omega⟩
  case round =>
    obtain ⟨q, t, hq, hq3, ht, rfl, rfl, HB, HP⟩ := hrel
    by_cases hlt : q < l.length ∧ q < 300
    · obtain ⟨h1, h2⟩ := hlt
      have hd : decide ((q : Int) < (l.length : Int)) = true := by simp; omega
      have hd2 : decide ((q : Int) < 300) = true := by simp; omega
      obtain ⟨x, hx⟩ : ∃ x, l[q]? = some x := ⟨_, List.getElem?_eq_getElem h1⟩
      obtain ⟨g, off, rfl, g1, x1, x2, x3⟩ := nin_at (HL.out.on HB.out) q x hx
      have HX := Lib.hid hx
      clear hx
      by_cases hp : 6000 < x.1.length
      · have hp2 : decide ((6000 : Int) < (x.1.length : Int)) = true := by simp; omega
        go_wp2_with fail
        exact bodyPost_ret (v := .bool true) (by simp [results, Try.results19, go_sem]) rfl ⟨true, rfl, (fun h => by cases h), HB.out⟩
      · have hp2 : decide ((6000 : Int) < (x.1.length : Int)) = false := by simp; omega
        by_cases hp3 : 70000 < x.2.2.length
        · have hp4 : decide ((70000 : Int) < (x.2.2.length : Int)) = true := by simp; omega
          go_wp2_with fail
          exact bodyPost_ret (v := .bool true) (by simp [results, Try.results19, go_sem]) rfl ⟨true, rfl, (fun h => by cases h), HB.out⟩
        · have hp4 : decide ((70000 : Int) < (x.2.2.length : Int)) = false := by simp; omega
          have hnew : ∀ j, j < q + 1 → ∀ x, l[j]? = some x → x.1.length ≤ 6000 ∧ x.2.2.length ≤ 70000 := by
            intro j hj y hy
            rcases Nat.lt_or_ge j q with h3 | h3
            · exact HP.out j h3 y hy
            · obtain rfl : j = q := by omega
              rw [HX.out] at hy
              obtain rfl := Option.some.inj hy
              omega
          have HNEW := Lib.hid hnew
          clear hnew
          go_wp2_with fail
          go_roundw
          case rel => exact ⟨q + 1, t + x.2.2.length, by omega, by omega, by omega, by go_num, by go_num, HB, HNEW⟩
          case measure => simp [intOf]; omega
    · have hex : ∀ b : Bool, (b = false → l.length ≤ 280) → b = false → Light l := fun b h hb => by
        have h1 := h hb
        refine ⟨h1, fun x hx => ?_⟩
        obtain ⟨j, hj⟩ := List.getElem?_of_mem hx
        have h2 := (List.getElem?_eq_some_iff.1 hj).1
        exact HP.out j (by omega) x hj
      have HEX := Lib.hid hex
      clear hex
      by_cases h280 : 280 < l.length
      · have hd3 : decide ((280 : Int) < (l.length : Int)) = true := by simp; omega
        by_cases hql : q < l.length
        · obtain rfl : q = 300 := by omega
          rw [show ((300 : Nat) : Int) = 300 from rfl]
          have hd : decide ((300 : Int) < (l.length : Int)) = true := by simp; omega
          go_wp2_with fail
          refine HKK.out _ _ ?_
          go_wp2_with fail
          exact bodyPost_ret (v := .bool true) (by simp [results, Try.results19, go_sem]) rfl ⟨true, rfl, (fun h => by cases h), HB.out⟩
        · have hd : decide ((q : Int) < (l.length : Int)) = false := by simp; omega
          go_wp2_with fail
          refine HKK.out _ _ ?_
          go_wp2_with fail
          exact bodyPost_ret (v := .bool true) (by simp [results, Try.results19, go_sem]) rfl ⟨true, rfl, (fun h => by cases h), HB.out⟩
      · have hd3 : decide ((280 : Int) < (l.length : Int)) = false := by simp; omega
        have hd : decide ((q : Int) < (l.length : Int)) = false := by simp; omega
        obtain ⟨bb, hbb⟩ : ∃ bb, decide ((150000 : Int) < (t : Int)) = bb := ⟨_, rfl⟩
        have hfin := HEX.out bb (fun _ => by omega)
        have HFIN := Lib.hid hfin
        clear hfin
        go_wp2_with fail
        refine HKK.out _ _ ?_
        go_wp2_with fail
        exact bodyPost_ret (v := .bool bb) (by simp [results, Try.results19, go_sem]) rfl ⟨bb, rfl, HFIN.out, HB.out⟩
end Go.Proofs.Ytmlefodnbbkilaa

/- Walks: whether nodes are a tree. -/
import Derived.Test.YtmlefodnbbkilaaNa5
namespace Go.Proofs.Ytmlefodnbbkilaa
open Go.RowKit

theorem encNd_ok : Enc 3 encNd := ⟨fun _ => rfl, fun x u hu => by simp [encNd] at hu; rcases hu with rfl | rfl | rfl <;> rfl, by omega⟩
abbrev NIn (W : World) (v : Value) (l : List Nd) : Prop := XIn 3 encNd W v l
theorem nin_at {W : World} {A : Option Addr} {n c : Nat} {l : List Nd} (h : NIn W (.slice A n c) l) (j : Nat) (x : Nd) (hj : l[j]? = some x) :
    ∃ b off, A = some ⟨b, off, none⟩ ∧ has W b ∧ W.cell? ⟨b, off + j * 3, none⟩ = some (strV x.1) ∧ W.cell? ⟨b, off + j * 3 + 1, none⟩ = some (.int .i64 x.2.1) ∧ W.cell? ⟨b, off + j * 3 + 2, none⟩ = some (strV x.2.2) := by
  obtain ⟨b, off, h1, h2, h3⟩ := h.at j x hj
  exact ⟨b, off, h1, h2, h3 0 (by omega), h3 1 (by omega), h3 2 (by omega)⟩
theorem closN_any (x : Nd) (W : World) : Calls Try.prog 33 #[.agg #[strV x.1, .int .i64 x.2.1, strV x.2.2]] W fun e w' => e = .returned (.bool (!mayNodeN x)) ∧ Below W.heap.size W w' := by
  have hb : Below W.heap.size W (W.alloc (.cells #[strV x.1, .int .i64 x.2.1, strV x.2.2] 37)) := (Below.refl _ W).alloc (Nat.le_refl _) _
  have HC := Lib.hid (mayNode_any x (W.alloc (.cells #[strV x.1, .int .i64 x.2.1, strV x.2.2] 37)))
  have HB := Lib.hid hb
  clear hb
  have hcell := new_at W (.cells #[strV x.1, .int .i64 x.2.1, strV x.2.2] 37)
  obtain ⟨b, hb⟩ : ∃ b, mayNodeN x = b := ⟨_, rfl⟩
  rw [hb] at HC ⊢
  clear hb
  obtain ⟨p, k, d⟩ := x
  dsimp only at HC HB hcell ⊢
  go_enter Try.func33, Try.ntmps33
  go_wp2_with fail
  refine HC.out.mono ?_
  rintro _ V ⟨rfl, hb⟩
  have HB2 := Lib.hid (HB.out.trans (hb.mono HB.out.size))
  clear hb hcell HC
  go_wp2_with fail
  exact bodyPost_ret (v := .bool (!b)) (by simp [results, Try.results33, go_sem]) rfl ⟨rfl, HB2.out⟩
set_option maxRecDepth 100000 in
theorem indexN_any {W : World} {v : Value} {l : List Nd} (h : NIn W v l) (hl : l.length ≤ 1000000) :
    Calls Try.prog 50 #[v, .func (.func 33) #[] #[]] W fun e w' => (∃ i, e = .returned (.int .i64 i) ∧ decide (0 ≤ i) = !(l.all mayNodeN)) ∧ Below W.heap.size W w' := by
  obtain ⟨A, c, rfl⟩ := h.form
  have H := Lib.hid h
  clear h
  go_enter Try.func50, Try.ntmps50
  go_wp2_with fail
  rename_i K hK
  have HKK := Lib.hid hK
  clear hK
  go_loopw [8] (fun v wr => ∃ k : Nat, k ≤ l.length ∧ v = .int .i64 k ∧ Hid (Below W.heap.size W wr) ∧ Hid (∀ j, j < k → ∀ x, l[j]? = some x → mayNodeN x = true)) (fun v _ => l.length - (intOf v).toNat)
  case atStart => exact ⟨0, by omega, rfl, Below.refl _ _, fun j hj => by omega⟩
  case round =>
    obtain ⟨k, hk, rfl, HB, HN⟩ := hrel
    by_cases hlt : k < l.length
    · have hd : decide ((k : Int) < (l.length : Int)) = true := by simp; omega
      obtain ⟨x, hx⟩ : ∃ x, l[k]? = some x := ⟨_, List.getElem?_eq_getElem hlt⟩
      obtain ⟨b, off, rfl, g1, g2, g3, g4⟩ := nin_at (H.out.on HB.out) k x hx
      have HC := Lib.hid (closN_any x wr)
      go_wp2_with fail
      refine HC.out.mono ?_
      rintro _ V ⟨rfl, hb⟩
      have HB2 := Lib.hid (HB.out.trans (hb.mono HB.out.size))
      clear hb g1 g2 g3 g4 HC
      obtain ⟨t, ht⟩ : ∃ t, mayNodeN x = t := ⟨_, rfl⟩
      rw [ht]
      cases t with
      | false =>
        have hf : l.all mayNodeN = false := by
          apply List.all_eq_false.2
          exact ⟨x, List.mem_of_getElem? hx, by simp [ht]⟩
        have HF := Lib.hid hf
        clear hx ht hf
        go_wp2_with fail
        exact bodyPost_ret (v := .int .i64 (k : Int)) (by simp [results, Try.results50, go_sem]) rfl ⟨⟨_, rfl, by rw [HF.out]; simp⟩, HB2.out⟩
      | true =>
        have HN2 : Hid (∀ j, j < k + 1 → ∀ y, l[j]? = some y → mayNodeN y = true) := Lib.hid (by
          intro j hj y hy
          rcases Nat.lt_or_ge j k with h2 | h2
          · exact HN.out j h2 y hy
          · obtain rfl : j = k := by omega
            rw [hx] at hy
            obtain rfl := Option.some.inj hy
            exact ht)
        clear hx ht
        go_wp2_with fail
        go_roundw
        case rel => exact ⟨k + 1, by omega, by go_num, HB2.out, HN2.out⟩
        case measure => simp [intOf]; omega
    · obtain rfl : k = l.length := by omega
      have hd : decide ((l.length : Int) < (l.length : Int)) = false := by simp
      go_wp2_with fail
      refine HKK.out _ _ ?_
      go_wp2_with fail
      have hf : l.all mayNodeN = true := List.all_eq_true.2 fun x hx => by
        obtain ⟨j, hj⟩ := List.getElem?_of_mem hx
        exact HN.out j (List.getElem?_eq_some_iff.1 hj).1 x hj
      exact bodyPost_ret (v := .int .i64 (-1)) (by simp [results, Try.results50, go_sem]) rfl ⟨⟨_, rfl, by rw [hf]; rfl⟩, HB.out⟩
theorem containsN_any {W : World} {v : Value} {l : List Nd} (h : NIn W v l) (hl : l.length ≤ 1000000) :
    Calls Try.prog 32 #[v, .func (.func 33) #[] #[]] W fun e w' => e = .returned (.bool (!(l.all mayNodeN))) ∧ Below W.heap.size W w' := by
  have HC := Lib.hid (indexN_any h hl)
  clear h
  obtain ⟨t, ht⟩ : ∃ t, (!(l.all mayNodeN)) = t := ⟨_, rfl⟩
  rw [ht] at HC ⊢
  clear ht
  go_enter Try.func32, Try.ntmps32
  go_wp2_with fail
  refine HC.out.mono ?_
  rintro _ V ⟨⟨i, rfl, hi⟩, hb⟩
  have HB := Lib.hid hb
  have HI := Lib.hid hi
  clear hb hi
  go_wp2_with fail
  exact bodyPost_ret (v := .bool (decide (0 ≤ i))) (by simp [results, Try.results32, go_sem]) rfl ⟨by rw [HI.out], HB.out⟩
end Go.Proofs.Ytmlefodnbbkilaa

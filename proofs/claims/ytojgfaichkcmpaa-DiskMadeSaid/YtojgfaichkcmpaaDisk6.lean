/- Walks: a byte of a sector turned. -/
import Derived.Test.YtojgfaichkcmpaaDisk5
import Derived.Test.YtojgfaichkcmpaaConvRow
import Derived.Lib.ConvBytes
import Derived.Laws.BytesString
namespace Go.Proofs.Ytojgfaichkcmpaa
open Go.RowKit

def DS.turned (S : DS) (i k b : Int) : DS × Int :=
  if ¬ (0 ≤ i ∧ i < S.firm.length) ∨ k < 0 ∨ 64 ≤ k ∨ b < 1 ∨ 255 < b then (S, 1) else if 0 < S.loose.length then (S, 3) else
    ({ S with firm := S.firm.set i.toNat ((S.firm.getD i.toNat []).set k.toNat ((S.firm.getD i.toNat []).getD k.toNat 0 ^^^ UInt8.ofNat b.toNat)) }, 0)
set_option maxRecDepth 100000 in
theorem turn_any {W : World} {p f : Nat} {lv : Value} {S : DS} (h : DiskAt W p f lv S) (i k b : Int) :
    Calls Try.prog 21 #[ptr p, .int .i64 i, .int .i64 k, .int .i64 b] W fun e w' => e = .returned (.int .i64 (S.turned i k b).2) ∧ ∃ lv', DiskAt w' p f lv' (S.turned i k b).1 ∧ Changed W w' p f lv lv' := by
  obtain ⟨c0, c1, c2, c3, hf⟩ := h.cells
  have k25 := has_any h i
  obtain ⟨A, z, rfl⟩ := h.form
  by_cases hi : 0 ≤ i ∧ i < S.firm.length
  · rw [decide_eq_true hi] at k25
    by_cases hg : k < 0 ∨ 64 ≤ k ∨ b < 1 ∨ 255 < b
    · have hw : S.turned i k b = (S, 1) := by unfold DS.turned; rw [if_pos (.inr hg)]
      rw [hw]
      go_enter Try.func21, Try.ntmps21
      go_wp2_with fail
      refine k25.mono ?_
      rintro _ W2 ⟨rfl, hW2⟩
      rw [hW2]
      clear hW2
      go_wp2_with fail
      all_goals exact bodyPost_ret (v := .int .i64 1) (by simp [results, Try.results21, go_sem]) rfl ⟨rfl, _, h, Changed.refl _ _ _ _⟩
    · by_cases hlo : 0 < S.loose.length
      · have hw : S.turned i k b = (S, 3) := by unfold DS.turned; rw [if_neg (by omega), if_pos hlo]
        rw [hw]
        go_enter Try.func21, Try.ntmps21
        go_wp2_with fail
        refine k25.mono ?_
        rintro _ W2 ⟨rfl, hW2⟩
        rw [hW2]
        clear hW2
        go_wp2_with fail
        all_goals exact bodyPost_ret (v := .int .i64 3) (by simp [results, Try.results21, go_sem]) rfl ⟨rfl, _, h, Changed.refl _ _ _ _⟩
      · obtain ⟨n, rfl⟩ : ∃ n : Nat, i = (n : Int) := ⟨i.toNat, by omega⟩
        obtain ⟨m, rfl⟩ : ∃ m : Nat, k = (m : Int) := ⟨k.toNat, by omega⟩
        obtain ⟨c, rfl⟩ : ∃ c : Nat, b = (c : Int) := ⟨b.toNat, by omega⟩
        have hl0 : S.loose.length = 0 := by omega
        obtain ⟨s1, s2⟩ := h.sector n (by omega)
        have hs64 : (S.firm.getD n []).length = 64 := h.hs.1 _ (by
          rw [List.getD_eq_getElem?_getD, List.getElem?_eq_getElem (by omega), Option.getD_some]
          exact List.getElem_mem _)
        have hw : S.turned n m c = ({ S with firm := S.firm.set n ((S.firm.getD n []).set m ((S.firm.getD n []).getD m 0 ^^^ UInt8.ofNat c)) }, 0) := by unfold DS.turned; rw [if_neg (by omega), if_neg (by omega)]; rfl
        rw [hw]
        obtain ⟨s, hs⟩ : ∃ s, S.firm.getD n [] = s := ⟨_, rfl⟩
        rw [hs] at s1 hs64 ⊢
        go_enter Try.func21, Try.ntmps21
        go_wp2_with fail
        refine k25.mono ?_
        rintro _ W2 ⟨rfl, hW2⟩
        rw [hW2]
        clear hW2
        obtain ⟨X, d, cc, tl, mm, hx, hX, hblk, hfr⟩ := conv_row W s
        obtain ⟨y, hy⟩ : ∃ y, s.getD m 0 = y := ⟨_, rfl⟩
        have hcl : (plus W ⟨X, d⟩).cell? ⟨W.heap.size, m, none⟩ = some (.int .u8 (y.toNat : Int)) := by
          have := rowC_get s tl m (by omega)
          rw [hy] at this
          simp only [World.cell?, hblk]
          exact this
        have hfz := hfr m (by omega)
        have hcn : (UInt8.ofNat c).toNat = c := by rw [UInt8.toNat_ofNat']; omega
        have hxor := xor_u8 y (UInt8.ofNat c)
        rw [hcn] at hxor
        have hwc : IntKind.u8.wrap (c : Int) = (c : Int) := by rw [IntKind.wrap_u8]; omega
        obtain ⟨u, hu⟩ : ∃ u, y ^^^ UInt8.ofNat c = u := ⟨_, rfl⟩
        rw [hu] at hxor
        have HY := Lib.hid hy
        have HU := Lib.hid hu
        clear hy hu
        have hbW : Below W.heap.size W ((plus W ⟨X, d⟩).setCell ⟨W.heap.size, m, none⟩ (.int .u8 (u.toNat : Int))) := by repeat (first | exact Below.refl _ _ | refine Below.setCell ?_ (by first | (simp; done) | (simp; omega) | (simp [size_plus]; done) | (simp [size_plus]; omega)) _ | refine Below.alloc ?_ (by first | (simp; done) | (simp; omega) | (simp [size_plus]; done) | (simp [size_plus]; omega)) _ | refine Below.drew ?_ | refine Below.plus ?_ (by first | (simp; done) | (simp; omega) | (simp [size_plus]; done) | (simp [size_plus]; omega)) _)
        have hput := row_put (tl := tl) u (show m < s.length by omega) hblk
        obtain ⟨W3, hW3⟩ : ∃ W3, (plus W ⟨X, d⟩).setCell ⟨W.heap.size, m, none⟩ (.int .u8 (u.toNat : Int)) = W3 := ⟨_, rfl⟩
        have hz64 : (s.set m u).length = 64 := by rw [List.length_set]; exact hs64
        go_wp2_with fail
        rw [hW3] at hbW hput
        obtain ⟨s', hs'⟩ : ∃ s', s.set m u = s' := ⟨_, rfl⟩
        rw [hs'] at hput hz64
        clear hcl hfz hx hblk hfr c0 c1 c2 c3 hf s1 s2
        have h3 := h.below hbW
        obtain ⟨c0, c1, c2, c3, hf⟩ := h3.cells
        obtain ⟨s1, s2⟩ := h3.sector n (by omega)
        have q1 : has W3 p := h3.lt.1
        have q2 : has W3 f := h3.lt.2
        have hst : ∀ x, (convert 31 9 (.slice (some ⟨W.heap.size, 0, none⟩) 64 cc)).run Try.prog (plus W3 x) = .ok (strV s') (plus W3 x) := fun x =>
          row_str (plus W3 x) W.heap.size cc 64 s' tl hz64.symm (by rw [heap_plus x (by unfold has; exact (Array.getElem?_eq_some_iff.1 hput).1)]; exact hput)
        have HBW := Lib.hid hbW
        have HS' := Lib.hid hs'
        clear hput hbW hs'
        refine wp_region_plain 8 66 mixed (by kernel_rfl) (by kernel_rfl) rfl (fun _ _ _ _ _ h => h) ?_
        simp only [List.take_succ_cons, List.take_zero, List.drop_succ_cons, List.drop_zero]
        repeat (first | (refine wpHead_skip rfl ?_) | (refine wpHead_run rfl rfl (fun K hK => ?_); go_simp; first | (refine hK _ ?_; clear hK K) | (apply Exists.intro; refine ⟨fun _ => ?_, hK _ ?_⟩; (fail); clear hK K)))
        refine wpHead_nil ?_
        intro zz x1
        clear zz
        go_wp2_with fail
        obtain ⟨dp, cp⟩ := h3.put n s' hz64
        have hb : Below (W3.setCell ⟨f, n, none⟩ (strV s')).heap.size (W3.setCell ⟨f, n, none⟩ (strV s')) (plus (W3.setCell ⟨f, n, none⟩ (strV s')) x1) := below_plus _ _
        exact bodyPost_ret (v := .int .i64 0) (by simp [results, Try.results21, go_sem]) rfl ⟨rfl, _, by rw [HY.out, HU.out, HS'.out]; exact dp.below hb, (((Changed.refl W p f _).below HBW.out).trans cp).below hb⟩
  · rw [decide_eq_false hi] at k25
    have hw : S.turned i k b = (S, 1) := by unfold DS.turned; rw [if_pos (.inl hi)]
    rw [hw]
    go_enter Try.func21, Try.ntmps21
    go_wp2_with fail
    refine k25.mono ?_
    rintro _ W2 ⟨rfl, hW2⟩
    rw [hW2]
    clear hW2
    go_wp2_with fail
    exact bodyPost_ret (v := .int .i64 1) (by simp [results, Try.results21, go_sem]) rfl ⟨rfl, _, h, Changed.refl _ _ _ _⟩
end Go.Proofs.Ytojgfaichkcmpaa

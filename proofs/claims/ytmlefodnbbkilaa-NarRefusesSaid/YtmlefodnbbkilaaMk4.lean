/- Walks: a tree of numbers. -/
import Derived.Test.YtmlefodnbbkilaaMk3
namespace Go.Proofs.Ytmlefodnbbkilaa
open Go.RowKit

theorem nr_lit {W w : World} (hb : Below W.heap.size W w) (l : List Nd) (hl : l.length ≤ 1000) : NR W (w.alloc (.cells (flatX encNd l).toArray 37)) (.slice (some ⟨w.heap.size, 0, none⟩) l.length l.length) l :=
  ⟨World.ownsRow_lit (base := 0) (e := 37) (size := 3) w (flatX encNd l).toArray l.length (Nat.zero_le _) (by unfold maxLen; omega) (by simp [encNd_ok.length]), hb.alloc hb.size _, fun k hk => by
    simp only [Value.ownBlock, Option.some.injEq] at hk
    have := hb.size
    omega⟩
theorem may_file1 (d : Bs) (k : Int) (hk : k = 1 ∨ k = 2) (hd : d.length ≤ 400) : mayN [([], k, d)] = true := by
  rcases hk with rfl | rfl
  · have := may_of_tree (.file d) (by simp only [okT]; omega) (by simp [nodesT])
    simpa only [nodesT] using this
  · have := may_of_tree (.exec d) (by simp only [okT]; omega) (by simp [nodesT])
    simpa only [nodesT] using this
theorem box3_set1 {W : World} {b t : Nat} {x y z : Value} (h : W.heap[b]? = some (.cells #[x, y, z] t)) (u : Value) : (W.setCell ⟨b, 1, none⟩ u).heap[b]? = some (.cells #[x, u, z] t) := setCell_block h 1 u

set_option maxRecDepth 100000 in
set_option maxHeartbeats 1000000 in
theorem tree_any {W : World} {nv tv : Value} {ns : Bs} {tx : List Bs} (hn : BIn W nv ns) (hnl : ns.length ≤ 140737488355328) (ht : SIn W tv tx) (htl : tx.length ≤ 8) (htx : ∀ t ∈ tx, t.length ≤ 300) :
    Calls Try.prog 11 #[nv, tv] W fun e w' => ∃ v' l, e = .returned v' ∧ NR W w' v' l ∧ mayN l = true ∧ Lit4 l ∧ l.length ≤ 16 := by
  obtain ⟨B, bc, rfl⟩ := hn.form
  have HT0 : Hid (∀ U, Below W.heap.size W U → Calls Try.prog 27 #[tv, .int .i64 0] U fun e w' => e = .returned (strV (textN tx 0)) ∧ w' = U) := Lib.hid fun U hU => by
    have := text_any 0 (ht.on hU) (by omega) (by omega)
    exact this
  have htl2 := textN_len tx 0 htx
  have HDIR := Lib.hid (dir_any ht htl htx 3 0 rfl)
  obtain ⟨d, hd⟩ : ∃ d, textN tx 0 = d := ⟨_, rfl⟩
  rw [hd] at HT0 htl2
  have HN := Lib.hid hn
  clear hd ht htx htl hn
  cases ns with
  | nil =>
    have HF : Hid (NR W (W.alloc (.cells #[strV [], .int .i64 1, strV d] 37)) (.slice (some ⟨W.heap.size, 0, none⟩) 1 1) [([], 1, d)]) := Lib.hid (nr_lit (Below.refl _ W) [([], 1, d)] (by simp))
    clear HN HDIR
    go_enter Try.func11, Try.ntmps11
    go_wp2_with fail
    refine (HT0.out W (Below.refl _ _)).mono ?_
    rintro _ U ⟨rfl, rfl⟩
    go_wp2_with fail
    exact bodyPost_ret (v := .slice (some ⟨U.heap.size, 0, none⟩) 1 1) (by simp [results, Try.results11, go_sem]) rfl ⟨_, _, rfl, HF.out, may_file1 d 1 (.inl rfl) (by omega), Lit4.one (by simp) (by omega), by simp⟩
  | cons x r =>
    obtain ⟨ns, hns⟩ : ∃ ns, x :: r = ns := ⟨_, rfl⟩
    have hn0 : 0 < ns.length := by rw [← hns]; simp
    rw [hns] at HN hnl ⊢
    clear hns
    obtain ⟨b, off, rfl, hb, hy0⟩ := bin_at HN.out 0 hn0
    obtain ⟨y, m0, l0⟩ : ∃ m : Nat, (ns.getD 0 0).toNat = m ∧ m ≤ 255 := ⟨_, rfl, by have := (ns.getD 0 0).toNat_lt; omega⟩
    rw [m0, Nat.add_zero] at hy0
    have hr : ((y : Int)).tmod 5 = ((y % 5 : Nat) : Int) := by rw [Int.tmod_eq_emod_of_nonneg (by omega)]; rfl
    obtain ⟨q, hq⟩ : ∃ q, y % 5 = q := ⟨_, rfl⟩
    rw [hq] at hr
    have hq4 : q ≤ 4 := by omega
    have hz : decide ((ns.length : Int) = 0) = false := decide_eq_false (by omega)
    have hz2 : ns ≠ [] := by intro e; rw [e] at hn0; simp at hn0
    have n0 : (0 : Int) < (ns.length : Int) := by omega
    clear hq m0
    by_cases g1 : q = 4
    · have d1 : decide ((4 : Int) < 1 + (q : Int)) = true := by simp; omega
      clear g1
      have hb0 := new_at W (.cells #[strV [], .int .i64 (1 + (q : Int)), strV []] 37)
      have hbx := box3_set1 hb0 (.int .i64 4)
      have hbl : Below W.heap.size W ((W.alloc (.cells #[strV [], .int .i64 (1 + (q : Int)), strV []] 37)).setCell ⟨W.heap.size, 1, none⟩ (.int .i64 4)) := ((Below.refl _ W).alloc (Nat.le_refl _) _).setCell (Nat.le_refl _) _
      clear hb0
      go_enter Try.func11, Try.ntmps11
      obtain ⟨wc, hwc⟩ : ∃ w, (W.alloc (.cells #[strV [], .int .i64 (1 + (q : Int)), strV []] 37)).setCell ⟨W.heap.size, 1, none⟩ (.int .i64 4) = w := ⟨_, rfl⟩
      rw [hwc] at hbl hbx
      have hst : has wc W.heap.size := has_box hbx
      obtain ⟨c0, c1, c2⟩ := box3 hbx
      have hR : NR W (wc.alloc (.cells #[strV [], .int .i64 4, strV []] 37)) (.slice (some ⟨wc.heap.size, 0, none⟩) 1 1) [([], 4, [])] := nr_lit hbl [([], 4, [])] (by simp)
      have c1' : (wc.alloc (.cells #[strV [], .int .i64 4, strV []] 37)).cell? ⟨W.heap.size, 1, none⟩ = some (.int .i64 4) := (cell_below ((Below.refl _ wc).alloc (Nat.le_refl _) _) (has_box hbx)).trans c1
      have HDC := Lib.hid (HDIR.out _ _ _ [([], 4, [])] [] ns hR HN.out hnl (by simp) (by simp))
      clear hR HT0 hbx hbl
      go_wp2_with fail
      refine HDC.out.mono ?_
      rintro _ U ⟨v5, M5, rfl, q1, q2, q3, q4, q5⟩
      have HF : Hid (∃ v' l, (Ending.returned v5 : Ending) = .returned v' ∧ NR W U v' l ∧ mayN l = true ∧ Lit4 l ∧ l.length ≤ 16) := Lib.hid ⟨v5, _, rfl, q1, q3.tree (by simp at q5; omega), (Lit4.one (p := []) (k := 4) (d := []) (by simp) (by simp)).app q4, q5⟩
      clear q1 q2 q3 q4 q5
      go_wp2_with fail
      exact bodyPost_ret (v := v5) (by simp [results, Try.results11, go_sem]) rfl HF.out
    have d1 : decide ((4 : Int) < 1 + (q : Int)) = false := by simp; omega
    by_cases g2 : 3 < ns.length
    · have d2 : decide ((3 : Int) < (ns.length : Int)) = true := by simp; omega
      have hb0 := new_at W (.cells #[strV [], .int .i64 (1 + (q : Int)), strV []] 37)
      have hbx := box3_set1 hb0 (.int .i64 4)
      have hbl : Below W.heap.size W ((W.alloc (.cells #[strV [], .int .i64 (1 + (q : Int)), strV []] 37)).setCell ⟨W.heap.size, 1, none⟩ (.int .i64 4)) := ((Below.refl _ W).alloc (Nat.le_refl _) _).setCell (Nat.le_refl _) _
      clear hb0
      go_enter Try.func11, Try.ntmps11
      obtain ⟨wc, hwc⟩ : ∃ w, (W.alloc (.cells #[strV [], .int .i64 (1 + (q : Int)), strV []] 37)).setCell ⟨W.heap.size, 1, none⟩ (.int .i64 4) = w := ⟨_, rfl⟩
      rw [hwc] at hbl hbx
      have hst : has wc W.heap.size := has_box hbx
      obtain ⟨c0, c1, c2⟩ := box3 hbx
      have hR : NR W (wc.alloc (.cells #[strV [], .int .i64 4, strV []] 37)) (.slice (some ⟨wc.heap.size, 0, none⟩) 1 1) [([], 4, [])] := nr_lit hbl [([], 4, [])] (by simp)
      have c1' : (wc.alloc (.cells #[strV [], .int .i64 4, strV []] 37)).cell? ⟨W.heap.size, 1, none⟩ = some (.int .i64 4) := (cell_below ((Below.refl _ wc).alloc (Nat.le_refl _) _) (has_box hbx)).trans c1
      have HDC := Lib.hid (HDIR.out _ _ _ [([], 4, [])] [] ns hR HN.out hnl (by simp) (by simp))
      clear hR HT0 hbx hbl
      go_wp2_with fail
      refine HDC.out.mono ?_
      rintro _ U ⟨v5, M5, rfl, q1, q2, q3, q4, q5⟩
      have HF : Hid (∃ v' l, (Ending.returned v5 : Ending) = .returned v' ∧ NR W U v' l ∧ mayN l = true ∧ Lit4 l ∧ l.length ≤ 16) := Lib.hid ⟨v5, _, rfl, q1, q3.tree (by simp at q5; omega), (Lit4.one (p := []) (k := 4) (d := []) (by simp) (by simp)).app q4, q5⟩
      clear q1 q2 q3 q4 q5
      go_wp2_with fail
      exact bodyPost_ret (v := v5) (by simp [results, Try.results11, go_sem]) rfl HF.out
    have d2 : decide ((3 : Int) < (ns.length : Int)) = false := by simp; omega
    have q4 : q = 0 ∨ q = 1 ∨ q = 2 ∨ q = 3 := by omega
    rcases q4 with rfl | rfl | rfl | rfl
    · clear d2
      have HB0 : Hid (Below W.heap.size W (W.alloc (.cells #[strV [], .int .i64 1, strV []] 37))) := Lib.hid ((Below.refl _ W).alloc (Nat.le_refl _) _)
      go_enter Try.func11, Try.ntmps11
      go_upto_region 6 with fail
      have hbx := new_at W (.cells #[strV [], .int .i64 1, strV []] 37)
      obtain ⟨wc, hwc⟩ : ∃ w, W.alloc (.cells #[strV [], .int .i64 1, strV []] 37) = w := ⟨_, rfl⟩
      rw [hwc] at hbx HB0 ⊢
      clear hwc
      have hst : has wc W.heap.size := has_box hbx
      obtain ⟨c0, c1, c2⟩ := box3 hbx
      have c1' : (wc.alloc (.cells #[strV [], .int .i64 1, strV []] 37)).cell? ⟨W.heap.size, 1, none⟩ = some (.int .i64 1) := (cell_below ((Below.refl _ wc).alloc (Nat.le_refl _) _) (has_box hbx)).trans c1
      have HP : Hid (NR W (wc.alloc (.cells #[strV [], .int .i64 1, strV (116 :: d)] 37)) (.slice (some ⟨wc.heap.size, 0, none⟩) 1 1) [([], 1, 116 :: d)]) := Lib.hid (nr_lit HB0.out [([], 1, 116 :: d)] (by simp))
      have HT1 := Lib.hid (HT0.out _ (HB0.out.alloc HB0.out.size (.cells #[strV [], .int .i64 1, strV []] 37)))
      clear hbx HDIR HT0
      go_wp2_with fail
      refine HT1.out.mono ?_
      rintro _ U ⟨rfl, rfl⟩
      go_wp2_with fail
      exact bodyPost_ret (v := .slice (some ⟨wc.heap.size, 0, none⟩) 1 1) (by simp [results, Try.results11, go_sem]) rfl ⟨_, _, rfl, HP.out, may_file1 _ 1 (.inl rfl) (by simp; omega), Lit4.one (by simp) (by simp; omega), by simp⟩
    · clear d2
      have HB0 : Hid (Below W.heap.size W (W.alloc (.cells #[strV [], .int .i64 2, strV []] 37))) := Lib.hid ((Below.refl _ W).alloc (Nat.le_refl _) _)
      go_enter Try.func11, Try.ntmps11
      go_upto_region 6 with fail
      have hbx := new_at W (.cells #[strV [], .int .i64 2, strV []] 37)
      obtain ⟨wc, hwc⟩ : ∃ w, W.alloc (.cells #[strV [], .int .i64 2, strV []] 37) = w := ⟨_, rfl⟩
      rw [hwc] at hbx HB0 ⊢
      clear hwc
      have hst : has wc W.heap.size := has_box hbx
      obtain ⟨c0, c1, c2⟩ := box3 hbx
      have c1' : (wc.alloc (.cells #[strV [], .int .i64 2, strV []] 37)).cell? ⟨W.heap.size, 1, none⟩ = some (.int .i64 2) := (cell_below ((Below.refl _ wc).alloc (Nat.le_refl _) _) (has_box hbx)).trans c1
      have HP : Hid (NR W (wc.alloc (.cells #[strV [], .int .i64 2, strV (116 :: d)] 37)) (.slice (some ⟨wc.heap.size, 0, none⟩) 1 1) [([], 2, 116 :: d)]) := Lib.hid (nr_lit HB0.out [([], 2, 116 :: d)] (by simp))
      have HT1 := Lib.hid (HT0.out _ (HB0.out.alloc HB0.out.size (.cells #[strV [], .int .i64 2, strV []] 37)))
      clear hbx HDIR HT0
      go_wp2_with fail
      refine HT1.out.mono ?_
      rintro _ U ⟨rfl, rfl⟩
      go_wp2_with fail
      exact bodyPost_ret (v := .slice (some ⟨wc.heap.size, 0, none⟩) 1 1) (by simp [results, Try.results11, go_sem]) rfl ⟨_, _, rfl, HP.out, may_file1 _ 2 (.inr rfl) (by simp; omega), Lit4.one (by simp) (by simp; omega), by simp⟩
    · clear d2
      have HB0 : Hid (Below W.heap.size W (W.alloc (.cells #[strV [], .int .i64 3, strV []] 37))) := Lib.hid ((Below.refl _ W).alloc (Nat.le_refl _) _)
      go_enter Try.func11, Try.ntmps11
      go_upto_region 6 with fail
      have hbx := new_at W (.cells #[strV [], .int .i64 3, strV []] 37)
      obtain ⟨wc, hwc⟩ : ∃ w, W.alloc (.cells #[strV [], .int .i64 3, strV []] 37) = w := ⟨_, rfl⟩
      rw [hwc] at hbx HB0 ⊢
      clear hwc
      have hst : has wc W.heap.size := has_box hbx
      obtain ⟨c0, c1, c2⟩ := box3 hbx
      have c1' : (wc.alloc (.cells #[strV [], .int .i64 3, strV []] 37)).cell? ⟨W.heap.size, 1, none⟩ = some (.int .i64 3) := (cell_below ((Below.refl _ wc).alloc (Nat.le_refl _) _) (has_box hbx)).trans c1
      have HP : Hid (NR W (wc.alloc (.cells #[strV [], .int .i64 3, strV ([116, 111])] 37)) (.slice (some ⟨wc.heap.size, 0, none⟩) 1 1) [([], 3, [116, 111])]) := Lib.hid (nr_lit HB0.out [([], 3, [116, 111])] (by simp))
      have HT1 := Lib.hid (HT0.out _ (HB0.out.alloc HB0.out.size (.cells #[strV [], .int .i64 3, strV []] 37)))
      clear hbx HDIR HT0
      go_wp2_with fail
      exact bodyPost_ret (v := .slice (some ⟨wc.heap.size, 0, none⟩) 1 1) (by simp [results, Try.results11, go_sem]) rfl ⟨_, _, rfl, HP.out, by decide, Lit4.one (by simp) (by simp), by simp⟩
    · have e1 : (1 + ((3 : Nat) : Int)) = 4 := rfl
      clear e1
      go_enter Try.func11, Try.ntmps11
      go_upto_region 6 with fail
      have hbx := new_at W (.cells #[strV [], .int .i64 4, strV []] 37)
      have hbl : Below W.heap.size W (W.alloc (.cells #[strV [], .int .i64 4, strV []] 37)) := (Below.refl _ W).alloc (Nat.le_refl _) _
      obtain ⟨wc, hwc⟩ : ∃ w, (W.alloc (.cells #[strV [], .int .i64 4, strV []] 37)) = w := ⟨_, rfl⟩
      rw [hwc] at hbl hbx ⊢
      clear hwc
      have hst : has wc W.heap.size := has_box hbx
      obtain ⟨c0, c1, c2⟩ := box3 hbx
      have hR : NR W (wc.alloc (.cells #[strV [], .int .i64 4, strV []] 37)) (.slice (some ⟨wc.heap.size, 0, none⟩) 1 1) [([], 4, [])] := nr_lit hbl [([], 4, [])] (by simp)
      have c1' : (wc.alloc (.cells #[strV [], .int .i64 4, strV []] 37)).cell? ⟨W.heap.size, 1, none⟩ = some (.int .i64 4) := (cell_below ((Below.refl _ wc).alloc (Nat.le_refl _) _) (has_box hbx)).trans c1
      have HDC := Lib.hid (HDIR.out _ _ _ [([], 4, [])] [] ns hR HN.out hnl (by simp) (by simp))
      clear hR HT0 hbx hbl
      go_wp2_with fail
      refine HDC.out.mono ?_
      rintro _ U ⟨v5, M5, rfl, q1, q2, q3, q4, q5⟩
      have HF : Hid (∃ v' l, (Ending.returned v5 : Ending) = .returned v' ∧ NR W U v' l ∧ mayN l = true ∧ Lit4 l ∧ l.length ≤ 16) := Lib.hid ⟨v5, _, rfl, q1, q3.tree (by simp at q5; omega), (Lit4.one (p := []) (k := 4) (d := []) (by simp) (by simp)).app q4, q5⟩
      clear q1 q2 q3 q4 q5
      go_wp2_with fail
      exact bodyPost_ret (v := v5) (by simp [results, Try.results11, go_sem]) rfl HF.out
end Go.Proofs.Ytmlefodnbbkilaa

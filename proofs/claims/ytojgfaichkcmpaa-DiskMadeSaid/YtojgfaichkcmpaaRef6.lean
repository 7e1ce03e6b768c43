/- Walks: the document's disk: read, turn. -/
import Derived.Test.YtojgfaichkcmpaaRef5
import Derived.Test.YtojgfaichkcmpaaRead4
namespace Go.Proofs.Ytojgfaichkcmpaa
open Go.RowKit

theorem lastN_snoc (l : List (Nat × List UInt8)) (x : Nat × List UInt8) (i : Int) : lastN (l ++ [x]) i = if (x.1 : Int) = i then some x.2 else lastN l i := by
  simp only [lastN, List.reverse_append, List.reverse_cons, List.reverse_nil, List.nil_append, List.singleton_append, List.find?_cons]
  by_cases h : (x.1 : Int) = i
  · simp [h]
  · have hb : ((x.1 : Int) == i) = false := by simpa using h
    rw [hb, if_neg h]
def lastD (s : List UInt8) (l : List (Nat × List UInt8)) (i : Int) : List UInt8 := match lastN l i with | some t => t | none => s
theorem lastD_nil (s : List UInt8) (i : Int) : lastD s [] i = s := rfl
theorem lastD_snoc (s : List UInt8) (l : List (Nat × List UInt8)) (x : Nat × List UInt8) (i : Int) : lastD s (l ++ [x]) i = if (x.1 : Int) = i then x.2 else lastD s l i := by
  unfold lastD
  rw [lastN_snoc]
  by_cases h : (x.1 : Int) = i
  · rw [if_pos h, if_pos h]
  · rw [if_neg h, if_neg h]
def textV (r : List UInt8 × Int) : Value := .agg #[strV r.1, .int .i64 r.2]
set_option maxRecDepth 100000 in
theorem readR_any {W : World} {q : Nat} {fv nv : Value} {S : DS} (h : RefAt W q fv nv S) (i : Int) :
    Calls Try.prog 34 #[ptr q, .int .i64 i] W fun e w' => e = .returned (textV (S.read i)) ∧ Below W.heap.size W w' := by
  obtain ⟨c0, c1, c2, c3, hf⟩ := h.cells
  have q1 : has W q := h.lt
  by_cases hd : S.down = true
  · have hw : S.read i = ([], 7) := by unfold DS.read; rw [if_pos hd]
    rw [hw]
    rw [hd] at c2
    go_enter Try.func34, Try.ntmps34
    go_wp2_with fail
    exact bodyPost_ret (v := textV ([], 7)) (by simp [results, Try.results34, go_sem, textV]) rfl ⟨rfl, (Below.refl _ _).alloc (Nat.le_refl _) _⟩
  · have hd' : S.down = false := by simpa using hd
    rw [hd'] at c2
    obtain ⟨Af, cf, rfl⟩ := ownsRow_form h.hf
    obtain ⟨A, z, rfl⟩ := ownsRow_form h.hl
    by_cases h0 : 0 ≤ i
    · have e0 : decide (i < 0) = false := by simpa using h0
      by_cases h1 : i < S.firm.length
      · obtain ⟨j, rfl⟩ : ∃ j : Nat, i = (j : Int) := ⟨i.toNat, by omega⟩
        have e1 : decide ((S.firm.length : Int) ≤ (j : Int)) = false := by simpa using h1
        have hw : S.read j = (lastD (S.firm.getD j []) S.loose j, 0) := by unfold DS.read lastD; rw [if_neg hd, if_neg (by omega), Int.toNat_natCast]; rfl
        rw [hw]
        obtain ⟨gf, cf', hfv', s1, s2, s3⟩ := h.sector j (by omega)
        simp only [Value.slice.injEq] at hfv'
        obtain ⟨rfl, -, rfl⟩ := hfv'
        obtain ⟨s0, hs0⟩ : ∃ s0, S.firm.getD j [] = s0 := ⟨_, rfl⟩
        rw [hs0] at s1
        rw [hs0]
        clear hs0 hw
        have hmax := h.hm
        go_enter Try.func34, Try.ntmps34
        go_wp2_with fail
        go_loopw [5, 6] (fun u v wr => wr = W.alloc (.cells #[.string ⟨#[]⟩, .int .i64 0] 66) ∧ ∃ k : Nat, k ≤ S.loose.length ∧ v = .int .i64 k ∧ u = strV (lastD s0 (S.loose.take k) j)) (fun _ v _ => S.loose.length - (intOf v).toNat)
        case atStart => exact ⟨rfl, 0, by omega, rfl, rfl⟩
        case round =>
          obtain ⟨rfl, k, hk, rfl, rfl⟩ := hrel
          by_cases hlt : k < S.loose.length
          · have hd : decide ((k : Int) < (S.loose.length : Int)) = true := by simp; omega
            obtain ⟨gl, z', hlv', hg, r1, r2⟩ := h.loose_at k hlt
            simp only [Value.slice.injEq] at hlv'
            obtain ⟨rfl, -, rfl⟩ := hlv'
            have hls : lastD s0 (S.loose.take (k + 1)) j = if ((S.loose.getD k (0, [])).1 : Int) = j then (S.loose.getD k (0, [])).2 else lastD s0 (S.loose.take k) j := by
              rw [List.take_succ_eq_append_getElem hlt, lastD_snoc]
              simp [hlt]
            obtain ⟨⟨a, b⟩, hx⟩ : ∃ x, S.loose.getD k (0, []) = x := ⟨_, rfl⟩
            rw [hx] at r1 r2 hls
            simp only at r1 r2 hls
            obtain ⟨t, ht⟩ : ∃ t, lastD s0 (S.loose.take k) j = t := ⟨_, rfl⟩
            rw [ht] at hls ⊢
            have HLS := Lib.hid hls
            clear hls ht hx
            by_cases haj : a = j
            · subst haj
              go_wp2_with fail
              go_roundw
              case rel => exact ⟨trivial, k + 1, by omega, by go_num, by rw [HLS.out, if_pos rfl]⟩
              case measure => simp [intOf]; omega
            · have da : decide ((a : Int) = (j : Int)) = false := by simp; omega
              go_wp2_with fail
              go_roundw
              case rel => exact ⟨trivial, k + 1, by omega, by go_num, by rw [HLS.out, if_neg (by omega)]⟩
              case measure => simp [intOf]; omega
          · obtain rfl : k = S.loose.length := by omega
            have hd : decide ((S.loose.length : Int) < (S.loose.length : Int)) = false := by simp
            rw [List.take_length]
            obtain ⟨t, ht⟩ : ∃ t, lastD s0 S.loose j = t := ⟨_, rfl⟩
            rw [ht]
            have HT := Lib.hid ht
            clear ht
            go_wp2_with fail
            exact bodyPost_ret (v := textV (t, 0)) (by simp [results, Try.results34, go_sem, textV]) rfl ⟨by rw [HT.out], (Below.refl _ _).alloc (Nat.le_refl _) _⟩
      · have hw : S.read i = ([], 1) := by unfold DS.read; rw [if_neg hd, if_pos (by omega)]
        rw [hw]
        have e1 : decide ((S.firm.length : Int) ≤ i) = true := by simpa using h1
        go_enter Try.func34, Try.ntmps34
        go_wp2_with fail
        exact bodyPost_ret (v := textV ([], 1)) (by simp [results, Try.results34, go_sem, textV]) rfl ⟨rfl, (Below.refl _ _).alloc (Nat.le_refl _) _⟩
    · have hw : S.read i = ([], 1) := by unfold DS.read; rw [if_neg hd, if_pos (by omega)]
      rw [hw]
      have e0 : decide (i < 0) = true := by simpa using h0
      go_enter Try.func34, Try.ntmps34
      go_wp2_with fail
      exact bodyPost_ret (v := textV ([], 1)) (by simp [results, Try.results34, go_sem, textV]) rfl ⟨rfl, (Below.refl _ _).alloc (Nat.le_refl _) _⟩
set_option maxRecDepth 100000 in
theorem turnR_any {W : World} {q : Nat} {fv nv : Value} {S : DS} (h : RefAt W q fv nv S) (i k b : Int) :
    Calls Try.prog 33 #[ptr q, .int .i64 i, .int .i64 k, .int .i64 b] W fun e w' => e = .returned (.int .i64 (S.turned i k b).2) ∧ ∃ nv', RefAt w' q fv nv' (S.turned i k b).1 ∧ ChangedR W w' q fv nv fv nv' := by
  obtain ⟨c0, c1, c2, c3, hf⟩ := h.cells
  obtain ⟨Af, cf, rfl⟩ := ownsRow_form h.hf
  obtain ⟨A, z, rfl⟩ := ownsRow_form h.hl
  by_cases hi : 0 ≤ i ∧ i < S.firm.length
  · have e0 : decide (i < 0) = false := by simpa using hi.1
    have e1 : decide ((S.firm.length : Int) ≤ i) = false := by simpa using hi.2
    by_cases hg : k < 0 ∨ 64 ≤ k ∨ b < 1 ∨ 255 < b
    · have hw : S.turned i k b = (S, 1) := by unfold DS.turned; rw [if_pos (.inr hg)]
      rw [hw]
      go_enter Try.func33, Try.ntmps33
      go_wp2_with fail
      all_goals exact bodyPost_ret (v := .int .i64 1) (by simp [results, Try.results33, go_sem]) rfl ⟨rfl, _, h, ChangedR.refl _ _ _ _⟩
    · by_cases hlo : 0 < S.loose.length
      · have hw : S.turned i k b = (S, 3) := by unfold DS.turned; rw [if_neg (by omega), if_pos hlo]
        rw [hw]
        go_enter Try.func33, Try.ntmps33
        go_wp2_with fail
        all_goals exact bodyPost_ret (v := .int .i64 3) (by simp [results, Try.results33, go_sem]) rfl ⟨rfl, _, h, ChangedR.refl _ _ _ _⟩
      · obtain ⟨n, rfl⟩ : ∃ n : Nat, i = (n : Int) := ⟨i.toNat, by omega⟩
        obtain ⟨m, rfl⟩ : ∃ m : Nat, k = (m : Int) := ⟨k.toNat, by omega⟩
        obtain ⟨c, rfl⟩ : ∃ c : Nat, b = (c : Int) := ⟨b.toNat, by omega⟩
        have hl0 : S.loose.length = 0 := by omega
        obtain ⟨gf, cf', hfv', s1, s2, s3⟩ := h.sector n (by omega)
        simp only [Value.slice.injEq] at hfv'
        obtain ⟨rfl, -, rfl⟩ := hfv'
        have hs64 : (S.firm.getD n []).length = 64 := h.hs.1 _ (by
          rw [List.getD_eq_getElem?_getD, List.getElem?_eq_getElem (by omega), Option.getD_some]
          exact List.getElem_mem _)
        have hw : S.turned n m c = ({ S with firm := S.firm.set n ((S.firm.getD n []).set m ((S.firm.getD n []).getD m 0 ^^^ UInt8.ofNat c)) }, 0) := by unfold DS.turned; rw [if_neg (by omega), if_neg (by omega)]; rfl
        rw [hw]
        obtain ⟨s, hs⟩ : ∃ s, S.firm.getD n [] = s := ⟨_, rfl⟩
        rw [hs] at s1 hs64 ⊢
        go_enter Try.func33, Try.ntmps33
        obtain ⟨X, d, cc, tl, mm, hx, hX, hblk, hfr⟩ := conv_row W s
        obtain ⟨y, hy⟩ : ∃ y, s.getD m 0 = y := ⟨_, rfl⟩
        have hcl : (plus W ⟨X, d⟩).cell? ⟨W.heap.size, m, none⟩ = some (.int .u8 (y.toNat : Int)) := by
          have := rowC_get s tl m (by omega)
          rw [hy] at this
          simp only [World.cell?, hblk]
          exact this
        have hfz := hfr m (by omega)
        have hcn : (UInt8.ofNat c).toNat = c := by rw [UInt8.toNat_ofNat']; omega
        have hxor := xor_u8 y (UInt8.ofNat c)
        rw [hcn] at hxor
        have hwc : IntKind.u8.wrap (c : Int) = (c : Int) := by rw [IntKind.wrap_u8]; omega
        obtain ⟨u, hu⟩ : ∃ u, y ^^^ UInt8.ofNat c = u := ⟨_, rfl⟩
        rw [hu] at hxor
        have HY := Lib.hid hy
        have HU := Lib.hid hu
        clear hy hu
        have hbW : Below W.heap.size W ((plus W ⟨X, d⟩).setCell ⟨W.heap.size, m, none⟩ (.int .u8 (u.toNat : Int))) := by repeat (first | exact Below.refl _ _ | refine Below.setCell ?_ (by first | (simp; done) | (simp; omega) | (simp [size_plus]; done) | (simp [size_plus]; omega)) _ | refine Below.alloc ?_ (by first | (simp; done) | (simp; omega) | (simp [size_plus]; done) | (simp [size_plus]; omega)) _ | refine Below.drew ?_ | refine Below.plus ?_ (by first | (simp; done) | (simp; omega) | (simp [size_plus]; done) | (simp [size_plus]; omega)) _)
        have hput := row_put (tl := tl) u (show m < s.length by omega) hblk
        obtain ⟨W3, hW3⟩ : ∃ W3, (plus W ⟨X, d⟩).setCell ⟨W.heap.size, m, none⟩ (.int .u8 (u.toNat : Int)) = W3 := ⟨_, rfl⟩
        have hz64 : (s.set m u).length = 64 := by rw [List.length_set]; exact hs64
        go_wp2_with fail
        rw [hW3] at hbW hput
        obtain ⟨s', hs'⟩ : ∃ s', s.set m u = s' := ⟨_, rfl⟩
        rw [hs'] at hput hz64
        clear hcl hfz hx hblk hfr c0 c1 c2 c3 hf s1 s2
        have h3 := h.below hbW
        obtain ⟨c0, c1, c2, c3, hf⟩ := h3.cells
        obtain ⟨gf2, cf2, hfv2, s1, s2, s3⟩ := h3.sector n (by omega)
        simp only [Value.slice.injEq, Option.some.injEq, Addr.mk.injEq] at hfv2
        obtain ⟨⟨rfl, -, -⟩, -, rfl⟩ := hfv2
        have q1 : has W3 q := h3.lt
        have hst : ∀ x, (convert 31 9 (.slice (some ⟨W.heap.size, 0, none⟩) 64 cc)).run Try.prog (plus W3 x) = .ok (strV s') (plus W3 x) := fun x =>
          row_str (plus W3 x) W.heap.size cc 64 s' tl hz64.symm (by rw [heap_plus x (by unfold has; exact (Array.getElem?_eq_some_iff.1 hput).1)]; exact hput)
        have HBW := Lib.hid hbW
        have HS' := Lib.hid hs'
        clear hput hbW hs'
        refine wp_region_plain 8 67 mixed (by kernel_rfl) (by kernel_rfl) rfl (fun _ _ _ _ _ h => h) ?_
        simp only [List.take_succ_cons, List.take_zero, List.drop_succ_cons, List.drop_zero]
        repeat (first | (refine wpHead_skip rfl ?_) | (refine wpHead_run rfl rfl (fun K hK => ?_); go_simp; first | (refine hK _ ?_; clear hK K) | (apply Exists.intro; refine ⟨fun _ => ?_, hK _ ?_⟩; (fail); clear hK K)))
        refine wpHead_nil ?_
        intro zz x1
        clear zz
        go_wp2_with fail
        obtain ⟨dp, cp⟩ := h3.put (g := gf) (c := cf) rfl n s' hz64
        have hb : Below (W3.setCell ⟨gf, n, none⟩ (strV s')).heap.size (W3.setCell ⟨gf, n, none⟩ (strV s')) (plus (W3.setCell ⟨gf, n, none⟩ (strV s')) x1) := below_plus _ _
        exact bodyPost_ret (v := .int .i64 0) (by simp [results, Try.results33, go_sem]) rfl ⟨rfl, _, by rw [HY.out, HU.out, HS'.out]; exact dp.below hb, (((ChangedR.refl W q _ _).below HBW.out).trans cp).below hb⟩
  · have hw : S.turned i k b = (S, 1) := by unfold DS.turned; rw [if_pos (.inl hi)]
    rw [hw]
    by_cases h0 : 0 ≤ i
    · have e0 : decide (i < 0) = false := by simpa using h0
      have e1 : decide ((S.firm.length : Int) ≤ i) = true := by simp; omega
      go_enter Try.func33, Try.ntmps33
      go_wp2_with fail
      exact bodyPost_ret (v := .int .i64 1) (by simp [results, Try.results33, go_sem]) rfl ⟨rfl, _, h, ChangedR.refl _ _ _ _⟩
    · have e0 : decide (i < 0) = true := by simpa using h0
      go_enter Try.func33, Try.ntmps33
      go_wp2_with fail
      exact bodyPost_ret (v := .int .i64 1) (by simp [results, Try.results33, go_sem]) rfl ⟨rfl, _, h, ChangedR.refl _ _ _ _⟩
end Go.Proofs.Ytojgfaichkcmpaa

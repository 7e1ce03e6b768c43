/- Walks: the document's disk: a fuse, a write. -/
import Derived.Test.YtojgfaichkcmpaaRef1
namespace Go.Proofs.Ytojgfaichkcmpaa
open Go.RowKit

theorem fuseR_any {W : World} {q : Nat} {fv nv : Value} {S : DS} (h : RefAt W q fv nv S) (n : Int) (hn : n ≤ 9223372036854775807) : Calls Try.prog 31 #[ptr q, .int .i64 n] W fun e w' => (∃ v, e = .returned v) ∧ RefAt w' q fv nv { S with fuse := max (-1) n } ∧ ChangedR W w' q fv nv fv nv := by
  obtain ⟨c0, c1, c2, c3, hf⟩ := h.cells
  have ht := h.turn 3 (.int .i64 (max (-1) n)) { S with fuse := max (-1) n } rfl rfl (by simp only []; omega) rfl
  have HT := Lib.hid ht
  have hmx : max n (-1) = max (-1) n := by omega
  clear ht
  go_enter Try.func31, Try.ntmps31
  go_wp2_with fail
  go_end0
  exact ⟨⟨_, rfl⟩, HT.out⟩
set_option maxRecDepth 100000 in
theorem writeR_any {W : World} {q : Nat} {fv nv : Value} {S : DS} (h : RefAt W q fv nv S) (i : Int) (s : List UInt8) (hm : S.loose.length < 1000000) :
    Calls Try.prog 29 #[ptr q, .int .i64 i, strV s] W fun e w' => e = .returned (.int .i64 (S.write i s).2) ∧ ∃ nv', RefAt w' q fv nv' (S.write i s).1 ∧ ChangedR W w' q fv nv fv nv' := by
  obtain ⟨c0, c1, c2, c3, hf⟩ := h.cells
  by_cases hd : S.down = true
  · have hw : S.write i s = (S, 7) := by unfold DS.write; rw [if_pos hd]
    rw [hw]
    rw [hd] at c2
    go_enter Try.func29, Try.ntmps29
    go_wp2_with fail
    exact bodyPost_ret (v := .int .i64 7) (by simp [results, Try.results29, go_sem]) rfl ⟨rfl, nv, h, ChangedR.refl _ _ _ _⟩
  · have hd' : S.down = false := by simpa using hd
    rw [hd'] at c2
    obtain ⟨Af, cf, rfl⟩ := ownsRow_form h.hf
    by_cases h0 : 0 ≤ i
    · have e0 : decide (i < 0) = false := by simpa using h0
      by_cases h1 : i < S.firm.length
      · have e1 : decide ((S.firm.length : Int) ≤ i) = false := by simpa using h1
        by_cases hl : s.length = 64
        · by_cases hz : S.fuse = 0
          · have hw : S.write i s = ({ S with down := true }, 7) := by unfold DS.write; rw [if_neg hd, if_neg (by simp [h0, h1, hl]), if_pos hz]
            rw [hw]
            rw [hz] at c3
            have HT := Lib.hid (h.turn 2 (.bool true) { S with down := true } rfl rfl h.hfu rfl)
            go_enter Try.func29, Try.ntmps29
            go_wp2_with fail
            exact bodyPost_ret (v := .int .i64 7) (by simp [results, Try.results29, go_sem]) rfl ⟨rfl, nv, HT.out⟩
          · obtain ⟨n, rfl⟩ : ∃ n : Nat, i = (n : Int) := ⟨i.toNat, by omega⟩
            have hw : S.write n s = ({ S with loose := S.loose ++ [(n, s)], fuse := max (-1) (S.fuse - 1) }, 0) := by unfold DS.write; rw [if_neg hd, if_neg (by simp [h0, h1, hl]), if_neg hz, Int.toNat_natCast]
            rw [hw]
            have hfu := h.hfu
            have hfz : decide (S.fuse = 0) = false := by simp [hz]
            have hmx : max (S.fuse - 1) (-1) = max (-1) (S.fuse - 1) := by omega
            obtain ⟨ht, hch⟩ := h.turn 3 (.int .i64 (max (-1) (S.fuse - 1))) { S with fuse := max (-1) (S.fuse - 1) } rfl rfl (by simp only []; omega) rfl
            have HT := Lib.hid ht
            have HCH := Lib.hid hch
            have d0 := ht.cells
            have D0 := Lib.hid d0
            clear ht hch d0 hw
            have hone : ∀ u ∈ [Value.int .i64 (n : Int), strV s], u.oneCell' = true := by
              intro u hu
              simp at hu
              rcases hu with rfl | rfl <;> rfl
            have HONE := Lib.hid hone
            clear hone
            go_enter Try.func29, Try.ntmps29
            go_wp2_with (at_builtin; go_loud (refine wpList_appendOwn rfl _ _ 68 89 rfl Try.underlying68 _ 2 24 info89 rfl nv S.loose.length (loosV S.loose) [.int .i64 (n : Int), strV s] 1 rfl HT.out.hl _ W.heap.size (setCell_size _ _ _).symm rfl rfl HONE.out (by omega) (by omega) (by omega) (by omega) ?_); intro v' w1 hrow1 hg1 hown1; obtain ⟨A1, z1, rfl⟩ := ownsRow_form hrow1; have hlt1 := HT.out.own_lt.2; have hk1 : w1.heap[q]? = _ := ((hg1.block q (by have := HT.out.lt; simp at this; simp; omega) (fun e => HT.out.lq e.symm)).trans (Below.heap_alloc _ _ _ HT.out.lt)).trans HT.out.hp; obtain ⟨d0, d1, d2, d3, d4⟩ := cells4 hk1; have HROW := Lib.hid hrow1; have HG := Lib.hid hg1; have HO := Lib.hid hown1; clear hrow1 hg1 hown1 hk1 hlt1 c0 c1 c2 c3 hf)
            have hfin := HT.out.grownL (l := S.loose ++ [(n, s)]) HG.out (by rw [show loosV (S.loose ++ [(n, s)]) = loosV S.loose ++ [.int .i64 (n : Int), strV s] by simp [loosV]]; exact HROW.out) (by simp) (by simp; omega) HO.out (fun x hx => (List.mem_append.1 hx).elim (h.hb x) fun h5 => by simp only [List.mem_singleton] at h5; subst h5; have := h1; simp only; omega) (fun x hx => (List.mem_append.1 hx).elim (h.hs.2 x) fun h5 => by simp only [List.mem_singleton] at h5; subst h5; exact hl)
            have hfin2 := HCH.out.trans hfin.2
            simp only [hd'] at hfin
            exact bodyPost_ret (v := .int .i64 0) (by simp [results, Try.results29, go_sem]) rfl ⟨rfl, _, hfin.1, hfin2⟩
        · have hw : S.write i s = (S, 1) := by unfold DS.write; rw [if_neg hd, if_pos (.inr hl)]
          rw [hw]
          have e2 : decide (s.length = 64) = false := by simpa using hl
          go_enter Try.func29, Try.ntmps29
          go_wp2_with fail
          exact bodyPost_ret (v := .int .i64 1) (by simp [results, Try.results29, go_sem]) rfl ⟨rfl, nv, h, ChangedR.refl _ _ _ _⟩
      · have hw : S.write i s = (S, 1) := by unfold DS.write; rw [if_neg hd, if_pos (.inl (by omega))]
        rw [hw]
        have e1 : decide ((S.firm.length : Int) ≤ i) = true := by simpa using h1
        go_enter Try.func29, Try.ntmps29
        go_wp2_with fail
        exact bodyPost_ret (v := .int .i64 1) (by simp [results, Try.results29, go_sem]) rfl ⟨rfl, nv, h, ChangedR.refl _ _ _ _⟩
    · have hw : S.write i s = (S, 1) := by unfold DS.write; rw [if_neg hd, if_pos (.inl (by omega))]
      rw [hw]
      have e0 : decide (i < 0) = true := by simpa using h0
      go_enter Try.func29, Try.ntmps29
      go_wp2_with fail
      exact bodyPost_ret (v := .int .i64 1) (by simp [results, Try.results29, go_sem]) rfl ⟨rfl, nv, h, ChangedR.refl _ _ _ _⟩
end Go.Proofs.Ytojgfaichkcmpaa

/- Walks: what changes a disk. -/
import Derived.Test.YtojgfaichkcmpaaDisk1
namespace Go.Proofs.Ytojgfaichkcmpaa
open Go.RowKit

/-- The disk behind an append: its own block is written twice. -/
theorem DiskAt.made {W w1 : World} {p f : Nat} {lv v' : Value} {S : DS} {l : List (Nat × List UInt8)} (h : DiskAt W p f lv S) (hg : ∀ k, k < W.heap.size → lv.ownBlock ≠ some k → w1.heap[k]? = W.heap[k]?)
    {m : Nat} (hrow : w1.ownsRow 0 54 2 v' m (loosV l)) (hml : m = l.length) (hl : l.length ≤ 1000000) (hlb : ∀ x ∈ l, x.1 < S.firm.length) (hls : ∀ x ∈ l, x.2.length = 64) (F : Int) (hF : -1 ≤ F ∧ F ≤ 9223372036854775807) :
    DiskAt ((w1.setCell ⟨p, 1, none⟩ v').setCell ⟨p, 3, none⟩ (.int .i64 F)) p f v' { S with loose := l, fuse := F } := by
  subst hml
  have hp1 : w1.heap[p]? = _ := (hg p h.lt.1 h.pl).trans h.hp
  have hf1 : w1.heap[f]? = _ := (hg f h.lt.2 h.fl).trans h.hf
  have hvp : v'.ownBlock ≠ some p := fun e => by
    obtain ⟨cur, h1⟩ := ownsRow_elem hrow e
    rw [hp1] at h1
    simp at h1
  have hb := setCell_block (setCell_block hp1 1 v') 3 (.int .i64 F)
  refine ⟨hb, ?_, ?_, h.hn, hl, hF, hlb, h.hs.1, hls⟩
  · rw [setCell_other _ p 3 f _ (Ne.symm h.pf), setCell_other _ p 1 f _ (Ne.symm h.pf), hf1]
  · exact ownsRow_same hrow fun g hg => by
      have hne : g ≠ p := fun e => hvp (e ▸ hg)
      rw [setCell_other _ p 3 g _ hne, setCell_other _ p 1 g _ hne]
theorem ownsRow_form {w : World} {base e sz n : Nat} {v : Value} {xs : List Value} (h : w.ownsRow base e sz v n xs) : ∃ A c, v = .slice A n c := by
  rcases h.2 with ⟨rfl, h0⟩ | ⟨g, cap, cur, rfl, _⟩
  · exact ⟨none, 0, by rw [h0]⟩
  · exact ⟨_, _, rfl⟩
theorem cells4 {W : World} {p : Nat} {a b c d : Value} {e : TypeId} (h : W.heap[p]? = some (.cells #[a, b, c, d] e)) :
    W.cell? ⟨p, 0, none⟩ = some a ∧ W.cell? ⟨p, 1, none⟩ = some b ∧ W.cell? ⟨p, 2, none⟩ = some c ∧ W.cell? ⟨p, 3, none⟩ = some d ∧ (∀ j, W.frozen? ⟨p, j, none⟩ = false) := by
  refine ⟨?_, ?_, ?_, ?_, fun j => ?_⟩ <;> simp [World.cell?, World.frozen?, h]
set_option maxRecDepth 100000 in
theorem write_any {W : World} {p f : Nat} {lv : Value} {S : DS} (h : DiskAt W p f lv S) (i : Int) (s : List UInt8) (hm : S.loose.length < 1000000) :
    Calls Try.prog 11 #[ptr p, .int .i64 i, strV s] W fun e w' => e = .returned (.int .i64 (S.write i s).2) ∧ ∃ lv', DiskAt w' p f lv' (S.write i s).1 ∧ Changed W w' p f lv lv' := by
  obtain ⟨c0, c1, c2, c3, hf⟩ := h.cells
  have k25 := has_any h i
  by_cases hd : S.down = true
  · have hw : S.write i s = (S, 7) := by unfold DS.write; rw [if_pos hd]
    rw [hw]
    rw [hd] at c2
    go_enter Try.func11, Try.ntmps11
    go_wp2_with fail
    exact bodyPost_ret (v := .int .i64 7) (by simp [results, Try.results11, go_sem]) rfl ⟨rfl, lv, h, Changed.refl _ _ _ _⟩
  · have hd' : S.down = false := by simpa using hd
    rw [hd'] at c2
    by_cases hi : 0 ≤ i ∧ i < S.firm.length
    · rw [decide_eq_true hi] at k25
      by_cases hl : s.length = 64
      · by_cases hz : S.fuse = 0
        · have hw : S.write i s = ({ S with down := true }, 7) := by unfold DS.write; rw [if_neg hd, if_neg (by simp [hi, hl]), if_pos hz]
          rw [hw]
          rw [hz] at c3
          have HT := Lib.hid (h.turn 2 (.bool true) { S with down := true } rfl rfl h.hfu rfl)
          go_enter Try.func11, Try.ntmps11
          go_wp2_with fail
          refine k25.mono ?_
          rintro _ W2 ⟨rfl, hW2⟩
          rw [hW2]
          clear hW2
          go_wp2_with fail
          exact bodyPost_ret (v := .int .i64 7) (by simp [results, Try.results11, go_sem]) rfl ⟨rfl, lv, HT.out⟩
        · obtain ⟨n, rfl⟩ : ∃ n : Nat, i = (n : Int) := ⟨i.toNat, by omega⟩
          have hw : S.write n s = ({ S with loose := S.loose ++ [(n, s)], fuse := max (-1) (S.fuse - 1) }, 0) := by unfold DS.write; rw [if_neg hd, if_neg (by simp [hi, hl]), if_neg hz, Int.toNat_natCast]
          rw [hw]
          have hfu := h.hfu
          have hfz : decide (S.fuse = 0) = false := by simp [hz]
          go_enter Try.func11, Try.ntmps11
          go_wp2_with fail
          refine k25.mono ?_
          rintro _ W2 ⟨rfl, hW2⟩
          rw [hW2]
          clear hW2 k25 hw
          go_wp2_with (at_builtin; refine wpList_appendW rfl _ _ rfl lv S.loose n s rfl h.hl _ _ rfl rfl (by omega) ?_; intro v' w1 hrow1 hg1 hown1; obtain ⟨A1, z1, rfl⟩ := ownsRow_form hrow1; have hk1 : ∀ k, k < W.heap.size → lv.ownBlock ≠ some k → w1.heap[k]? = W.heap[k]? := (fun k hk hne => (hg1.block k (by simp; omega) (fun e => hne e.symm)).trans (Below.heap_alloc _ _ _ hk)); obtain ⟨d0, d1, d2, d3, d4⟩ := cells4 ((hk1 p h.lt.1 h.pl).trans h.hp); have HROW := Lib.hid hrow1; have HK := Lib.hid hk1; have HG := Lib.hid hg1; have HO := Lib.hid hown1; clear hrow1 hk1 hg1 hown1 c0 c1 c2 c3 hf)
          have hrow := HROW.out
          rw [show (S.loose ++ [(n, s)]).length = S.loose.length + 1 by simp] at hrow
          have hg := HG.out
          have hdisk := h.made (l := S.loose ++ [(n, s)]) HK.out hrow (by simp) (by simp; omega) (fun x hx => (List.mem_append.1 hx).elim (h.hb x) fun h1 => by simp only [List.mem_singleton] at h1; subst h1; have := hi.2; omega) (fun x hx => (List.mem_append.1 hx).elim (h.hs.2 x) fun h1 => by simp only [List.mem_singleton] at h1; subst h1; exact hl) (max (-1) (S.fuse - 1)) (by omega)
          have hch : Changed W ((w1.setCell ⟨p, 1, none⟩ (.slice A1 (S.loose.length + 1) z1)).setCell ⟨p, 3, none⟩ (.int .i64 (max (-1) (S.fuse - 1)))) p f lv (.slice A1 (S.loose.length + 1) z1) := by
            refine ⟨hg.os, hg.tape, hg.output, ?_, fun k hk hp _ hl => ?_, fun k hk => HO.out k (by cases A1 <;> exact hk)⟩
            · have := hg.size
              rw [setCell_size, setCell_size]
              simp at this
              omega
            · rw [setCell_other _ p 3 k _ hp, setCell_other _ p 1 k _ hp]
              exact HK.out k hk hl
          exact bodyPost_ret (v := .int .i64 0) (by simp [results, Try.results11, go_sem]) rfl ⟨rfl, _, hdisk, hch⟩
      · have hw : S.write i s = (S, 1) := by unfold DS.write; rw [if_neg hd, if_pos (.inr hl)]
        rw [hw]
        go_enter Try.func11, Try.ntmps11
        go_wp2_with fail
        refine k25.mono ?_
        rintro _ W2 ⟨rfl, hW2⟩
        rw [hW2]
        clear hW2
        go_wp2_with fail
        exact bodyPost_ret (v := .int .i64 1) (by simp [results, Try.results11, go_sem]) rfl ⟨rfl, lv, h, Changed.refl _ _ _ _⟩
    · have hw : S.write i s = (S, 1) := by unfold DS.write; rw [if_neg hd, if_pos (.inl hi)]
      rw [hw]
      rw [decide_eq_false hi] at k25
      go_enter Try.func11, Try.ntmps11
      go_wp2_with fail
      refine k25.mono ?_
      rintro _ W2 ⟨rfl, hW2⟩
      rw [hW2]
      clear hW2
      go_wp2_with fail
      exact bodyPost_ret (v := .int .i64 1) (by simp [results, Try.results11, go_sem]) rfl ⟨rfl, lv, h, Changed.refl _ _ _ _⟩
end Go.Proofs.Ytojgfaichkcmpaa

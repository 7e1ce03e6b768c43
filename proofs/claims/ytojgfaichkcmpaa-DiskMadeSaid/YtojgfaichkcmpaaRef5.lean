/- Walks: the document's disk: flush, crash. -/
import Derived.Test.YtojgfaichkcmpaaRef4
import Derived.Test.YtojgfaichkcmpaaCrash2
namespace Go.Proofs.Ytojgfaichkcmpaa
open Go.RowKit

theorem ChangedR.of_below {W W' : World} (hb : Below W.heap.size W W') (q : Nat) (fv nv : Value) : ChangedR W W' q fv nv fv nv := (ChangedR.refl W q fv nv).below hb
set_option maxRecDepth 100000 in
theorem flushR_any {W : World} {q : Nat} {fv nv : Value} {S : DS} (h : RefAt W q fv nv S) :
    Calls Try.prog 30 #[ptr q] W fun e w' => e = .returned (.int .i64 S.flush.2) ∧ ∃ nv', RefAt w' q fv nv' S.flush.1 ∧ ChangedR W w' q fv nv fv nv' := by
  obtain ⟨c0, c1, c2, c3, hf⟩ := h.cells
  by_cases hd : S.down = true
  · have hw : S.flush = (S, 7) := by unfold DS.flush; rw [if_pos hd]
    rw [hw]
    rw [hd] at c2
    go_enter Try.func30, Try.ntmps30
    go_wp2_with fail
    exact bodyPost_ret (v := .int .i64 7) (by simp [results, Try.results30, go_sem]) rfl ⟨rfl, nv, h, ChangedR.refl _ _ _ _⟩
  · have hd' : S.down = false := by simpa using hd
    have hw : S.flush = ({ S with firm := putAll S.firm S.loose, loose := [] }, 0) := by unfold DS.flush; rw [if_neg hd]
    rw [hw]
    rw [hd'] at c2
    obtain ⟨A, z, rfl⟩ := ownsRow_form h.hl
    have hmk := make_bools S.loose.length h.hm W
    have hma := madeMarks W S.loose.length
    have hR := h.below ((Below.refl _ W).alloc (Nat.le_refl _) (.cells (bools (List.replicate S.loose.length false)).toArray 4))
    have hB := (Below.refl W.heap.size W).alloc (Nat.le_refl _) (.cells (bools (List.replicate S.loose.length false)).toArray 4)
    obtain ⟨g, hg⟩ : ∃ g, W.heap.size = g := ⟨_, rfl⟩
    rw [hg] at hmk hma
    obtain ⟨W0, hW0⟩ : ∃ W0, W.alloc (.cells (bools (List.replicate S.loose.length false)).toArray 4) = W0 := ⟨_, rfl⟩
    rw [hW0] at hmk hma hR hB
    have HG := Lib.hid hg
    have HB := Lib.hid hB
    have HR := Lib.hid hR
    have HMA := Lib.hid hma
    have HH := Lib.hid h
    clear hg hW0 hB hR hma hw h hd
    have hmax := HH.out.hm
    go_enter Try.func30, Try.ntmps30
    go_wp2_with fail
    clear c0 c1 c2 c3 hf hmk
    go_loopw [4] (fun v wr => ∃ k : Nat, k ≤ S.loose.length ∧ v = .int .i64 k ∧ Hid (RefAt wr q fv (.slice A S.loose.length z) S) ∧ Hid (Below W.heap.size W wr) ∧ ∃ bs, Hid (Marks wr g bs ∧ bs.length = S.loose.length ∧ ∀ j, j < k → bs.getD j false = true)) (fun v _ => S.loose.length - (intOf v).toNat)
    case atStart => exact ⟨0, by omega, rfl, HR.out, HB.out, _, HMA.out, by simp, fun j hj => by omega⟩
    case round =>
      obtain ⟨k, hk, rfl, HD, HC, bs, HM⟩ := hrel
      by_cases hlt : k < S.loose.length
      · have hd : decide ((k : Int) < (S.loose.length : Int)) = true := by simp; omega
        obtain ⟨m1, m2, m3⟩ := HM.out.1.cell k (by rw [HM.out.2.1]; exact hlt)
        go_wp2_with fail
        go_roundw
        case rel =>
          refine ⟨k + 1, by omega, by go_num, HD.out.marks HM.out.1 k true, HC.out.setCell (by rw [← HG.out]; exact Nat.le_refl _) _, bs.set k true, HM.out.1.put k true, by rw [List.length_set]; exact HM.out.2.1, fun j hj => ?_⟩
          by_cases hjk : j = k
          · subst hjk
            have := HM.out.2.1
            simp [show j < bs.length by omega]
          · have := HM.out.2.2 j (by omega)
            simp only [List.getD_eq_getElem?_getD, List.getElem?_set_ne (Ne.symm hjk)]
            rwa [List.getD_eq_getElem?_getD] at this
        case measure => simp [intOf]; omega
      · obtain rfl : k = S.loose.length := by omega
        have hd : decide ((S.loose.length : Int) < (S.loose.length : Int)) = false := by simp
        have hfi := firmR_any HD.out g S.loose.length bs HM.out.1 HM.out.2.1
        go_wp2_with fail
        refine hfi.mono ?_
        rintro _ W2 ⟨⟨r0, rfl⟩, hr, hch⟩
        have hr' : RefAt W2 q fv (.slice none 0 0) { S with firm := putAll S.firm S.loose, loose := [] } := by
          unfold DS.firmed at hr
          rwa [pickN_all bs S.loose 0 (fun j hj => by rw [Nat.zero_add]; exact HM.out.2.2 j hj)] at hr
        have HR2 := Lib.hid hr'
        have HCH := Lib.hid ((ChangedR.of_below HC.out q fv (.slice A S.loose.length z)).trans hch)
        clear hr hr' hch hfi
        go_wp2_with fail
        have hr := HR2.out
        exact bodyPost_ret (v := .int .i64 0) (by simp [results, Try.results30, go_sem]) rfl ⟨rfl, _, hr, HCH.out⟩
theorem take_has (zs : List Int) (i : Nat) (hi : i < zs.length) (j : Nat) : (zs.take (i + 1)).contains (j : Int) = ((zs.take i).contains (j : Int) || decide (zs.getD i 0 = (j : Int))) := by
  have e : zs[i] = zs.getD i 0 := by simp [hi]
  rw [List.take_succ_eq_append_getElem hi, e]
  generalize zs.getD i 0 = z
  simp only [List.contains_eq_mem, List.mem_append, List.mem_singleton, Bool.decide_or]
  congr 1
  simp only [decide_eq_decide]
  exact ⟨fun h => h.symm, fun h => h.symm⟩
set_option maxRecDepth 100000 in
theorem crashR_any {w W : World} {q : Nat} {fv nv : Value} {S : DS} (h : RefAt W q fv nv S) (hb : Below w.heap.size w W) (v : Value) (zs : List Int) (hz : IntsW w v zs) :
    Calls Try.prog 32 #[ptr q, v] W fun e w' => (∃ r, e = .returned r) ∧ ∃ nv', RefAt w' q fv nv' (S.crash zs) ∧ ChangedR W w' q fv nv fv nv' := by
  obtain ⟨c0, c1, c2, c3, hf⟩ := h.cells
  obtain ⟨A, z, rfl⟩ := ownsRow_form h.hl
  obtain ⟨⟨Az, cz, rfl⟩, hzl⟩ := hz.form
  have hmk := make_bools S.loose.length h.hm W
  have hma := madeMarks W S.loose.length
  have hR := h.below ((Below.refl _ W).alloc (Nat.le_refl _) (.cells (bools (List.replicate S.loose.length false)).toArray 4))
  have hB := (Below.refl W.heap.size W).alloc (Nat.le_refl _) (.cells (bools (List.replicate S.loose.length false)).toArray 4)
  obtain ⟨g, hg⟩ : ∃ g, W.heap.size = g := ⟨_, rfl⟩
  rw [hg] at hmk hma
  obtain ⟨W0, hW0⟩ : ∃ W0, W.alloc (.cells (bools (List.replicate S.loose.length false)).toArray 4) = W0 := ⟨_, rfl⟩
  rw [hW0] at hmk hma hR hB
  have HG := Lib.hid hg
  have HB := Lib.hid hB
  have HR := Lib.hid hR
  have HMA := Lib.hid hma
  have HH := Lib.hid h
  have HZ := Lib.hid hz
  have HW := Lib.hid hb
  clear hg hW0 hB hR hma h hz hb
  have hmax := HH.out.hm
  go_enter Try.func32, Try.ntmps32
  go_wp2_with fail
  clear c0 c1 c2 c3 hf hmk
  go_loopw [5] (fun v wr => ∃ k : Nat, k ≤ zs.length ∧ v = .int .i64 k ∧ Hid (RefAt wr q fv (.slice A S.loose.length z) S) ∧ Hid (Below W.heap.size W wr) ∧ ∃ bs, Hid (Marks wr g bs ∧ bs.length = S.loose.length ∧ ∀ j, j < S.loose.length → bs.getD j false = (zs.take k).contains (j : Int))) (fun v _ => zs.length - (intOf v).toNat)
  case atStart => exact ⟨0, by omega, rfl, HR.out, HB.out, _, HMA.out, by simp, fun j hj => by simp [hj]⟩
  case round =>
    obtain ⟨k, hk, rfl, HD, HC, bs, HM⟩ := hrel
    by_cases hlt : k < zs.length
    · have hd : decide ((k : Int) < (zs.length : Int)) = true := by simp; omega
      obtain ⟨b, o, rfl, hbw, hcell⟩ := HZ.out.spot k hlt
      obtain ⟨z1, z2⟩ := hcell (HW.out.trans (HC.out.mono HW.out.size))
      have hth := take_has zs k hlt
      obtain ⟨y, hy⟩ : ∃ y, zs.getD k 0 = y := ⟨_, rfl⟩
      rw [hy] at z1 hth
      have HTH := Lib.hid hth
      clear hth hy
      by_cases h0 : 0 ≤ y
      · have d0 : decide (0 ≤ y) = true := by simpa using h0
        by_cases h1 : y < S.loose.length
        · have d1 : decide (y < (S.loose.length : Int)) = true := by simpa using h1
          obtain ⟨n, rfl⟩ : ∃ n : Nat, y = (n : Int) := ⟨y.toNat, by omega⟩
          have hn : n < S.loose.length := by omega
          obtain ⟨m1, m2, m3⟩ := HM.out.1.cell n (by rw [HM.out.2.1]; exact hn)
          go_wp2_with fail
          go_roundw
          case rel =>
            refine ⟨k + 1, by omega, by go_num, HD.out.marks HM.out.1 n true, HC.out.setCell (by rw [← HG.out]; exact Nat.le_refl _) _, bs.set n true, HM.out.1.put n true, by rw [List.length_set]; exact HM.out.2.1, fun j hj => ?_⟩
            rw [HTH.out]
            have h5 := HM.out.2.2 j hj
            have h6 := HM.out.2.1
            by_cases hjn : j = n
            · subst hjn
              simp [show j < bs.length by omega]
            · rw [← h5, show decide ((n : Int) = (j : Int)) = false by simp; omega, Bool.or_false]
              simp only [List.getD_eq_getElem?_getD, List.getElem?_set_ne (Ne.symm hjn)]
          case measure => simp [intOf]; omega
        · have d1 : decide (y < (S.loose.length : Int)) = false := by simpa using h1
          go_wp2_with fail
          go_roundw
          case rel =>
            refine ⟨k + 1, by omega, by go_num, HD.out, HC.out, bs, HM.out.1, HM.out.2.1, fun j hj => ?_⟩
            rw [HTH.out, HM.out.2.2 j hj, show decide (y = (j : Int)) = false by simp; omega, Bool.or_false]
          case measure => simp [intOf]; omega
      · have d0 : decide (0 ≤ y) = false := by simpa using h0
        go_wp2_with fail
        go_roundw
        case rel =>
          refine ⟨k + 1, by omega, by go_num, HD.out, HC.out, bs, HM.out.1, HM.out.2.1, fun j hj => ?_⟩
          rw [HTH.out, HM.out.2.2 j hj, show decide (y = (j : Int)) = false by simp; omega, Bool.or_false]
        case measure => simp [intOf]; omega
    · obtain rfl : k = zs.length := by omega
      have hd : decide ((zs.length : Int) < (zs.length : Int)) = false := by simp
      have hfi := firmR_any HD.out g S.loose.length bs HM.out.1 HM.out.2.1
      go_wp2_with fail
      refine hfi.mono ?_
      rintro _ W2 ⟨⟨r0, rfl⟩, hr, hch⟩
      have hr' : RefAt W2 q fv (.slice none 0 0) { S with firm := putAll S.firm (keptN zs 0 S.loose), loose := [] } := by
        unfold DS.firmed at hr
        rwa [pickN_kept bs zs S.loose.length (fun j hj => by rw [HM.out.2.2 j hj, List.take_length]) S.loose 0 (by omega)] at hr
      have hch' := (ChangedR.of_below HC.out q fv (.slice A S.loose.length z)).trans hch
      obtain ⟨dm, cm⟩ := hr'.turn 2 (.bool false) { firm := putAll S.firm (keptN zs 0 S.loose), loose := [], down := false, fuse := S.fuse } rfl rfl HH.out.hfu rfl
      obtain ⟨dl, cl⟩ := dm.turn 3 (.int .i64 (-1)) (S.crash zs) rfl rfl (by show (-1 : Int) ≤ -1 ∧ (-1 : Int) ≤ 9223372036854775807; omega) rfl
      have HR2 := Lib.hid dl
      have HCH := Lib.hid ((hch'.trans cm).trans cl)
      have d1 := hr'.cells
      obtain ⟨d0, d1, d2, d3, d4⟩ := d1
      clear hr hr' hch hch' hfi dm cm dl cl
      go_wp2_with fail
      go_end0
      exact ⟨⟨_, rfl⟩, _, HR2.out, HCH.out⟩
end Go.Proofs.Ytojgfaichkcmpaa

/- Walks: a crash, of rows that came in, whatever their size. -/
import Derived.Test.YtojgfaichkcmpaaKeep1
namespace Go.Proofs.Ytojgfaichkcmpaa
open Go.RowKit

/-- A row of numbers that came in. -/
def IntsW (w : World) (v : Value) (zs : List Int) : Prop :=
  (zs = [] ∧ ∃ a c, v = .slice a 0 c) ∨ ∃ b off c, v = .slice (some ⟨b, off, none⟩) zs.length c ∧ b < w.heap.size ∧ zs.length ≤ 9223372036854775807 ∧ ∀ j, j < zs.length → w.cell? ⟨b, off + j, none⟩ = some (.int .i64 (zs.getD j 0))
theorem IntsW.form {w : World} {v : Value} {zs : List Int} (h : IntsW w v zs) : (∃ a c, v = .slice a zs.length c) ∧ zs.length ≤ 9223372036854775807 := by
  rcases h with ⟨rfl, a, c, rfl⟩ | ⟨b, off, c, rfl, _, h2, _⟩
  · exact ⟨⟨_, _, rfl⟩, by simp⟩
  · exact ⟨⟨_, _, rfl⟩, h2⟩
theorem IntsW.spot {w : World} {A : Option Addr} {n c : Nat} {zs : List Int} (h : IntsW w (.slice A n c) zs) (i : Nat) (hi : i < zs.length) :
    ∃ b o, A = some ⟨b, o, none⟩ ∧ b < w.heap.size ∧ ∀ {X : World}, Below w.heap.size w X → X.cell? ⟨b, o + i, none⟩ = some (.int .i64 (zs.getD i 0)) ∧ has X b := by
  rcases h with ⟨rfl, _⟩ | ⟨b, off, c', hv, h1, _, h3⟩
  · simp at hi
  · obtain ⟨rfl, -, -⟩ := by simpa only [Value.slice.injEq] using hv
    exact ⟨b, off, rfl, h1, fun {X} hX => ⟨(hX.cell (p := ⟨b, off + i, none⟩) h1).trans (h3 i hi), by have := hX.size; unfold has; omega⟩⟩
theorem IntsW.contains {w X : World} {v : Value} {zs : List Int} (h : IntsW w v zs) (hb : Below w.heap.size w X) (i : Int) : Calls Try.prog 27 #[v, .int .i64 i] X fun e w' => e = .returned (.bool (zs.contains i)) ∧ w' = X := by
  rcases h with ⟨rfl, a, c, rfl⟩ | ⟨b, off, c, rfl, h1, h2, h3⟩
  · exact Try.slices_Contains_int_empty a c i X
  · have := Try.slices_Contains_int b off zs.length c zs i X (Nat.le_refl _) h2 (fun j hj => (hb.cell (p := ⟨b, off + j, none⟩) h1).trans (h3 j hj))
    rw [List.take_length] at this
    exact this
set_option maxRecDepth 100000 in
theorem crash_w {w W : World} {p f : Nat} {lv : Value} {S : DS} (hM : Mine w W p f lv S) (v : Value) (zs : List Int) (hz : IntsW w v zs) :
    Calls Try.prog 16 #[ptr p, v] W fun e w' => (∃ r, e = .returned r) ∧ ∃ lv', DiskAt w' p f lv' (S.crash zs) ∧ Changed W w' p f lv lv' := by
  have h := hM.disk
  have HMM := Lib.hid hM
  clear hM
  obtain ⟨c0, c1, c2, c3, hf⟩ := h.cells
  obtain ⟨A, z, hlv⟩ := h.form
  rw [hlv] at c1
  go_enter Try.func16, Try.ntmps16
  go_wp2_with fail
  clear c0 c1 c2 c3 hf
  have HZ := Lib.hid hz
  clear hz
  go_loopw [13] (fun v wr => ∃ k : Nat, k ≤ S.loose.length ∧ v = .int .i64 k ∧ Hid (DiskAt wr p f lv { S with firm := putAll S.firm (keptN zs 0 (S.loose.take k)) }) ∧ Hid (Changed W wr p f lv lv)) (fun v _ => S.loose.length - (intOf v).toNat)
  case atStart => exact ⟨0, by omega, rfl, h, Changed.refl _ _ _ _⟩
  case round =>
    obtain ⟨k, hk, rfl, HD, HC⟩ := hrel
    by_cases hlt : k < S.loose.length
    · have hd : decide ((k : Int) < (S.loose.length : Int)) = true := by simp; omega
      have e1 : wrap64 ((k : Int) + 1) = ((k + 1 : Nat) : Int) := by have := h.hm; unfold wrap64; omega
      have HE1 := Lib.hid e1
      clear e1
      obtain ⟨c0, c1, c2, c3, hf⟩ := HD.out.cells
      obtain ⟨g, z', hlv', hg, r1, r2⟩ := HD.out.loose_at k hlt
      simp only at hlv' r1 r2
      obtain ⟨x, hx⟩ : ∃ x, S.loose.getD k (0, []) = x := ⟨_, rfl⟩
      rw [hx] at r1 r2
      have hxb : x.1 < S.firm.length := by
        have := HD.out.hb x (by rw [← hx]; simp [hlt])
        simpa [putAll_length] using this
      have hx64 : x.2.length = 64 := HD.out.hs.2 x (by rw [← hx]; simp [hlt])
      have HX := Lib.hid (show keptN zs 0 (S.loose.take (k + 1)) = keptN zs 0 (S.loose.take k) ++ (if zs.contains (k : Int) then [x] else []) by
        rw [List.take_succ_eq_append_getElem hlt, keptN_snoc]
        have : S.loose[k] = x := by rw [← hx]; simp [hlt]
        rw [this, List.length_take, Nat.min_eq_left (by omega), Nat.zero_add])
      obtain ⟨s1, s2⟩ := HD.out.sector x.1 (by simpa [putAll_length] using hxb)
      simp only [putAll_length] at c0
      obtain ⟨rfl, -, rfl⟩ := by simpa only [Value.slice.injEq] using hlv.symm.trans hlv'
      have hpl := HD.out.lt.1
      have hfl := HD.out.lt.2
      have hne := HD.out.pf
      obtain ⟨a, b⟩ := x
      simp only at r1 r2 hxb s1 s2 HX
      generalize (putAll S.firm (keptN zs 0 (List.take k S.loose))).getD a [] = old at s1
      have q1 : has wr p := hpl
      have q2 : has wr f := hfl
      have q3 : has wr g := hg
      clear hx hlv'
      have hcon := fun o => HZ.out.contains (X := wr.alloc o) ((HMM.out.changed HC.out HD.out).below.alloc (by have := (HMM.out.changed HC.out HD.out).below.size; omega) o) (k : Int)
      go_wp2_with fail
      refine (hcon _).mono ?_
      rintro _ W2 ⟨rfl, hW2⟩
      rw [hW2]
      clear hW2 hcon
      by_cases hin : zs.contains (k : Int) = true
      · rw [hin]
        go_wp2_with fail
        refine wp_region_plain 9 40 mixed (by kernel_rfl) (by kernel_rfl) rfl (fun _ _ _ _ _ h => h) ?_
        simp only [List.take_succ_cons, List.take_zero, List.drop_succ_cons, List.drop_zero]
        repeat (first | (refine wpHead_skip rfl ?_) | (refine wpHead_run rfl rfl (fun K hK => ?_); go_simp; first | (refine hK _ ?_; clear hK K) | (apply Exists.intro; refine ⟨fun _ => ?_, hK _ ?_⟩; (fail); clear hK K)))
        refine wpHead_nil ?_
        intro zz x1
        clear zz
        go_wp2_with fail
        go_roundw
        case rel =>
          obtain ⟨dp, cp⟩ := HD.out.put a b hx64
          have hb : Below (wr.setCell ⟨f, a, none⟩ (strV b)).heap.size (wr.setCell ⟨f, a, none⟩ (strV b)) (plus ((wr.setCell ⟨f, a, none⟩ (strV b)).alloc (.cells #[.int .i64 (a : Int), .string ⟨b.toArray⟩] 54)) x1) := by repeat (first | exact Below.refl _ _ | refine Below.setCell ?_ (by first | (simp; done) | (simp; omega) | (simp [size_plus]; done) | (simp [size_plus]; omega)) _ | refine Below.alloc ?_ (by first | (simp; done) | (simp; omega) | (simp [size_plus]; done) | (simp [size_plus]; omega)) _ | refine Below.drew ?_ | refine Below.plus ?_ (by first | (simp; done) | (simp; omega) | (simp [size_plus]; done) | (simp [size_plus]; omega)) _)
          refine ⟨k + 1, by omega, by rw [HE1.out], ?_, (HC.out.trans cp).below hb⟩
          have dq := dp.below hb
          simp only at dq
          have hX := HX.out
          rw [if_pos hin] at hX
          rw [hX, putAll_snoc]
          exact dq
        case measure =>
          rw [HE1.out]
          simp only [intOf]
          omega
      · have hin' : zs.contains (k : Int) = false := by simpa using hin
        rw [hin']
        go_wp2_with fail
        go_roundw
        case rel =>
          have hb : Below wr.heap.size wr (wr.alloc (.cells #[.int .i64 (a : Int), .string ⟨b.toArray⟩] 54)) := by repeat (first | exact Below.refl _ _ | refine Below.setCell ?_ (by first | (simp; done) | (simp; omega) | (simp [size_plus]; done) | (simp [size_plus]; omega)) _ | refine Below.alloc ?_ (by first | (simp; done) | (simp; omega) | (simp [size_plus]; done) | (simp [size_plus]; omega)) _ | refine Below.drew ?_ | refine Below.plus ?_ (by first | (simp; done) | (simp; omega) | (simp [size_plus]; done) | (simp [size_plus]; omega)) _)
          refine ⟨k + 1, by omega, by rw [HE1.out], ?_, HC.out.below hb⟩
          have hX := HX.out
          rw [if_neg hin, List.append_nil] at hX
          rw [hX]
          exact HD.out.below hb
        case measure =>
          rw [HE1.out]
          simp only [intOf]
          omega
    · obtain rfl : k = S.loose.length := by omega
      obtain ⟨c0, c1, c2, c3, hf⟩ := HD.out.cells
      have hd : decide ((S.loose.length : Int) < (S.loose.length : Int)) = false := by simp
      go_wp2_with fail
      have HD' := HD.out
      rw [List.take_length] at HD'
      obtain ⟨dn, cn⟩ := HD'.none
      obtain ⟨dm, cm⟩ := dn.turn 2 (.bool false) { firm := putAll S.firm (keptN zs 0 S.loose), loose := [], down := false, fuse := S.fuse } rfl rfl h.hfu rfl
      obtain ⟨dl, cl⟩ := dm.turn 3 (.int .i64 (-1)) (S.crash zs) rfl rfl (by show (-1 : Int) ≤ -1 ∧ (-1 : Int) ≤ 9223372036854775807; omega) rfl
      go_end0
      exact ⟨⟨_, rfl⟩, _, dl, by rw [← hlv]; exact ((HC.out.trans cn).trans cm).trans cl⟩
end Go.Proofs.Ytojgfaichkcmpaa

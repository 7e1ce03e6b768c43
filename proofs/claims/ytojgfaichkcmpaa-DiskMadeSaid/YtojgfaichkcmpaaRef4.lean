/- Walks: the document's disk: firm, flush. -/
import Derived.Test.YtojgfaichkcmpaaRef3
namespace Go.Proofs.Ytojgfaichkcmpaa
open Go.RowKit

def DS.firmed (S : DS) (bs : List Bool) : DS := { S with firm := putAll S.firm (pickN bs 0 S.loose), loose := [] }
set_option maxRecDepth 100000 in
theorem firmR_any {W : World} {q : Nat} {fv nv : Value} {S : DS} (h : RefAt W q fv nv S) (g c : Nat) (bs : List Bool) (hm : Marks W g bs) (hbl : bs.length = S.loose.length) :
    Calls Try.prog 44 #[ptr q, .slice (some ⟨g, 0, none⟩) S.loose.length c] W fun e w' => (∃ r, e = .returned r) ∧ RefAt w' q fv (.slice none 0 0) (S.firmed bs) ∧ ChangedR W w' q fv nv fv (.slice none 0 0) := by
  obtain ⟨Af, cf, hfv⟩ := ownsRow_form h.hf
  obtain ⟨A, z, hnv⟩ := ownsRow_form h.hl
  subst hfv hnv
  have HM := Lib.hid hm
  have HBL := Lib.hid hbl
  clear hm hbl
  go_enter Try.func44, Try.ntmps44
  go_wp2_with fail
  go_loopw [4] (fun v wr => ∃ k : Nat, k ≤ S.loose.length ∧ v = .int .i64 k ∧ Hid (RefAt wr q (.slice Af S.firm.length cf) (.slice A S.loose.length z) { S with firm := putAll S.firm (pickN bs 0 (S.loose.take k)) }) ∧ Hid (ChangedR W wr q (.slice Af S.firm.length cf) (.slice A S.loose.length z) (.slice Af S.firm.length cf) (.slice A S.loose.length z))) (fun v _ => S.loose.length - (intOf v).toNat)
  case atStart => exact ⟨0, by omega, rfl, h, ChangedR.refl _ _ _ _⟩
  case round =>
    obtain ⟨k, hk, rfl, HD, HC⟩ := hrel
    obtain ⟨c0, c1, c2, c3, hf⟩ := HD.out.cells
    by_cases hlt : k < S.loose.length
    · have hd : decide ((k : Int) < (S.loose.length : Int)) = true := by simp; omega
      have e1 : wrap64 ((k : Int) + 1) = ((k + 1 : Nat) : Int) := by have := h.hm; unfold wrap64; omega
      have HE1 := Lib.hid e1
      clear e1
      obtain ⟨gl, z', hlv', hg, r1, r2⟩ := HD.out.loose_at k hlt
      simp only [Value.slice.injEq] at hlv' r1 r2
      obtain ⟨rfl, -, rfl⟩ := hlv'
      obtain ⟨m1, m2, m3⟩ := (HM.out.changed h HC.out).cell k (by rw [HBL.out]; exact hlt)
      obtain ⟨x, hx⟩ : ∃ x, S.loose.getD k (0, []) = x := ⟨_, rfl⟩
      rw [hx] at r1 r2
      have hxb : x.1 < S.firm.length := by
        have := HD.out.hb x (by rw [← hx]; simp [hlt])
        simpa [putAll_length] using this
      have hx64 : x.2.length = 64 := HD.out.hs.2 x (by rw [← hx]; simp [hlt])
      have HX := Lib.hid (show pickN bs 0 (S.loose.take (k + 1)) = pickN bs 0 (S.loose.take k) ++ (if bs.getD k false = true then [x] else []) by
        rw [List.take_succ_eq_append_getElem hlt, pickN_snoc]
        have : S.loose[k] = x := by rw [← hx]; simp [hlt]
        rw [this, List.length_take, Nat.min_eq_left (by omega), Nat.zero_add])
      obtain ⟨gf, cf', hfv', s1, s2, s3⟩ := HD.out.sector x.1 (by simpa [putAll_length] using hxb)
      simp only [Value.slice.injEq, putAll_length] at hfv' c0
      obtain ⟨rfl, -, rfl⟩ := hfv'
      have q1 : has wr q := HD.out.lt
      obtain ⟨a, b⟩ := x
      simp only at r1 r2 hxb s1 s2 HX
      generalize (putAll S.firm (pickN bs 0 (List.take k S.loose))).getD a [] = old at s1
      clear hx
      by_cases hin : bs.getD k false = true
      · rw [hin] at m1
        go_wp2_with fail
        refine wp_region_plain 21 42 mixed (by kernel_rfl) (by kernel_rfl) rfl (fun _ _ _ _ _ h => h) ?_
        simp only [List.take_succ_cons, List.take_zero, List.drop_succ_cons, List.drop_zero]
        repeat (first | (refine wpHead_skip rfl ?_) | (refine wpHead_run rfl rfl (fun K hK => ?_); go_simp; first | (refine hK _ ?_; clear hK K) | (apply Exists.intro; refine ⟨fun _ => ?_, hK _ ?_⟩; (fail); clear hK K)))
        refine wpHead_nil ?_
        intro zz x1
        clear zz
        go_wp2_with fail
        go_roundw
        case rel =>
          obtain ⟨dp, cp⟩ := HD.out.put (g := gf) (c := cf) (by simp [putAll_length]) a b hx64
          have hb : Below (wr.setCell ⟨gf, a, none⟩ (strV b)).heap.size (wr.setCell ⟨gf, a, none⟩ (strV b)) (plus (wr.setCell ⟨gf, a, none⟩ (strV b)) x1) := by repeat (first | exact Below.refl _ _ | refine Below.setCell ?_ (by first | (simp; done) | (simp; omega) | (simp [size_plus]; done) | (simp [size_plus]; omega)) _ | refine Below.alloc ?_ (by first | (simp; done) | (simp; omega) | (simp [size_plus]; done) | (simp [size_plus]; omega)) _ | refine Below.drew ?_ | refine Below.plus ?_ (by first | (simp; done) | (simp; omega) | (simp [size_plus]; done) | (simp [size_plus]; omega)) _)
          refine ⟨k + 1, by omega, by rw [HE1.out], ?_, (HC.out.trans cp).below hb⟩
          have dq := dp.below hb
          simp only at dq
          have hX := HX.out
          rw [if_pos hin] at hX
          rw [hX, putAll_snoc]
          exact dq
        case measure =>
          rw [HE1.out]
          simp only [intOf]
          omega
      · have hin' : bs.getD k false = false := by simpa using hin
        rw [hin'] at m1
        go_wp2_with fail
        go_roundw
        case rel =>
          refine ⟨k + 1, by omega, by rw [HE1.out], ?_, HC.out⟩
          have hX := HX.out
          rw [if_neg hin, List.append_nil] at hX
          rw [hX]
          exact HD.out
        case measure =>
          rw [HE1.out]
          simp only [intOf]
          omega
    · obtain rfl : k = S.loose.length := by omega
      have hd : decide ((S.loose.length : Int) < (S.loose.length : Int)) = false := by simp
      go_wp2_with fail
      have HD' := HD.out
      rw [List.take_length] at HD'
      obtain ⟨dn, cn⟩ := HD'.emptied
      go_end0
      exact ⟨⟨_, rfl⟩, dn, HC.out.trans cn⟩
end Go.Proofs.Ytojgfaichkcmpaa

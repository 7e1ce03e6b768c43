/- Walks: texts put. -/
import Derived.Test.YtmlefodnbbkilaaPk1
namespace Go.Proofs.Ytmlefodnbbkilaa
open Go.RowKit

theorem strsN_take (l : List Bs) (k : Nat) (h : k < l.length) : strsN (l.take (k + 1)) = strsN (l.take k) ++ strN l[k] := by
  rw [List.take_succ_eq_append_getElem h, strsN_app]
  simp [strsN]
theorem strsN_len_le : ∀ (l : List Bs) (k : Nat), (strsN (l.take k)).length ≤ (strsN l).length := by
  intro l k
  have e : strsN l = strsN (l.take k) ++ strsN (l.drop k) := by rw [← strsN_app, List.take_append_drop]
  rw [e, List.length_append]
  omega
theorem strs_at (l : List Bs) (k : Nat) (x : Bs) (h : l[k]? = some x) : ((l.map strV).toArray)[k]? = some (strV x) := by simp [h]
set_option maxRecDepth 100000 in
theorem put_any {B P : Nat} {v lv : Value} {s : Bs} {W : World} (l : List Bs) (g c : Nat) (h : PkAt B P v lv s W) (hg : W.heap[g]? = some (.cells (l.map strV).toArray 9)) (hgP : g ≠ P) (hgv : v.ownBlock ≠ some g) (hl : s.length + (strsN l).length ≤ 100000000000000) (hl3 : (strsN l).length ≤ 1000000000) (hl2 : l.length ≤ 1000000) :
    Calls Try.prog 29 #[.pointer (some ⟨P, 0, none⟩), .slice (some ⟨g, 0, none⟩) l.length c] W fun e w' => e = .returned (.tuple #[]) ∧ ∃ v', PkAt B P v' lv (s ++ strsN l) w' ∧ PkTo P v v' W w' := by
  have H := Lib.hid h
  have HG := Lib.hid hg
  have HGP := Lib.hid hgP
  have HGV := Lib.hid hgv
  clear h hg hgP hgv
  go_enter Try.func29, Try.ntmps29
  go_wp2_with fail
  go_loopw [8] (fun z wr => ∃ (k : Nat), k ≤ l.length ∧ z = .int .i64 k ∧ Hid (∃ u, PkAt B P u lv (s ++ strsN (l.take k)) wr ∧ PkTo P v u W wr)) (fun z _ => l.length - (intOf z).toNat)
  case atStart => exact ⟨0, by omega, rfl, v, by simpa [strsN] using H.out, PkTo.refl _ _ _⟩
  case round =>
    obtain ⟨k, hk, rfl, HU⟩ := hrel
    by_cases hlt : k < l.length
    · have hd : decide ((k : Int) < (l.length : Int)) = true := by simp; omega
      obtain ⟨x, hx⟩ : ∃ x, l[k]? = some x := ⟨_, List.getElem?_eq_getElem hlt⟩
      have hxe : l[k] = x := (List.getElem?_eq_some_iff.1 hx).2
      obtain ⟨u, hU⟩ := HU.out
      have hgw := (hU.2.keep HG.out HGP.out HGV.out).1
      have hc : wr.cell? ⟨g, k, none⟩ = some (strV x) := by simp [World.cell?, hgw, hx]
      have hstep := strsN_take l k hlt
      rw [hxe] at hstep
      have hle := strsN_len_le l (k + 1)
      rw [hstep, List.length_append] at hle
      have hsl : x.length ≤ (strN x).length := by rw [strN_len]; omega
      have HS := Lib.hid fun V => str_any x V (by omega)
      have HW := Lib.hid fun V (hb : Below wr.heap.size wr V) => write_any (strN x) (hU.1.on hb) (by rw [List.length_append]; omega)
      have HU2 := Lib.hid hU
      have HST := Lib.hid hstep
      obtain ⟨sx, hsx⟩ : ∃ sx, strN x = sx := ⟨_, rfl⟩
      rw [hsx] at HS HW HST
      clear hU hgw hstep hle hsl hx hxe HU hsx
      go_wp2_with fail
      go_region_held3 (fun w' => True) (first | exact trivial)
        (first
          | (go_at_call 17; refine (HS.out _).mono ?_; rintro _ V1 ⟨rfl, hb1⟩)
          | (go_at_call 48; refine (HW.out _ ((Below.refl wr.heap.size wr).drew.trans hb1)).mono ?_; rintro _ V2 ⟨⟨n2, rfl⟩, u2, hP2, hT2⟩))
      have HF : Hid (∃ u, PkAt B P u lv (s ++ strsN (l.take (k + 1))) V2 ∧ PkTo P v u W V2) := Lib.hid ⟨u2, by rw [HST.out, ← List.append_assoc]; exact hP2, HU2.out.2.trans ((PkTo.of_below ((Below.refl wr.heap.size wr).drew.trans hb1)).trans hT2)⟩
      clear hP2 hT2 HS HW HST HU2
      go_wp2_with fail
      go_roundw
      case rel => exact ⟨k + 1, by omega, by go_num, HF⟩
      case measure => simp [intOf]; omega
    · obtain rfl : k = l.length := by omega
      have hd : decide ((l.length : Int) < (l.length : Int)) = false := by simp
      go_wp2_with fail
      go_end0
      obtain ⟨u, h1, h2⟩ := HU.out
      rw [List.take_length] at h1
      exact ⟨rfl, u, h1, h2⟩
end Go.Proofs.Ytmlefodnbbkilaa

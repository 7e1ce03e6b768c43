/- DiskFuse: the walk of the law's own function. -/
import Derived.Test.YtojgfaichkcmpaaDiskP
namespace Go.Proofs.Ytojgfaichkcmpaa
open Go.RowKit

def firmT : List UInt8 := [102, 105, 114, 109]
def two (i : Nat) : List UInt8 := secN [UInt8.ofNat i, 7]
def fuF : List (List UInt8) := (List.replicate 64 zeroS).set 63 (secN firmT)
def fuS (k i : Nat) : DS := { firm := fuF, loose := (List.range i).map fun j => (j, two j), down := false, fuse := (k : Int) - i }
theorem fu_write (k i : Nat) (h : i < k) (hk : k < 30) : (fuS k i).write i (two i) = (fuS k (i + 1), 0) := by
  unfold DS.write
  rw [if_neg (by simp [fuS]), if_neg (by simp [fuS, fuF, two, secN_length]; omega), if_neg (by simp [fuS]; omega)]
  simp only [fuS, List.range_succ, List.map_append, List.map_cons, List.map_nil, Int.toNat_natCast]
  congr 1
  congr 1
  omega
theorem fu_key (k j : Nat) (hj : k ≤ j) : ∀ x ∈ (fuS k k).loose, x.1 ≠ j := by
  intro x hx
  simp only [fuS, List.mem_map, List.mem_range] at hx
  obtain ⟨a, ha, rfl⟩ := hx
  dsimp only
  omega
theorem fu_crash (k : Nat) (zs : List Int) (hk : k < 30) (hz : zs = [] ∨ ∀ j, j < k → zs.contains (j : Int) = true) : ∃ F, (DS.crash { fuS k k with down := true } zs) = calm F ∧ F.length = 64 ∧ F.getD 63 [] = secN firmT ∧ F.getD 40 [] = zeroS ∧ F.getD 0 [] = if zs ≠ [] ∧ 0 < k then two 0 else zeroS := by
  refine ⟨_, crash_calm _ _, ?_, ?_, ?_, ?_⟩
  · rw [putAll_length]; simp [fuS, fuF]
  · rw [putAll_other 63 _ _ (fun x hx => fu_key k 63 (by omega) x (keptN_mem _ _ _ _ hx))]
    exact getD_set_eq _ _ _ (by simp)
  · rw [putAll_other 40 _ _ (fun x hx => fu_key k 40 (by omega) x (keptN_mem _ _ _ _ hx))]
    exact (getD_set_ne _ _ _ _ (by decide)).trans (zero_at 64 40 (by decide))
  · have h00 : fuF.getD 0 [] = zeroS := (getD_set_ne _ _ _ _ (by decide)).trans (zero_at 64 0 (by decide))
    by_cases h0 : zs = []
    · subst h0
      rw [if_neg (by simp), keptN_none _ _ _ (fun _ _ => rfl)]
      exact h00
    · have hz' := hz.resolve_left h0
      rw [keptN_all _ _ _ (fun j hj => by rw [Nat.zero_add]; exact hz' j (by simpa [fuS] using hj))]
      rcases Nat.eq_zero_or_pos k with rfl | hp
      · rw [if_neg (by simp)]
        exact h00
      · rw [if_pos ⟨h0, hp⟩]
        obtain ⟨m, rfl⟩ : ∃ m, k = m + 1 := ⟨k - 1, by omega⟩
        simp only [fuS, List.range_succ_eq_map, List.map_cons]
        show (putAll (fuF.set 0 (two 0)) _).getD 0 [] = _
        rw [putAll_other 0 _ _ (fun x hx => by
          simp only [List.map_map, List.mem_map] at hx
          obtain ⟨a, _, rfl⟩ := hx
          simp)]
        exact getD_set_eq _ _ _ (by simp [fuF])
theorem fu_last (F : List (List UInt8)) (h : F.length = 64) : (calm F).write 40 (secN [120]) = ({ calm F with loose := [(40, secN [120])] }, 0) := by
  unfold DS.write
  rw [if_neg (by simp [calm]), if_neg (by simp [calm, h, secN_length]), if_neg (by simp [calm])]
  rfl
theorem fu_down (k : Nat) : (fuS k k).write 40 (secN [110, 111]) = ({ fuS k k with down := true }, 7) := by
  unfold DS.write
  rw [if_neg (by simp [fuS]), if_neg (by simp [fuS, fuF, secN_length]), if_pos (by simp [fuS])]
set_option maxRecDepth 100000 in
set_option maxHeartbeats 4000000 in
theorem diskFuse_any (n more : Nat) (all : Bool) (w : World) (hn : n < 256) (hm : more < 256) : Ret Try.prog 3 #[.int .u8 (n : Int), .int .u8 (more : Int), .bool all] w (.bool true) := by
  refine .of ?_
  obtain ⟨k, hk⟩ : ∃ k : Nat, n % 30 = k := ⟨_, rfl⟩
  have hk' : (n : Int) % 30 = (k : Int) := by omega
  have hk30 : k < 30 := by omega
  go_enter Try.func3, Try.ntmps3
  go_wp2_with fail
  refine (new_m 64 w _ (Below.refl _ _) (by omega) (by omega)).mono ?_
  rintro _ W1 ⟨p, f, rfl, hM1, -, -, -⟩
  go_wp2_with fail
  refine (err_ret 0 _).out.mono ?_
  rintro _ _ ⟨rfl, x1, rfl⟩
  replace hM1 := hM1.on (below_plus W1 x1)
  revert hM1
  generalize plus W1 x1 = W1
  intro hM1
  go_wp2_with fail
  rw [hk']
  go_wp2_with fail
  refine (sector_m hM1 firmT).mono ?_
  rintro _ W2 ⟨rfl, -, hM2⟩
  go_wp2_with fail
  refine (write_m hM2 63 (secN firmT) { DS.new 64 with loose := [(63, secN firmT)] } 0 rfl (by decide)).mono ?_
  rintro _ W3 ⟨rfl, lv3, hM3, -⟩
  clear hM1 hM2
  go_wp2_with fail
  refine (flush_m hM3 { DS.new 64 with firm := fuF } 0 rfl).mono ?_
  rintro _ W4 ⟨rfl, lv4, hM4, -⟩
  go_wp2_with fail
  refine (fuse_m hM4 k (by omega)).mono ?_
  rintro _ W5 ⟨⟨_, rfl⟩, hM5, -⟩
  replace hM5 : Mine w W5 p f lv4 (fuS k 0) := by
    rw [show fuS k 0 = { ({ DS.new 64 with firm := fuF } : DS) with fuse := max (-1) (k : Int) } by
      unfold fuS DS.new
      simp only [List.range_zero, List.map_nil]
      congr 1]
    exact hM5
  go_wp2_with fail
  clear hM3 hM4
  go_loopw [10] (fun v wr => ∃ i : Nat, i ≤ k ∧ v = .int .i64 i ∧ ∃ lv, Hid (Mine w wr p f lv (fuS k i))) (fun v _ => k - (intOf v).toNat)
  case atStart => exact ⟨0, by omega, rfl, _, hM5⟩
  case round =>
    obtain ⟨i, hi, rfl, lv, HM⟩ := hrel
    by_cases hlt : i < k
    · have hd : decide ((i : Int) < (k : Int)) = true := by simp; omega
      have hb := new_at wr (.cells #[.int .u8 (i : Int), .int .u8 7] 5)
      have hconv := block_str (wr.alloc (.cells #[.int .u8 (i : Int), .int .u8 7] 5)) wr.heap.size 2 2 [UInt8.ofNat i, 7] rfl (fr := (0, 0)) (by
        rw [hb]
        simp only [u8s, List.map_cons, List.map_nil]
        rw [show ((UInt8.ofNat i).toNat : Int) = (i : Int) by simp; omega]
        rfl)
      clear hb
      go_wp2_with fail
      refine (sector_m (HM.out.on (Below.alloc (Below.refl _ _) (Nat.le_refl _) _)) [UInt8.ofNat i, 7]).mono ?_
      rintro _ W6 ⟨rfl, -, hM6⟩
      clear hconv
      go_wp2_with fail
      refine (write_m hM6 i (two i) (fuS k (i + 1)) 0 (fu_write k i hlt hk30) (by simp [fuS]; omega)).mono ?_
      rintro _ W7 ⟨rfl, lv7, hM7, -⟩
      go_wp2_with fail
      refine (err_ret 0 _).out.mono ?_
      rintro _ _ ⟨rfl, x2, rfl⟩
      go_wp2_with fail
      have HM7 := Lib.hid (hM7.on (below_plus W7 x2))
      go_roundw
      case rel => exact ⟨i + 1, by omega, by go_num, _, HM7.out⟩
      case measure => simp [intOf]; omega
    · obtain rfl : k = i := by omega
      go_wp2_with fail
      refine (sector_m HM.out [110, 111]).mono ?_
      rintro _ W6 ⟨rfl, -, hM6⟩
      go_wp2_with fail
      refine (write_m hM6 40 (secN [110, 111]) { fuS k k with down := true } 7 (fu_down k) (by simp [fuS]; omega)).mono ?_
      rintro _ W7 ⟨rfl, lv7, hM7, -⟩
      clear hM6 HM
      go_wp2_with fail
      refine (read_m hM7 63 [] 7 rfl).mono ?_
      rintro _ W8 ⟨rfl, -, hM8⟩
      clear hM7
      go_wp2_with fail
      refine (flush_m hM8 { fuS k k with down := true } 7 rfl).mono ?_
      rintro _ W9 ⟨rfl, lv9, hM9, -⟩
      clear hM8
      go_wp2_with fail
      refine (sector_m hM9 [110, 111]).mono ?_
      rintro _ W10 ⟨rfl, -, hM10⟩
      clear hM9
      go_wp2_with fail
      refine (write_m hM10 41 (secN [110, 111]) { fuS k k with down := true } 7 rfl (by simp [fuS]; omega)).mono ?_
      rintro _ W11 ⟨rfl, lv11, hM11, -⟩
      clear hM10
      cases all with
      | false =>
        go_wp2_with fail
        refine (crash_m hM11 (.slice none 0 0) [] (.inl ⟨_, rfl, rfl⟩)).mono ?_
        rintro _ W12 ⟨⟨_, rfl⟩, lv12, hM12, -⟩
        obtain ⟨F, hF, hlen, h63, h40, h0⟩ := fu_crash k [] hk30 (.inl rfl)
        rw [hF] at hM12
        rw [if_neg (by simp)] at h0
        clear hF hM11
        go_wp2_with fail
        refine (read_m hM12 63 (secN firmT) 0 ((calm_read F 63 (by omega)).trans (by rw [h63]))).mono ?_
        rintro _ W13 ⟨rfl, -, hM13⟩
        clear hM12
        go_wp2_with fail
        refine (read_m hM13 0 zeroS 0 ((calm_read F 0 (by omega)).trans (by rw [h0]))).mono ?_
        rintro _ W14 ⟨rfl, -, hM14⟩
        clear hM13
        go_wp2_with fail
        refine (read_m hM14 40 zeroS 0 ((calm_read F 40 (by omega)).trans (by rw [h40]))).mono ?_
        rintro _ W15 ⟨rfl, -, hM15⟩
        clear hM14
        go_wp2_with fail
        refine (sector_m hM15 []).mono ?_
        rintro _ W16 ⟨rfl, -, hM16⟩
        clear hM15
        rw [secN_nil]
        have hM17 := hM16
        clear hM16
        go_wp2_with fail
        revert hM17
        generalize W16 = W17
        intro hM17
        go_wp2_with fail
        refine (err_ret 7 _).out.mono ?_
        rintro _ _ ⟨rfl, y1, rfl⟩
        go_wp2_with fail
        refine (err_ret 7 _).out.mono ?_
        rintro _ _ ⟨rfl, y2, rfl⟩
        go_wp2_with fail
        refine (err_ret 7 _).out.mono ?_
        rintro _ _ ⟨rfl, y3, rfl⟩
        go_wp2_with fail
        refine (err_ret 7 _).out.mono ?_
        rintro _ _ ⟨rfl, y4, rfl⟩
        go_wp2_with fail
        refine (sector_ret firmT _).out.mono ?_
        rintro _ _ ⟨rfl, y5, rfl⟩
        go_wp2_with fail
        refine (err_ret 0 _).out.mono ?_
        rintro _ _ ⟨rfl, y6, rfl⟩
        go_wp2_with fail
        refine (sector_ret [] _).out.mono ?_
        rintro _ _ ⟨rfl, y7, rfl⟩
        rw [secN_nil]
        go_wp2_with fail
        refine (sector_ret [120] _).out.mono ?_
        rintro _ _ ⟨rfl, y8, rfl⟩
        have hMY : Mine w (plus (plus (plus (plus (plus (plus (plus (plus W17 y1) y2) y3) y4) y5) y6) y7) y8) p f lv12 (calm F) := ((((((((hM17.on (below_plus _ y1)).on (below_plus _ y2)).on (below_plus _ y3)).on (below_plus _ y4)).on (below_plus _ y5)).on (below_plus _ y6)).on (below_plus _ y7)).on (below_plus _ y8))
        go_wp2_with fail
        refine (write_m hMY 40 (secN [120]) { calm F with loose := [(40, secN [120])] } 0 (fu_last F hlen) (by simp [calm])).mono ?_
        rintro _ W18 ⟨rfl, lv18, hM18, -⟩
        go_wp2_with fail
        refine (err_ret 0 _).out.mono ?_
        rintro _ _ ⟨rfl, y9, rfl⟩
        go_wp2_with fail
        refine (awake_any _).out.mono ?_
        rintro _ _ ⟨rfl, y10, rfl⟩
        go_wp2_with fail
        refine bodyPost_ret (v := .bool true) (by simp [results, Try.results3, go_sem]) rfl ⟨rfl, ?_⟩
        exact ((hM18.on (below_plus _ y9)).on (below_plus _ y10)).below
      | true =>
        have hw11 : W11.heap.size ≤ W11.heap.size := Nat.le_refl _
        go_wp2_with fail
        go_loopw [16, 17] (fun u v wr => ∃ j : Nat, j ≤ k + more ∧ v = .int .i64 j ∧ Hid (rowI wr W11.heap.size u ((List.range j).map fun (x : Nat) => (x : Int))) ∧ Below W11.heap.size W11 wr) (fun _ v _ => k + more - (intOf v).toNat)
        case atStart => exact ⟨0, by omega, rfl, rowI_nil _ _, Below.refl _ _⟩
        case round =>
          obtain ⟨j, hj, rfl, HR, hb⟩ := hrel
          by_cases hlt : j < k + more
          · have hd : decide ((j : Int) < (k : Int) + (more : Int)) = true := by simp; omega
            go_wp2_with (at_builtin; refine wpList_appendI rfl _ _ rfl W11.heap.size u16 ((List.range j).map fun (x : Nat) => (x : Int)) [(j : Int)] rfl HR.out _ 1 1 rfl rfl rfl (by simp; omega) hb.size ?_; intro v' w1 hrow1 hb1; have HR1 := Lib.hid hrow1; clear hrow1)
            go_roundw
            case rel => exact ⟨j + 1, by omega, by go_num, by rw [List.range_succ, List.map_append]; exact HR1.out, hb.trans hb1⟩
            case measure => simp [intOf]; omega
          · obtain rfl : j = k + more := by omega
            have hw : wrap64 ((k : Int) + (more : Int)) = (k : Int) + (more : Int) := by unfold wrap64; omega
            go_wp2_with fail
            refine (crash_m (hM11.on hb) u16 _ (rowI_ints HR.out (by simp; omega))).mono ?_
            rintro _ W12 ⟨⟨_, rfl⟩, lv12, hM12, -⟩
            rcases Nat.eq_zero_or_pos k with hk0 | hk0
            · have hdk : decide (0 < (k : Int)) = false := by simp; omega
              obtain ⟨F, hF, hlen, h63, h40, h0⟩ := fu_crash k ((List.range (k + more)).map fun (x : Nat) => (x : Int)) hk30 (.inr fun j hj => by simp only [List.contains_iff_mem, List.mem_map, List.mem_range]; exact ⟨j, by omega, rfl⟩)
              rw [hF] at hM12
              have hcond : ¬ (((List.range (k + more)).map fun (x : Nat) => (x : Int)) ≠ [] ∧ 0 < k) := by omega
              rw [if_neg hcond] at h0
              clear hcond
              clear hF hM11
              go_wp2_with fail
              refine (read_m hM12 63 (secN firmT) 0 ((calm_read F 63 (by omega)).trans (by rw [h63]))).mono ?_
              rintro _ W13 ⟨rfl, -, hM13⟩
              clear hM12
              go_wp2_with fail
              refine (read_m hM13 0 zeroS 0 ((calm_read F 0 (by omega)).trans (by rw [h0]))).mono ?_
              rintro _ W14 ⟨rfl, -, hM14⟩
              clear hM13
              go_wp2_with fail
              refine (read_m hM14 40 zeroS 0 ((calm_read F 40 (by omega)).trans (by rw [h40]))).mono ?_
              rintro _ W15 ⟨rfl, -, hM15⟩
              clear hM14
              go_wp2_with fail
              refine (sector_m hM15 []).mono ?_
              rintro _ W16 ⟨rfl, -, hM16⟩
              clear hM15
              rw [secN_nil]
              have hM17 := hM16
              clear hM16
              go_wp2_with fail
              revert hM17
              generalize W16 = W17
              intro hM17
              go_wp2_with fail
              refine (err_ret 7 _).out.mono ?_
              rintro _ _ ⟨rfl, y1, rfl⟩
              go_wp2_with fail
              refine (err_ret 7 _).out.mono ?_
              rintro _ _ ⟨rfl, y2, rfl⟩
              go_wp2_with fail
              refine (err_ret 7 _).out.mono ?_
              rintro _ _ ⟨rfl, y3, rfl⟩
              go_wp2_with fail
              refine (err_ret 7 _).out.mono ?_
              rintro _ _ ⟨rfl, y4, rfl⟩
              go_wp2_with fail
              refine (sector_ret firmT _).out.mono ?_
              rintro _ _ ⟨rfl, y5, rfl⟩
              go_wp2_with fail
              refine (err_ret 0 _).out.mono ?_
              rintro _ _ ⟨rfl, y6, rfl⟩
              go_wp2_with fail
              refine (sector_ret [] _).out.mono ?_
              rintro _ _ ⟨rfl, y7, rfl⟩
              rw [secN_nil]
              go_wp2_with fail
              refine (sector_ret [120] _).out.mono ?_
              rintro _ _ ⟨rfl, y8, rfl⟩
              have hMY : Mine w (plus (plus (plus (plus (plus (plus (plus (plus W17 y1) y2) y3) y4) y5) y6) y7) y8) p f lv12 (calm F) := ((((((((hM17.on (below_plus _ y1)).on (below_plus _ y2)).on (below_plus _ y3)).on (below_plus _ y4)).on (below_plus _ y5)).on (below_plus _ y6)).on (below_plus _ y7)).on (below_plus _ y8))
              go_wp2_with fail
              refine (write_m hMY 40 (secN [120]) { calm F with loose := [(40, secN [120])] } 0 (fu_last F hlen) (by simp [calm])).mono ?_
              rintro _ W18 ⟨rfl, lv18, hM18, -⟩
              go_wp2_with fail
              refine (err_ret 0 _).out.mono ?_
              rintro _ _ ⟨rfl, y9, rfl⟩
              go_wp2_with fail
              refine (awake_any _).out.mono ?_
              rintro _ _ ⟨rfl, y10, rfl⟩
              go_wp2_with fail
              refine bodyPost_ret (v := .bool true) (by simp [results, Try.results3, go_sem]) rfl ⟨rfl, ?_⟩
              exact ((hM18.on (below_plus _ y9)).on (below_plus _ y10)).below
            · have hdk : decide (0 < (k : Int)) = true := by simp; omega
              obtain ⟨F, hF, hlen, h63, h40, h0⟩ := fu_crash k ((List.range (k + more)).map fun (x : Nat) => (x : Int)) hk30 (.inr fun j hj => by simp only [List.contains_iff_mem, List.mem_map, List.mem_range]; exact ⟨j, by omega, rfl⟩)
              rw [hF] at hM12
              have hcond : ((List.range (k + more)).map fun (x : Nat) => (x : Int)) ≠ [] ∧ 0 < k := ⟨by simp; omega, hk0⟩
              rw [if_pos hcond] at h0
              clear hcond
              clear hF hM11
              go_wp2_with fail
              refine (read_m hM12 63 (secN firmT) 0 ((calm_read F 63 (by omega)).trans (by rw [h63]))).mono ?_
              rintro _ W13 ⟨rfl, -, hM13⟩
              clear hM12
              go_wp2_with fail
              refine (read_m hM13 0 (two 0) 0 ((calm_read F 0 (by omega)).trans (by rw [h0]))).mono ?_
              rintro _ W14 ⟨rfl, -, hM14⟩
              clear hM13
              go_wp2_with fail
              refine (read_m hM14 40 zeroS 0 ((calm_read F 40 (by omega)).trans (by rw [h40]))).mono ?_
              rintro _ W15 ⟨rfl, -, hM15⟩
              clear hM14
              go_wp2_with fail
              refine (sector_m hM15 []).mono ?_
              rintro _ W16 ⟨rfl, -, hM16⟩
              clear hM15
              rw [secN_nil]
              have hb16 := new_at W16 (.cells #[.int .u8 0, .int .u8 7] 5)
              have hconv := block_str (W16.alloc (.cells #[.int .u8 0, .int .u8 7] 5)) W16.heap.size 2 2 [0, 7] rfl (fr := (0, 0)) hb16
              clear hb16
              go_wp2_with fail
              refine (sector_m (hM16.on (Below.alloc (Below.refl _ _) (Nat.le_refl _) _)) [0, 7]).mono ?_
              rintro _ W17 ⟨rfl, -, hM17⟩
              rw [show secN [0, 7] = two 0 from rfl]
              clear hconv hM16
              go_wp2_with fail
              refine (err_ret 7 _).out.mono ?_
              rintro _ _ ⟨rfl, y1, rfl⟩
              go_wp2_with fail
              refine (err_ret 7 _).out.mono ?_
              rintro _ _ ⟨rfl, y2, rfl⟩
              go_wp2_with fail
              refine (err_ret 7 _).out.mono ?_
              rintro _ _ ⟨rfl, y3, rfl⟩
              go_wp2_with fail
              refine (err_ret 7 _).out.mono ?_
              rintro _ _ ⟨rfl, y4, rfl⟩
              go_wp2_with fail
              refine (sector_ret firmT _).out.mono ?_
              rintro _ _ ⟨rfl, y5, rfl⟩
              go_wp2_with fail
              refine (err_ret 0 _).out.mono ?_
              rintro _ _ ⟨rfl, y6, rfl⟩
              go_wp2_with fail
              refine (sector_ret [] _).out.mono ?_
              rintro _ _ ⟨rfl, y7, rfl⟩
              rw [secN_nil]
              go_wp2_with fail
              refine (sector_ret [120] _).out.mono ?_
              rintro _ _ ⟨rfl, y8, rfl⟩
              have hMY : Mine w (plus (plus (plus (plus (plus (plus (plus (plus W17 y1) y2) y3) y4) y5) y6) y7) y8) p f lv12 (calm F) := ((((((((hM17.on (below_plus _ y1)).on (below_plus _ y2)).on (below_plus _ y3)).on (below_plus _ y4)).on (below_plus _ y5)).on (below_plus _ y6)).on (below_plus _ y7)).on (below_plus _ y8))
              go_wp2_with fail
              refine (write_m hMY 40 (secN [120]) { calm F with loose := [(40, secN [120])] } 0 (fu_last F hlen) (by simp [calm])).mono ?_
              rintro _ W18 ⟨rfl, lv18, hM18, -⟩
              go_wp2_with fail
              refine (err_ret 0 _).out.mono ?_
              rintro _ _ ⟨rfl, y9, rfl⟩
              go_wp2_with fail
              refine (awake_any _).out.mono ?_
              rintro _ _ ⟨rfl, y10, rfl⟩
              go_wp2_with fail
              refine bodyPost_ret (v := .bool true) (by simp [results, Try.results3, go_sem]) rfl ⟨rfl, ?_⟩
              exact ((hM18.on (below_plus _ y9)).on (below_plus _ y10)).below
end Go.Proofs.Ytojgfaichkcmpaa

/- DiskKeeps: the walk of the law's own function. -/
import Derived.Test.YtojgfaichkcmpaaKeep1
namespace Go.Proofs.Ytojgfaichkcmpaa
open Go.RowKit

def k32 (l : List UInt8) (j : Nat) : Nat := (l.getD j 0).toNat % 32
def kpA (l : List UInt8) (j : Nat) : List UInt8 := secN [l.getD j 0, UInt8.ofNat j]
def kpB (l : List UInt8) (j : Nat) : List UInt8 := secN [1, l.getD j 0, UInt8.ofNat j]
def kpZ (l : List UInt8) (i : Nat) : List Int := (List.range i).map fun j => (((l.getD j 0).toNat % 20 : Nat) : Int)
theorem kpZ_succ (l : List UInt8) (i : Nat) : kpZ l (i + 1) = kpZ l i ++ [(((l.getD i 0).toNat % 20 : Nat) : Int)] := by simp [kpZ, List.range_succ]
theorem kpZ_length (l : List UInt8) (i : Nat) : (kpZ l i).length = i := by simp [kpZ]
def zF32 : List (List UInt8) := List.replicate 32 zeroS
theorem zF32_length : zF32.length = 32 := by simp [zF32]
def wantU (j : Nat) : List (List UInt8) := List.replicate j zeroS ++ List.replicate (32 - j) []
set_option maxRecDepth 100000 in
set_option maxHeartbeats 4000000 in
theorem diskKeeps_any (v0 : Value) (l0 : List UInt8) (v1 : Value) (l1 : List UInt8) (v2 : Value) (l2 : List UInt8) (w : World) (H0 : U8s w v0 l0) (H1 : U8s w v1 l1) (H2 : U8s w v2 l2) : Ret Try.prog 4 #[v0, v1, v2] w (.bool true) := by
  refine .of ?_
  obtain ⟨⟨A0, c0, rfl⟩, hm0⟩ := H0.form
  obtain ⟨⟨A1, c1, rfl⟩, hm1⟩ := H1.form
  obtain ⟨⟨A2, c2, rfl⟩, hm2⟩ := H2.form
  have hl0 : l0.length ≤ 9223372036854775807 := by unfold maxLen at hm0; omega
  have hl1 : l1.length ≤ 9223372036854775807 := by unfold maxLen at hm1; omega
  have hl2 : l2.length ≤ 9223372036854775807 := by unfold maxLen at hm2; omega
  have HL0 := Lib.hid H0
  have HL1 := Lib.hid H1
  have HL2 := Lib.hid H2
  clear H0 H1 H2 hm0 hm1 hm2
  go_enter Try.func4, Try.ntmps4
  go_wp2_with fail
  refine (new_m 32 w _ (Below.refl _ _) (by omega) (by omega)).mono ?_
  rintro _ V ⟨p, f, rfl, hM, -, -, -⟩
  go_wp2_with fail
  refine (err_ret 0 _).below.mono ?_
  rintro _ V1 ⟨rfl, hx⟩
  replace hM := hM.on hx
  clear hx
  have hmk := make_strs 32 (by omega) V1
  have hk : Kp w (V1.alloc (.cells (strsV (List.replicate 32 [])) 9)) p f (.slice none 0 0) (calm zF32) V1.heap.size (wantU 0) :=
    ⟨hM.on ((Below.refl _ _).alloc (Nat.le_refl _) _), new_at V1 _, hM.below.size, fun e => by have := hM.disk.lt.2; omega⟩
  obtain ⟨g, hg⟩ : ∃ g, V1.heap.size = g := ⟨_, rfl⟩
  rw [hg] at hk hmk
  have hg' := hg
  obtain ⟨W0, hW0⟩ : ∃ W0, V1.alloc (.cells (strsV (List.replicate 32 [])) 9) = W0 := ⟨_, rfl⟩
  rw [hW0, show ((32 : Nat) : Int) = 32 from rfl] at hmk
  rw [hW0] at hk
  clear hM hg hg' hW0
  go_wp2_with fail
  have HK := Lib.hid hk
  clear hk hmk
  go_loopw [10] (fun z wr => ∃ j : Nat, j ≤ 32 ∧ z = .int .i64 j ∧ Hid (Kp w wr p f (.slice none 0 0) (calm zF32) g (wantU j))) (fun z _ => 32 - (intOf z).toNat)
  case atStart => exact ⟨0, by omega, rfl, HK.out⟩
  case round =>
    clear HK
    obtain ⟨j, hj, rfl, HK⟩ := hrel
    by_cases hlt : j < 32
    · have dj : decide ((j : Int) < 32) = true := by simp; omega
      have hk := HK.out
      clear HK
      go_wp2_with fail
      refine (sector_ret [] _).below.mono ?_
      rintro _ V ⟨rfl, hx⟩
      replace hk := hk.on hx
      clear hx
      rw [secN_nil]
      have hwl : (wantU j).length = 32 := by simp [wantU]; omega
      obtain ⟨k1, k2, k3⟩ := hk.cell j (by omega)
      obtain ⟨old, hold⟩ : ∃ old, (wantU j).getD j [] = old := ⟨_, rfl⟩
      rw [hold] at k1
      clear hold
      go_wp2_with fail
      have HK := Lib.hid (hk.put j zeroS)
      refine ⟨⟨j + 1, by omega, by go_num, ?_⟩, by simp [intOf]; omega⟩
      have := HK.out
      rw [show (wantU j).set j zeroS = wantU (j + 1) by
        apply List.ext_getElem?
        intro m
        simp only [wantU, List.getElem?_set, List.getElem?_append, List.length_append, List.length_replicate, List.getElem?_replicate]
        split <;> split <;> (try split) <;> (try split) <;> simp_all <;> omega] at this
      exact this
    · obtain rfl : j = 32 := by omega
      rw [show ((32 : Nat) : Int) = 32 from rfl]
      go_wp2_with fail
      have hk := HK.out
      rw [show wantU 32 = putAll zF32 (ld (k32 l0) (kpA l0) 0) by simp [wantU, zF32, ld, putAll], ← ld_zero zF32 (k32 l0) (kpA l0)] at hk
      clear HK
      rename_i K hK
      have HKK := Lib.hid hK
      clear hK
      go_loopw [11] (fun z wr => ∃ i : Nat, i ≤ l0.length ∧ i ≤ 40 ∧ z = .int .i64 i ∧ ∃ lv, Hid (Kp w wr p f lv (ldS zF32 (k32 l0) (kpA l0) i) g (putAll zF32 (ld (k32 l0) (kpA l0) i)))) (fun z _ => 40 - (intOf z).toNat)
      case atStart => exact ⟨0, by omega, by omega, rfl, _, hk⟩
      case round =>
        clear hk
        obtain ⟨i, hi, hi40, rfl, lv, HK⟩ := hrel
        by_cases hlt : i < l0.length ∧ i < 40
        · have d1 : decide ((i : Int) < (l0.length : Int)) = true := by simp; omega
          have d2 : decide ((i : Int) < 40) = true := by simp; omega
          obtain ⟨h1, h2⟩ := hlt
          have hk := HK.out
          clear HK
          obtain ⟨b, o, rfl, hc⟩ := HL0.out.spot i h1
          have hw := ld_write zF32 (k32 l0) (kpA l0) i (by simp [zF32, k32]; omega) (by simp [kpA, secN_length])
          have hset := ld_put zF32 (k32 l0) (kpA l0) i
          have hx' := u8_rem (l0.getD i 0) 32 (by omega)
          have hk32 : k32 l0 i = (l0.getD i 0).toNat % 32 := rfl
          have hkpa : kpA l0 i = secN [l0.getD i 0, UInt8.ofNat i] := rfl
          obtain ⟨y, hy⟩ : ∃ y, l0.getD i 0 = y := ⟨_, rfl⟩
          simp only [hy] at hc hx' hk32 hkpa
          obtain ⟨x, hx⟩ : ∃ x, k32 l0 i = x := ⟨_, rfl⟩
          obtain ⟨s, hs⟩ : ∃ s, kpA l0 i = s := ⟨_, rfl⟩
          rw [← hk32, hx, show ((32 : Nat) : Int) = 32 from rfl] at hx'
          rw [hx, hs] at hw hset
          rw [hs] at hkpa
          have hx32 : x < 32 := by rw [← hx]; unfold k32; omega
          have HS := Lib.hid hkpa
          have HW := Lib.hid hw
          have HT := Lib.hid hset
          clear hy hx hs hk32 hkpa hw hset
          have hb := new_at wr (.cells #[.int .u8 (y.toNat : Int), .int .u8 (i : Int)] 5)
          have hconv := block_str (wr.alloc (.cells #[.int .u8 (y.toNat : Int), .int .u8 (i : Int)] 5)) wr.heap.size 2 2 [y, UInt8.ofNat i] rfl (fr := (0, 0)) (by
            rw [hb]
            simp only [u8s, List.map_cons, List.map_nil]
            rw [show ((UInt8.ofNat i).toNat : Int) = (i : Int) by simp; omega])
          clear hb
          have hwi : IntKind.u8.wrap (i : Int) = (i : Int) := by rw [IntKind.wrap_u8]; omega
          obtain ⟨hcell, hh⟩ := hc hk.mine.below
          go_wp2_with fail
          refine (sector_any [y, UInt8.ofNat i] _).mono ?_
          rintro _ V ⟨rfl, hx⟩
          rw [← HS.out]
          clear hconv
          have hx2 : Below wr.heap.size wr V := ((Below.refl _ _).alloc (Nat.le_refl _) _).trans (hx.mono (by simp))
          replace hk := hk.on hx2
          clear hx hx2 hcell hh
          obtain ⟨hcell, hh⟩ := hc hk.mine.below
          go_wp2_with fail
          refine (write_m hk.mine x s _ 0 HW.out (by simp [ldS, ld_length]; omega)).mono ?_
          rintro _ V ⟨rfl, lv', hm, hch⟩
          replace hk := hk.at hm hch
          clear hm hch hcell hh
          obtain ⟨hcell, hh⟩ := hc hk.mine.below
          obtain ⟨k1, k2, k3⟩ := hk.cell x (by rw [putAll_length, zF32_length]; exact hx32)
          generalize (putAll zF32 (ld (k32 l0) (kpA l0) i)).getD x [] = old at k1
          go_wp2_with fail
          have hp := hk.put x s
          rw [← HT.out] at hp
          have HP := Lib.hid hp
          clear hp
          go_roundw
          case rel => exact ⟨i + 1, by omega, by omega, by go_num, _, HP.out⟩
          case measure => simp [intOf]; omega
        · apply cut_at
          · intro h
            rcases Nat.lt_or_ge i l0.length with hc1 | hc1
            · have d1 : decide ((i : Int) < (l0.length : Int)) = true := by simp; omega
              have d2 : decide ((i : Int) < 40) = false := by simp; omega
              go_wp2_with fail
              refine HKK.out _ _ ?_
              refine any_slots 45 ?_
              simp only [List.set_cons_zero, List.set_cons_succ]
              exact h.out
            · have d1 : decide ((i : Int) < (l0.length : Int)) = false := by simp; omega
              go_wp2_with fail
              refine HKK.out _ _ ?_
              refine any_slots 45 ?_
              simp only [List.set_cons_zero, List.set_cons_succ]
              exact h.out
          · have hk := HK.out
            clear HK HKK
            intro v45 v46 v47 v48
            go_wp2_with fail
            refine (flush_m hk.mine _ 0 (ld_flush zF32 (k32 l0) (kpA l0) i)).mono ?_
            rintro _ V ⟨rfl, lv', hm, hch⟩
            replace hk := hk.at hm hch
            clear hm hch
            have hF : (putAll zF32 (ld (k32 l0) (kpA l0) i)).length = 32 := by rw [putAll_length, zF32_length]
            generalize putAll zF32 (ld (k32 l0) (kpA l0) i) = F at hk hF
            clear hi hi40 hlt HL0
            go_wp2_with fail
            rename_i K hK
            have HKK := Lib.hid hK
            clear hK
            go_loopw [13, 14] (fun u z wr => ∃ m : Nat, m ≤ l2.length ∧ m ≤ 20 ∧ z = .int .i64 m ∧ Hid (Kp w wr p f lv' (calm F) g F) ∧ Hid (rowI wr w.heap.size u (kpZ l2 m))) (fun _ z _ => 20 - (intOf z).toNat)
            case atStart => exact ⟨0, by omega, by omega, rfl, hk, rowI_nil _ _⟩
            case round =>
              clear hk
              obtain ⟨m, hm, hm20, rfl, HK, HR⟩ := hrel
              by_cases hlt : m < l2.length ∧ m < 20
              · have d1 : decide ((m : Int) < (l2.length : Int)) = true := by simp; omega
                have d2 : decide ((m : Int) < 20) = true := by simp; omega
                obtain ⟨h1, h2⟩ := hlt
                have hk := HK.out
                have hrow := HR.out
                clear HK HR
                obtain ⟨b, o, rfl, hc⟩ := HL2.out.spot m h1
                have hx' := u8_rem (l2.getD m 0) 20 (by omega)
                have hz := kpZ_succ l2 m
                obtain ⟨y, hy⟩ : ∃ y, l2.getD m 0 = y := ⟨_, rfl⟩
                simp only [hy] at hc hx' hz
                obtain ⟨x, hx⟩ : ∃ x, y.toNat % 20 = x := ⟨_, rfl⟩
                rw [hx, show ((20 : Nat) : Int) = 20 from rfl] at hx'
                rw [hx] at hz
                have HZ := Lib.hid hz
                clear hy hx hz
                obtain ⟨hcell, hh⟩ := hc hk.mine.below
                go_wp2_with (at_builtin; refine wpList_appendG rfl _ _ rfl w.heap.size u13 (kpZ l2 m) [(x : Int)] rfl hrow _ 1 1 rfl rfl rfl (by rw [kpZ_length]; omega) hk.mine.below.size ?_; intro v' w1 hrow1 hg1; have HR1 := Lib.hid hrow1; have HK1 := Lib.hid (hk.grown hrow hg1); clear hrow1 hg1)
                go_roundw
                case rel => exact ⟨m + 1, by omega, by omega, by go_num, HK1.out, by rw [HZ.out]; exact HR1.out⟩
                case measure => simp [intOf]; omega
              · apply cut_at
                · intro h
                  rcases Nat.lt_or_ge m l2.length with hc1 | hc1
                  · have d1 : decide ((m : Int) < (l2.length : Int)) = true := by simp; omega
                    have d2 : decide ((m : Int) < 20) = false := by simp; omega
                    go_wp2_with fail
                    refine HKK.out _ _ ?_
                    refine any_slots 84 ?_
                    simp only [List.set_cons_zero, List.set_cons_succ]
                    exact h.out
                  · have d1 : decide ((m : Int) < (l2.length : Int)) = false := by simp; omega
                    go_wp2_with fail
                    refine HKK.out _ _ ?_
                    refine any_slots 84 ?_
                    simp only [List.set_cons_zero, List.set_cons_succ]
                    exact h.out
                · have hk := HK.out
                  have hrow := HR.out
                  clear HK HR HKK
                  intro v84 v85 v86 v87
                  have hz20 : (kpZ l2 m).length ≤ 20 := by rw [kpZ_length]; exact hm20
                  generalize kpZ l2 m = zs at hrow hz20
                  clear hm hm20 hlt HL2
                  obtain ⟨Az, cz, rfl⟩ := rowI_form hrow
                  go_wp2_with fail
                  rename_i K hK
                  have HKK := Lib.hid hK
                  clear hK
                  rw [← ld_zero F (k32 l1) (kpB l1)] at hk
                  go_loopw [15] (fun z wr => ∃ i : Nat, i ≤ l1.length ∧ i ≤ 20 ∧ z = .int .i64 i ∧ ∃ lv, Hid (Kp w wr p f lv (ldS F (k32 l1) (kpB l1) i) g (keptF F zs (k32 l1) (kpB l1) i)) ∧ Hid (rowI wr w.heap.size (.slice Az zs.length cz) zs)) (fun z _ => 20 - (intOf z).toNat)
                  case atStart => exact ⟨0, by omega, by omega, rfl, _, hk, hrow⟩
                  case round =>
                    clear hk hrow
                    obtain ⟨i, hi, hi20, rfl, lv, HK, HR⟩ := hrel
                    by_cases hlt : i < l1.length ∧ i < 20
                    · have d1 : decide ((i : Int) < (l1.length : Int)) = true := by simp; omega
                      have d2 : decide ((i : Int) < 20) = true := by simp; omega
                      obtain ⟨h1, h2⟩ := hlt
                      have hk := HK.out
                      have hrow := HR.out
                      clear HK HR
                      obtain ⟨b, o, rfl, hc⟩ := HL1.out.spot i h1
                      have hw := ld_write F (k32 l1) (kpB l1) i (by rw [hF]; unfold k32; omega) (by simp [kpB, secN_length])
                      have hset := upTo_all F zs (k32 l1) (kpB l1) i
                      have hx' := u8_rem (l1.getD i 0) 32 (by omega)
                      have hk32 : k32 l1 i = (l1.getD i 0).toNat % 32 := rfl
                      have hkpb : kpB l1 i = secN [1, l1.getD i 0, UInt8.ofNat i] := rfl
                      obtain ⟨y, hy⟩ : ∃ y, l1.getD i 0 = y := ⟨_, rfl⟩
                      simp only [hy] at hc hx' hk32 hkpb
                      obtain ⟨x, hx⟩ : ∃ x, k32 l1 i = x := ⟨_, rfl⟩
                      obtain ⟨s, hs⟩ : ∃ s, kpB l1 i = s := ⟨_, rfl⟩
                      rw [← hk32, hx, show ((32 : Nat) : Int) = 32 from rfl] at hx'
                      rw [hx, hs] at hw hset
                      rw [hs] at hkpb
                      have hx32 : x < 32 := by rw [← hx]; unfold k32; omega
                      have HS := Lib.hid hkpb
                      have HW := Lib.hid hw
                      have HT := Lib.hid hset
                      clear hy hx hs hk32 hkpb hw hset
                      have hb := new_at wr (.cells #[.int .u8 1, .int .u8 (y.toNat : Int), .int .u8 (i : Int)] 5)
                      have hconv := block_str (wr.alloc (.cells #[.int .u8 1, .int .u8 (y.toNat : Int), .int .u8 (i : Int)] 5)) wr.heap.size 3 3 [1, y, UInt8.ofNat i] rfl (fr := (0, 0)) (by
                        rw [hb]
                        simp only [u8s, List.map_cons, List.map_nil]
                        rw [show ((UInt8.ofNat i).toNat : Int) = (i : Int) by simp; omega]
                        rfl)
                      clear hb
                      have hwi : IntKind.u8.wrap (i : Int) = (i : Int) := by rw [IntKind.wrap_u8]; omega
                      obtain ⟨hcell, hh⟩ := hc hk.mine.below
                      go_wp2_with fail
                      refine (sector_any [1, y, UInt8.ofNat i] _).mono ?_
                      rintro _ V ⟨rfl, hx⟩
                      rw [← HS.out]
                      clear hconv
                      have hx2 : Below wr.heap.size wr V := ((Below.refl _ _).alloc (Nat.le_refl _) _).trans (hx.mono (by simp))
                      replace hk := hk.on hx2
                      replace hrow := rowI_kept hrow hx2
                      clear hx hx2 hcell hh
                      obtain ⟨hcell, hh⟩ := hc hk.mine.below
                      go_wp2_with fail
                      refine (write_m hk.mine x s _ 0 HW.out (by simp [ldS, ld_length]; omega)).mono ?_
                      rintro _ V ⟨rfl, lv', hm, hch⟩
                      replace hrow := rowI_changed hrow hk.mine.disk hch
                      replace hk := hk.at hm hch
                      clear hm hch hcell hh
                      have hGl : (keptF F zs (k32 l1) (kpB l1) i).length = 32 := by rw [keptF_length, hF]
                      generalize keptF F zs (k32 l1) (kpB l1) i = G at hk hGl HT
                      clear HW
                      go_wp2_with fail
                      rename_i K2 hK2 _
                      have HKK2 := Lib.hid hK2
                      clear hK2
                      rw [← upTo_zero G zs i x s] at hk
                      go_loopw [17] (fun z wr => ∃ k : Nat, k ≤ zs.length ∧ z = .int .i64 k ∧ Hid (Kp w wr p f lv' (ldS F (k32 l1) (kpB l1) (i + 1)) g (upTo G zs i x s k)) ∧ Hid (rowI wr w.heap.size (.slice Az zs.length cz) zs)) (fun z _ => zs.length - (intOf z).toNat)
                      case atStart => exact ⟨0, by omega, rfl, hk, hrow⟩
                      case round =>
                        clear hk hrow
                        obtain ⟨k, hkz, rfl, HK, HR⟩ := hrel
                        have hk := HK.out
                        have hrow := HR.out
                        clear HK HR
                        by_cases hlt : k < zs.length
                        · have dk : decide ((k : Int) < (zs.length : Int)) = true := by simp; omega
                          obtain ⟨gz, rfl, e1, e2⟩ := rowI_at hrow k hlt
                          have hup := upTo_succ G zs i x s k hlt
                          obtain ⟨z, hz⟩ : ∃ z, zs.getD k 0 = z := ⟨_, rfl⟩
                          rw [hz] at e1 hup
                          clear hz
                          obtain ⟨hcell, hh⟩ := hc hk.mine.below
                          by_cases hzi : z = (i : Int)
                          · subst hzi
                            rw [if_pos rfl] at hup
                            have HU := Lib.hid hup
                            clear hup
                            obtain ⟨k1, k2, k3⟩ := hk.cell x (by rw [upTo_length, hGl]; exact hx32)
                            generalize (upTo G zs i x s k).getD x [] = old at k1
                            have hp := hk.put x s
                            have hr := rowI_put hrow hk.row x s
                            rw [← HU.out] at hp
                            have HP := Lib.hid hp
                            have HR := Lib.hid hr
                            clear hp hr
                            go_wp2_with fail
                            go_roundw
                            case rel => exact ⟨k + 1, by omega, by go_num, HP.out, HR.out⟩
                            case measure => simp [intOf]; omega
                          · rw [if_neg hzi] at hup
                            have dz : decide (z = (i : Int)) = false := by simpa using hzi
                            rw [← hup] at hk
                            have HP := Lib.hid hk
                            have HR := Lib.hid hrow
                            clear hup
                            go_wp2_with fail
                            go_roundw
                            case rel => exact ⟨k + 1, by omega, by go_num, HP.out, HR.out⟩
                            case measure => simp [intOf]; omega
                        · obtain rfl : k = zs.length := by omega
                          rw [HT.out] at hk
                          have HP := Lib.hid hk
                          have HR := Lib.hid hrow
                          go_wp2_with fail
                          refine HKK2.out _ _ ?_
                          go_wp2_with fail
                          go_roundw
                          case rel => exact ⟨i + 1, by omega, by omega, by go_num, _, HP.out, HR.out⟩
                          case measure => simp [intOf]; omega
                    · apply cut_at
                      · intro h
                        rcases Nat.lt_or_ge i l1.length with hc1 | hc1
                        · have d1 : decide ((i : Int) < (l1.length : Int)) = true := by simp; omega
                          have d2 : decide ((i : Int) < 20) = false := by simp; omega
                          go_wp2_with fail
                          refine HKK.out _ _ ?_
                          refine any_slots 103 ?_
                          simp only [List.set_cons_zero, List.set_cons_succ]
                          exact h.out
                        · have d1 : decide ((i : Int) < (l1.length : Int)) = false := by simp; omega
                          go_wp2_with fail
                          refine HKK.out _ _ ?_
                          refine any_slots 103 ?_
                          simp only [List.set_cons_zero, List.set_cons_succ]
                          exact h.out
                      · have hk := HK.out
                        have hrow := HR.out
                        clear HK HR HKK
                        intro v103 v104 v105 v106
                        have hmin : min (l1.length : Int) 20 = (i : Int) := by omega
                        go_wp2_with fail
                        refine (loose_ret hk.mine.disk).below.mono ?_
                        rintro _ Vd ⟨rfl, hx⟩
                        replace hk := hk.on hx
                        replace hrow := rowI_kept hrow hx
                        clear hx
                        rw [show ((ldS F (k32 l1) (kpB l1) i).loose.length : Int) = (i : Int) by simp [ldS, ld_length]]
                        go_wp2_with fail
                        refine (crash_m hk.mine _ zs (rowI_ints hrow (by omega))).mono ?_
                        rintro _ Ve ⟨⟨r0, rfl⟩, lv2, hm, hch⟩
                        replace hk := hk.at hm hch
                        rw [ld_crash] at hk
                        clear hm hch hrow
                        have hGl : (keptF F zs (k32 l1) (kpB l1) i).length = 32 := by rw [keptF_length, hF]
                        generalize keptF F zs (k32 l1) (kpB l1) i = G at hk hGl
                        clear hi hi20 hlt hF
                        have HMIN := Lib.hid hmin
                        clear hmin
                        go_wp2_with fail
                        rename_i K hK
                        have HKK := Lib.hid hK
                        clear hK
                        go_loopw [19] (fun z wr => ∃ j : Nat, j ≤ 32 ∧ z = .int .i64 j ∧ Hid (Kp w wr p f lv2 (calm G) g G)) (fun z _ => 32 - (intOf z).toNat)
                        case atStart => exact ⟨0, by omega, rfl, hk⟩
                        case round =>
                          clear hk
                          obtain ⟨j, hj, rfl, HK⟩ := hrel
                          have hk := HK.out
                          clear HK
                          by_cases hlt : j < 32
                          · have dj : decide ((j : Int) < 32) = true := by simp; omega
                            obtain ⟨s, hs⟩ : ∃ s, G.getD j [] = s := ⟨_, rfl⟩
                            go_wp2_with fail
                            refine (read_m hk.mine j s 0 ((calm_read G j (by omega)).trans (by rw [hs]))).mono ?_
                            rintro _ V ⟨rfl, hx, -⟩
                            replace hk := hk.on hx
                            clear hx
                            obtain ⟨k1, k2, k3⟩ := hk.cell j (by omega)
                            rw [hs] at k1
                            clear hs
                            go_wp2_with fail
                            refine (err_ret 0 _).below.mono ?_
                            rintro _ V ⟨rfl, hx⟩
                            replace hk := hk.on hx
                            clear hx k1 k2 k3
                            go_wp2_with fail
                            have HP := Lib.hid hk
                            go_roundw
                            case rel => exact ⟨j + 1, by omega, by go_num, HP.out⟩
                            case measure => simp [intOf]; omega
                          · obtain rfl : j = 32 := by omega
                            rw [show ((32 : Nat) : Int) = 32 from rfl]
                            go_wp2_with fail
                            refine HKK.out _ _ ?_
                            clear HKK
                            have hmin := HMIN.out
                            go_wp2_with fail
                            refine (loose_ret hk.mine.disk).below.mono ?_
                            rintro _ V ⟨rfl, hx⟩
                            replace hk := hk.on hx
                            clear hx
                            rw [show ((calm G).loose.length : Int) = 0 from rfl]
                            go_wp2_with fail
                            refine (awake_any _).below.mono ?_
                            rintro _ V ⟨rfl, hx⟩
                            replace hk := hk.on hx
                            clear hx
                            go_wp2_with fail
                            exact bodyPost_ret (v := .bool true) (by simp [results, Try.results4, go_sem]) rfl ⟨rfl, hk.mine.below⟩
end Go.Proofs.Ytojgfaichkcmpaa

/- BitmapParts: the walk of the law's own function. -/
import Derived.Deep.RegionHeld3
import Derived.Test.YtbdiombbknmlaaaParts0
namespace Go.Proofs.Ytbdiombbknmlaaa
open Go.RowKit

set_option maxRecDepth 100000 in
set_option maxHeartbeats 4000000 in
theorem parts_any (v : Value) (l : List UInt8) (n m : Nat) (w : World) (hl : U8s w v l) (hn : n < 256) (hm : m < 256) : Calls Try.prog 3 #[v, .int .u8 (n : Int), .int .u8 (m : Int)] w fun e w' => e = .returned (.bool true) ∧ Below w.heap.size w w' := by
  have HR := Lib.hid (runs_any v l w hl)
  obtain ⟨⟨A, c, rfl⟩, -⟩ := hl.form
  clear hl
  go_enter Try.func3, Try.ntmps3
  go_wp2_with fail
  refine HR.out.mono ?_
  rintro _ V1 ⟨uv, U, rfl, hU, hUl, hT⟩
  clear HR
  have HT := Lib.hid hT
  have hsm : Small U := fun x hx => by have := hT x hx; omega
  have HF := Lib.hid (free_any sorts_all V1 uv U (n : Int) ((n : Int) + m) hU.rin (by omega) hsm (by omega) (by omega))
  obtain ⟨uA, uc, rfl⟩ := hU.form
  clear hT hsm
  go_wp2_with fail
  refine HF.out.mono ?_
  rintro _ V2 ⟨fv, l', rfl, hp, hs, hFv⟩
  have hlaw := free_law (n : Int) ((n : Int) + m) U l' (by omega) hp hs
  have hlen := freeS_len (l' ++ [(max (n : Int) ((n : Int) + m), 0)]) n ((n : Int) + m)
  have hlen2 : l'.length ≤ U.length := by rw [hp.length_eq]; exact List.length_filter_le _ _
  obtain ⟨FL, hFL⟩ : ∃ FL, (freeS (l' ++ [(max (n : Int) ((n : Int) + m), 0)]) n ((n : Int) + m)).1 = FL := ⟨_, rfl⟩
  rw [hFL] at hlaw hlen hFv
  have hFLl : FL.length ≤ 100 := by simp at hlen; omega
  have HLAW := Lib.hid hlaw
  clear hlaw hlen hlen2 hFL hp hs HF l'
  have hU2 := hU.on hFv.below
  have hF2 : RR w V2 fv FL := ⟨hFv.row, hU2.below, fun k hk => Nat.le_trans hU.below.size (hFv.own k hk)⟩
  obtain ⟨fA, fc, rfl⟩ := hFv.form
  have hmk := make_marks V2
  have hb0 := (Below.refl V2.heap.size V2).alloc (Nat.le_refl _) (.cells (marks 600 fun _ => 0) 3)
  have hSt : St w (V2.alloc (.cells (marks 600 fun _ => 0) 3)) (.slice uA U.length uc) U (.slice fA FL.length fc) FL V2.heap.size (fun _ => 0) :=
    ⟨hU2.on hb0, hF2.on hb0, by simp [World.alloc, -World.alloc_eq], hU2.below.size⟩
  obtain ⟨B, hB⟩ : ∃ B, V2.heap.size = B := ⟨_, rfl⟩
  obtain ⟨W0, hW0⟩ : ∃ W0, V2.alloc (.cells (marks 600 fun _ => 0) 3) = W0 := ⟨_, rfl⟩
  rw [hB, hW0] at hmk hSt
  clear hB hW0 hb0 hU hU2 hF2 hFv
  go_wp2_with fail
  have HST := Lib.hid hSt
  clear hmk hSt
  rename_i K hK
  have HKK := Lib.hid hK
  clear hK
  go_loopw [12] (fun z wr => ∃ i : Nat, i ≤ U.length ∧ z = .int .i64 i ∧ ∃ F, Hid (St w wr (.slice uA U.length uc) U (.slice fA FL.length fc) FL B F) ∧ Hid (∀ p : Nat, p < 600 → F p = if covB (U.take i) p then 1 else 0)) (fun z _ => U.length - (intOf z).toNat)
  case atStart => exact ⟨0, by omega, rfl, _, HST.out, fun p _ => by simp [covB]⟩
  case round =>
    clear HST
    obtain ⟨i, hi, rfl, F, HS, HP⟩ := hrel
    by_cases hlt : i < U.length
    · have hd : decide ((i : Int) < (U.length : Int)) = true := by simp; omega
      obtain ⟨x, hx⟩ : ∃ x, U[i]? = some x := ⟨_, List.getElem?_eq_getElem hlt⟩
      have hx2 := HT.out x (List.mem_of_getElem? hx)
      have HC := Lib.hid (covB_take U i x hx)
      have HX := Lib.hid hx
      clear hx
      go_wp2_with fail
      rename_i K2 hK2
      have HKK2 := Lib.hid hK2
      clear hK2
      go_loopw [13] (fun z wr => ∃ k : Nat, (k : Int) ≤ x.2 ∧ z = .int .i64 k ∧ ∃ F, Hid (St w wr (.slice uA U.length uc) U (.slice fA FL.length fc) FL B F) ∧ Hid (∀ p : Nat, p < 600 → F p = if (covB (U.take i) p || (decide (x.1 ≤ p) && decide ((p : Int) < x.1 + k))) then 1 else 0)) (fun z _ => x.2.toNat - (intOf z).toNat)
      case atStart => exact ⟨0, by omega, rfl, _, HS.out, fun p hp => by
        rw [HP.out p hp]
        have : (decide (x.1 ≤ p) && decide ((p : Int) < x.1 + (0 : Nat))) = false := by simp
        rw [this, Bool.or_false]⟩
      case round =>
        clear HP HS F
        obtain ⟨k, hk, rfl, F, HS, HP⟩ := hrel
        obtain ⟨g, hg, -, g1, g2, g3, -⟩ := HS.out.u.at i x HX.out
        subst hg
        obtain ⟨x1, x2⟩ := x
        simp only at hx2 hk g2 g3 HC HP
        by_cases hkx : (k : Int) < x2
        · have dk : decide ((k : Int) < x2) = true := by simpa using hkx
          obtain ⟨xa, rfl⟩ : ∃ xa : Nat, x1 = (xa : Int) := ⟨x1.toNat, by omega⟩
          obtain ⟨b1, b2, b3⟩ := HS.out.cell (xa + k) (by omega)
          obtain ⟨old, hold⟩ : ∃ old, F (xa + k) = old := ⟨_, rfl⟩
          rw [hold] at b1
          clear hold
          have HN := Lib.hid (HS.out.put (xa + k) 1)
          have t1 : ((xa : Int) + (k : Int)).toNat = xa + k := by omega
          have t2 : (xa : Int) + (k : Int) < 600 := by omega
          have t3 : 0 ≤ (xa : Int) + (k : Int) := by omega
          go_wp2_with fail
          go_roundw
          case rel => exact ⟨k + 1, by omega, by go_num, _, HN.out, mark_one (fun p => covB (U.take i) p) F xa k HP.out⟩
          case measure => simp [intOf]; omega
        · have dk : decide ((k : Int) < x2) = false := by simpa using hkx
          go_wp2_with fail
          refine HKK2.out _ _ ?_
          clear HKK2
          obtain rfl : (k : Int) = x2 := by omega
          go_wp2_with fail
          go_roundw
          case rel => exact ⟨i + 1, by omega, by go_num, F, HS.out, fun p hp => by rw [HP.out p hp, HC.out]⟩
          case measure => simp [intOf]; omega
    · obtain rfl : i = U.length := by omega
      have hd : decide ((U.length : Int) < (U.length : Int)) = false := by simp
      go_wp2_with fail
      refine HKK.out _ _ ?_
      clear HKK
      rw [List.take_length] at HP
      go_wp2_with fail
      rename_i K hK
      have HKK := Lib.hid hK
      clear hK
      go_loopw [14, 15] (fun y z wr => ∃ i : Nat, i ≤ FL.length ∧ z = .int .i64 i ∧ y = .int .i64 (lastE FL i) ∧ ∃ F, Hid (St w wr (.slice uA U.length uc) U (.slice fA FL.length fc) FL B F) ∧ Hid (∀ p : Nat, p < 600 → F p = (if covB U p then 1 else 0) + if covB (FL.take i) p then 2 else 0)) (fun _ z _ => FL.length - (intOf z).toNat)
      case atStart => exact ⟨0, by omega, rfl, rfl, F, HS.out, fun p hp => by rw [HP.out p hp]; simp [covB]⟩
      case round =>
        clear HP HS F
        obtain ⟨i, hi, rfl, rfl, F, HS, HP⟩ := hrel
        by_cases hlt : i < FL.length
        · have hd : decide ((i : Int) < (FL.length : Int)) = true := by simp; omega
          obtain ⟨x, hx⟩ : ∃ x, FL[i]? = some x := ⟨_, List.getElem?_eq_getElem hlt⟩
          obtain ⟨hx1, hx2, hx3⟩ := HLAW.out.ok x (List.mem_of_getElem? hx)
          have hbef := HLAW.out.before (by omega) i x hx
          have HNY := Lib.hid (HLAW.out.notYet i x hx)
          have HC := Lib.hid (covB_take FL i x hx)
          have HLE : Hid (lastE FL (i + 1) = x.1 + x.2) := Lib.hid (by simp only [lastE, hx])
          obtain ⟨le, hle⟩ : ∃ le, lastE FL i = le := ⟨_, rfl⟩
          rw [hle] at hbef ⊢
          clear hle
          have HX := Lib.hid hx
          clear hx
          obtain ⟨g, hg, -, g1, g2, g3, -⟩ := HS.out.f.at i x HX.out
          subst hg
          obtain ⟨x1, x2⟩ := x
          simp only at hx1 hx2 hx3 hbef g2 g3 HC HNY HLE
          obtain ⟨xa, rfl⟩ : ∃ xa : Nat, x1 = (xa : Int) := ⟨x1.toNat, by omega⟩
          have c1 : decide (x2 < 1) = false := by simp; omega
          have c2 : decide ((xa : Int) ≤ le) = false := by simp; omega
          have c3 : decide ((xa : Int) < (n : Int)) = false := by simp; omega
          have c3' : decide (xa < n) = false := by simp; omega
          have c4 : decide ((n : Int) + (m : Int) < (xa : Int) + x2) = false := by simp; omega
          have s1 : IntKind.i64.wrap ((xa : Int) + x2) = (xa : Int) + x2 := IntWalk.i64_in _ (by omega)
          have HS2 := Lib.hid (HS.out.on ((Below.refl _ wr).drew))
          go_wp2_with fail
          go_region_held3 (fun w' => w'.cell? ⟨g, i * 2, none⟩ = some (.int .i64 (xa : Int)) ∧ w'.cell? ⟨g, i * 2 + 1, none⟩ = some (.int .i64 x2)) (go_keep) (fail)
          obtain ⟨W3, hW3⟩ : ∃ W3, wr.drew = W3 := ⟨_, rfl⟩
          rw [hW3] at HS2
          rw [hW3]
          clear hW3 g1 g2 g3 HS c1 c2 c3 c3' c4 s1
          go_wp2_with fail
          rename_i K2 hK2
          have HKK2 := Lib.hid hK2
          clear hK2
          go_loopw [16] (fun z wr => ∃ k : Nat, (k : Int) ≤ x2 ∧ z = .int .i64 k ∧ ∃ F, Hid (St w wr (.slice uA U.length uc) U (.slice (some ⟨g, 0, none⟩) FL.length fc) FL B F) ∧ Hid (∀ p : Nat, p < 600 → F p = (if covB U p then 1 else 0) + if (covB (FL.take i) p || (decide ((xa : Int) ≤ p) && decide ((p : Int) < (xa : Int) + (k : Int)))) then 2 else 0)) (fun z _ => x2.toNat - (intOf z).toNat)
          case atStart => exact ⟨0, by omega, rfl, F, HS2.out, fun p hp => by
            rw [HP.out p hp]
            have : (decide ((xa : Int) ≤ p) && decide ((p : Int) < (xa : Int) + (0 : Nat))) = false := by simp
            rw [this, Bool.or_false]⟩
          case round =>
            clear HP HS2 F
            obtain ⟨k, hk, rfl, F, HS, HP⟩ := hrel
            obtain ⟨g', hg, -, g1, g2, g3, -⟩ := HS.out.f.at i _ HX.out
            simp only [Option.some.injEq, Addr.mk.injEq] at hg g2 g3
            obtain ⟨rfl, -, -⟩ := hg
            by_cases hkx : (k : Int) < x2
            · have dk : decide ((k : Int) < x2) = true := by simpa using hkx
              obtain ⟨b1, b2, b3⟩ := HS.out.cell (xa + k) (by omega)
              have hnc := HNY.out ((xa + k : Nat) : Int) (by omega)
              have HM := Lib.hid (mark_two _ (fun p => covB (FL.take i) p) F xa k hnc HP.out)
              have hold : F (xa + k) = 0 ∨ F (xa + k) = 1 := by
                rw [HP.out (xa + k) (by omega), hnc]
                have h3 : decide (((xa + k : Nat) : Int) < (xa : Int) + (k : Int)) = false := decide_eq_false (by omega)
                rw [h3]
                rcases covB U ((xa + k : Nat) : Int) with _ | _ <;> simp
              obtain ⟨old, hold2⟩ : ∃ old, F (xa + k) = old := ⟨_, rfl⟩
              rw [hold2] at b1 hold
              have HOLD := Lib.hid hold2
              have w0 : IntKind.i64.wrap ((xa : Int) + (k : Int)) = (xa : Int) + (k : Int) := IntWalk.i64_in _ (by omega)
              have w2 : IntKind.i64.wrap (old + 2) = old + 2 := IntWalk.i64_in _ (by omega)
              have t1 : ((xa : Int) + (k : Int)).toNat = xa + k := by omega
              have t2 : (xa : Int) + (k : Int) < 600 := by omega
              have t3 : 0 ≤ (xa : Int) + (k : Int) := by omega
              clear hold hold2 hnc
              go_wp2_with fail
              refine wp_region_plain 20 160 mixed (by kernel_rfl) (by kernel_rfl) rfl (fun _ _ _ _ _ h => h) ?_
              simp only [List.take_succ_cons, List.take_zero, List.drop_succ_cons, List.drop_zero]
              repeat (first | (refine wpHead_skip rfl ?_) | (refine wpHead_run rfl rfl (fun K hK => ?_); go_simp; first | (refine hK _ ?_; clear hK K) | (apply Exists.intro; refine ⟨fun _ => ?_, hK _ ?_⟩; (fail); clear hK K)))
              refine wpHead_nil ?_
              intro zz x3
              clear zz
              have hon := HS.out.on (below_plus wr x3)
              have HN := Lib.hid (hon.put (xa + k) (F (xa + k) + 2))
              obtain ⟨b1, b2, b3⟩ := hon.cell (xa + k) (by omega)
              generalize plus wr x3 = V3 at HN b1 b2 b3 ⊢
              rw [HOLD.out] at HN b1
              clear hon
              go_wp2_with fail
              go_roundw
              case rel => exact ⟨k + 1, by omega, by go_num, _, HN.out, by have h := HM.out; rw [HOLD.out] at h; exact h⟩
              case measure => simp [intOf]; omega
            · have dk : decide ((k : Int) < x2) = false := by simpa using hkx
              go_wp2_with fail
              refine HKK2.out _ _ ?_
              clear HKK2
              obtain rfl : (k : Int) = x2 := by omega
              have s1 : IntKind.i64.wrap ((xa : Int) + (k : Int)) = (xa : Int) + (k : Int) := IntWalk.i64_in _ (by omega)
              have HS3 := Lib.hid (HS.out.on ((Below.refl _ wr).drew))
              go_wp2_with fail
              go_region_held3 (fun w' => w'.cell? ⟨g, i * 2, none⟩ = some (.int .i64 (xa : Int)) ∧ w'.cell? ⟨g, i * 2 + 1, none⟩ = some (.int .i64 (k : Int))) (go_keep) (fail)
              clear g1 g2 g3 s1
              go_wp2_with fail
              go_roundw
              case rel => exact ⟨i + 1, by omega, by go_num, by rw [HLE.out], F, HS3.out, fun p hp => by rw [HP.out p hp, HC.out]⟩
              case measure => simp [intOf]; omega
        · obtain rfl : i = FL.length := by omega
          have hd : decide ((FL.length : Int) < (FL.length : Int)) = false := by simp
          rw [List.take_length] at HP
          go_wp2_with fail
          refine HKK.out _ _ ?_
          clear HKK
          obtain ⟨le, hle⟩ : ∃ le, lastE FL FL.length = le := ⟨_, rfl⟩
          rw [hle]
          clear hle
          go_wp2_with fail
          rename_i K hK
          have HKK := Lib.hid hK
          clear hK
          go_loopw [17] (fun z wr => ∃ p : Nat, n ≤ p ∧ p ≤ n + m ∧ z = .int .i64 p ∧ Hid (St w wr (.slice uA U.length uc) U (.slice fA FL.length fc) FL B F)) (fun z _ => n + m - (intOf z).toNat)
          case atStart => exact ⟨n, by omega, by omega, rfl, HS.out⟩
          case round =>
            clear HS
            obtain ⟨p, hp1, hp2, rfl, HS⟩ := hrel
            by_cases hlt : p < n + m
            · have dp : decide ((p : Int) < (n : Int) + (m : Int)) = true := by simp; omega
              obtain ⟨b1, b2, b3⟩ := HS.out.cell p (by omega)
              have hF : F p = 1 ∨ F p = 2 := by
                have h1 := HLAW.out.parts (p : Int) (by omega) (by omega)
                rw [HP.out p (by omega)]
                rw [← covB_iff, ← covB_iff] at h1
                rcases hu : covB U (p : Int) with _ | _
                · rw [hu] at h1
                  have := h1.2 (by simp)
                  rw [this]
                  exact .inr rfl
                · rw [hu] at h1
                  have h2 : covB FL (p : Int) = false := by
                    rcases hf : covB FL (p : Int) with _ | _
                    · rfl
                    · exact absurd rfl (h1.1 hf)
                  rw [h2]
                  exact .inl rfl
              rcases hF with h1 | h1
              · rw [h1] at b1
                clear h1
                go_wp2_with fail
                go_roundw
                case rel => exact ⟨p + 1, by omega, by omega, by go_num, HS.out⟩
                case measure => simp [intOf]; omega
              · rw [h1] at b1
                clear h1
                go_wp2_with fail
                go_roundw
                case rel => exact ⟨p + 1, by omega, by omega, by go_num, HS.out⟩
                case measure => simp [intOf]; omega
            · obtain rfl : p = n + m := by omega
              have dp : decide (((n + m : Nat) : Int) < (n : Int) + (m : Int)) = false := by simp
              go_wp2_with fail
              refine HKK.out _ _ ?_
              clear HKK
              have hb := HS.out.u.below
              go_wp2_with fail
              refine (awake_any sorts_all _).mono ?_
              rintro _ V9 ⟨rfl, hy⟩
              have hb9 := hb.trans (hy.mono hb.size)
              clear hb hy
              go_wp2_with fail
              exact bodyPost_ret (v := .bool true) (by simp [results, Try.results3, go_sem]) rfl ⟨rfl, hb9⟩
end Go.Proofs.Ytbdiombbknmlaaa

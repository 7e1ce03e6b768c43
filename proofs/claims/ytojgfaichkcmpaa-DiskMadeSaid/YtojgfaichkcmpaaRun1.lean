/- The walk of run: the same is asked of both disks. -/
import Derived.Deep.RegionHeld3
import Derived.Deep.DeepCutAuto
import Derived.Deep.CutBlock
import Derived.Test.YtojgfaichkcmpaaRun0
import Derived.Test.YtojgfaichkcmpaaRef2
namespace Go.Proofs.Ytojgfaichkcmpaa
open Go.RowKit

set_option maxRecDepth 100000 in
set_option maxHeartbeats 4000000 in
theorem run_any (n : Nat) (v : Value) (l : List AskN) (w : World) (hl : AsksW w v l) (hlen : l.length ≤ 60) (h32 : 32 ≤ n) (h200 : n ≤ 200) : Ret Try.prog 19 #[.int .i64 (n : Int), v] w (.bool true) := by
  refine .of ?_
  obtain ⟨A, c, rfl⟩ := hl.form
  have HL := Lib.hid hl
  clear hl
  have d1 : decide ((n : Int) < 32) = false := by simp; omega
  have d2 : decide ((4096 : Int) < (n : Int)) = false := by simp; omega
  go_enter Try.func19, Try.ntmps19
  go_wp2_with fail
  refine (new_m n w _ (Below.refl _ _) h32 (by omega)).mono ?_
  rintro _ V1 ⟨p, f, rfl, hM, -, -, -⟩
  go_wp2_with fail
  refine (err_ret 0 _).below.mono ?_
  rintro _ V2 ⟨rfl, hx⟩
  replace hM := hM.on hx
  clear hx
  go_wp2_with fail
  refine (newR_any n V2 (by omega)).mono ?_
  rintro _ V3 ⟨q, fv, rfl, hR⟩
  have hB : Both w V3 p f (.slice none 0 0) (DS.new n) q fv (.slice none 0 0) (DS.new n) :=
    ⟨hM.on hR.below, ⟨hR.disk, hM.below.trans (hR.below.mono hM.below.size), Nat.le_trans hM.below.size hR.hq, fun k hk => Nat.le_trans hM.below.size (hR.hf k hk), fun k hk => by cases hk⟩, fun e => by have := hR.hf f e; have := hM.disk.lt.2; omega⟩
  have hS1 : (DS.new n).firm.length = n := newS_length n
  have hS2 : (DS.new n).loose.length = 0 := rfl
  clear hM hR
  generalize DS.new n = S0 at hB hS1 hS2
  go_wp2_with fail
  rename_i K hK
  have HKK := Lib.hid hK
  clear hK
  go_loopw [8] (fun z wr => ∃ i : Nat, i ≤ l.length ∧ z = .int .i64 i ∧ ∃ S lv nv, Hid (Both w wr p f lv S q fv nv S) ∧ S.firm.length = n ∧ S.loose.length ≤ i) (fun z _ => l.length - (intOf z).toNat)
  case atStart => exact ⟨0, by omega, rfl, _, _, _, hB, hS1, by omega⟩
  case round =>
    clear hB hS1 hS2
    obtain ⟨i, hi, rfl, S, lv, nv, HB, hS1, hS2⟩ := hrel
    have hB := HB.out
    clear HB
    by_cases hlt : i < l.length
    · have di : decide ((i : Int) < (l.length : Int)) = true := by simp; omega
      obtain ⟨x, hx⟩ : ∃ x, l[i]? = some x := ⟨_, List.getElem?_eq_getElem hlt⟩
      obtain ⟨b, o, rfl, hz, hn, hc⟩ := HL.out.spot i x hx
      obtain ⟨a0, a1, a2, a3, a4, a5⟩ := hc hB.a.below
      obtain ⟨⟨Az, cz, hlv⟩, -⟩ := hz.form
      rw [hlv] at a4 hz
      have HZ := Lib.hid hz
      clear hx hz hc hlv
      obtain ⟨xd, xa, xn, xs, xlv, zs⟩ := x
      simp only at a0 a1 a2 a3 a4 hn HZ
      go_upto_block 2 with fail
      have hX := new_at wr (.cells #[.int .i64 xd, .int .i64 xa, .int .i64 xn, strV xs, .slice Az zs.length cz] 62)
      replace hB := hB.on ((Below.refl _ wr).alloc (Nat.le_refl _) (.cells #[.int .i64 xd, .int .i64 xa, .int .i64 xn, strV xs, .slice Az zs.length cz] 62))
      obtain ⟨X, hXe⟩ : ∃ X, wr.heap.size = X := ⟨_, rfl⟩
      obtain ⟨W1, hW1⟩ : ∃ W1, wr.alloc (.cells #[.int .i64 xd, .int .i64 xa, .int .i64 xn, strV xs, .slice Az zs.length cz] 62) = W1 := ⟨_, rfl⟩
      rw [hXe, hW1] at hX
      rw [hW1] at hB
      simp only [hXe]
      rw [show wr.alloc (Obj.cells #[Value.int IntKind.i64 xd, Value.int IntKind.i64 xa, Value.int IntKind.i64 xn, Value.string ⟨xs.toArray⟩, Value.slice Az zs.length cz] 62) = W1 from hW1]
      clear hXe hW1 a0 a1 a2 a3 a4 a5
      obtain ⟨x0, x1, x2, x3, x4⟩ := cells5 hX
      have hB0 := hB.on ((Below.refl _ W1).drew)
      have hX0 := keeps_below hX ((Below.refl _ W1).drew)
      go_cut [] (fun wc => ∃ T lvT nvT, Hid (Both w wc p f lvT T q fv nvT T) ∧ T.firm.length = n ∧ T.loose.length ≤ i + 1 ∧ Hid (wc.heap[X]? = some (.cells #[.int .i64 xd, .int .i64 xa, .int .i64 xn, strV xs, .slice Az zs.length cz] 62)))
      case first =>
        by_cases e0 : xd = 0
        · subst e0
          obtain ⟨⟨T, cc⟩, hw⟩ : ∃ y, S.write xa xs = y := ⟨_, rfl⟩
          obtain ⟨m1, m2⟩ := write_more S xa xs
          rw [hw] at m1 m2
          go_wp2_with fail
          go_region_held3 (fun w' => w'.cell? ⟨X, 1, none⟩ = some (.int .i64 xa) ∧ w'.cell? ⟨X, 3, none⟩ = some (strV xs)) (first | go_keep | exact ⟨y1, y2⟩ | exact ⟨z1, z2⟩ | exact ⟨u1, u2⟩)
            (first
              | (go_at_call 11; refine (write_m hB0.a xa xs T cc hw (by omega)).mono ?_; rintro _ Va ⟨rfl, lvA, hmA, hcA⟩; have hXa := hcA.keeps hB0.a.disk hX0 (by decide) (by decide) (by decide); have hBa := hB0.atA hmA hcA; obtain ⟨-, y1, -, y2, -⟩ := cells5 hXa)
              | (go_at_call 10; refine (err_ret cc _).below.mono ?_; rintro _ Vb ⟨rfl, hxb⟩; have hBb := hBa.on hxb; have hXb := keeps_below hXa hxb; obtain ⟨-, z1, -, z2, -⟩ := cells5 hXb)
              | (go_at_call 29; refine (writeR_any hBb.r.disk xa xs (by omega)).mono ?_; rintro _ Vc ⟨hce, nvC, hrC, hcC⟩; rewrite [hw] at hce; rewrite [hw] at hrC; simp only at hce hrC; subst hce; have hXc := hcC.keeps hBb.r.disk hXb (by decide) (by decide) (by decide); have hBc := hBb.atR hrC hcC; obtain ⟨-, u1, -, u2, -⟩ := cells5 hXc))
          all_goals (
            go_wp2_with fail
            go_meet
            exact ⟨T, lvA, nvC, hBc, by omega, by omega, hXc⟩)
        · by_cases e1 : xd = 1
          · subst e1
            obtain ⟨⟨T, cc⟩, hw⟩ : ∃ y, S.flush = y := ⟨_, rfl⟩
            obtain ⟨m1, m2⟩ := flush_more S
            rw [hw] at m1 m2
            clear hB0 hX0
            go_wp2_with fail
            refine (flush_m hB.a T cc hw).mono ?_
            rintro _ Va ⟨rfl, lvA, hmA, hcA⟩
            have hXa := hcA.keeps hB.a.disk hX (by decide) (by decide) (by decide)
            have hBa := hB.atA hmA hcA
            clear hmA hcA x0 x1 x2 x3 x4
            go_wp2_with fail
            refine (err_ret cc _).below.mono ?_
            rintro _ Vb ⟨rfl, hxb⟩
            have hBb := hBa.on hxb
            have hXb := keeps_below hXa hxb
            clear hxb
            go_wp2_with fail
            refine (flushR_any hBb.r.disk).mono ?_
            rintro _ Vc ⟨hce, nvC, hrC, hcC⟩
            rewrite [hw] at hce
            rewrite [hw] at hrC
            simp only at hce hrC
            subst hce
            have hXc := hcC.keeps hBb.r.disk hXb (by decide) (by decide) (by decide)
            have hBc := hBb.atR hrC hcC
            clear hrC hcC hw
            go_wp2_with fail
            go_meet
            exact ⟨T, lvA, nvC, hBc, by omega, by omega, hXc⟩
          · by_cases e2 : xd = 2
            · subst e2
              clear hB0 hX0
              go_wp2_with fail
              refine (fuse_m hB.a xn hn).mono ?_
              rintro _ Va ⟨⟨r1, rfl⟩, hmA, hcA⟩
              have hXa := hcA.keeps hB.a.disk hX (by decide) (by decide) (by decide)
              have hBa := hB.atA hmA hcA
              clear hmA hcA x0 x1 x2 x3 x4
              obtain ⟨x0, x1, x2, x3, x4⟩ := cells5 hXa
              go_wp2_with fail
              refine (fuseR_any hBa.r.disk xn hn).mono ?_
              rintro _ Vc ⟨⟨r2, rfl⟩, hrC, hcC⟩
              have hXc := hcC.keeps hBa.r.disk hXa (by decide) (by decide) (by decide)
              have hBc := hBa.atR hrC hcC
              clear hrC hcC x0 x1 x2 x3 x4
              go_wp2_with fail
              go_meet
              exact ⟨_, _, _, hBc, hS1, by simp only; omega, hXc⟩
            · by_cases e3 : xd = 3
              · subst e3
                obtain ⟨m1, m2⟩ := crash_more S zs
                clear hB0 hX0
                go_wp2_with fail
                refine (crash_w hB.a _ zs HZ.out).mono ?_
                rintro _ Va ⟨⟨r1, rfl⟩, lvA, hmA, hcA⟩
                have hXa := hcA.keeps hB.a.disk hX (by decide) (by decide) (by decide)
                have hBa := hB.atA (hB.a.changed hcA hmA) hcA
                clear hmA hcA x0 x1 x2 x3 x4
                obtain ⟨x0, x1, x2, x3, x4⟩ := cells5 hXa
                go_wp2_with fail
                refine (crashR_any hBa.r.disk hBa.r.below _ zs HZ.out).mono ?_
                rintro _ Vc ⟨⟨r2, rfl⟩, nvC, hrC, hcC⟩
                have hXc := hcC.keeps hBa.r.disk hXa (by decide) (by decide) (by decide)
                have hBc := hBa.atR hrC hcC
                clear hrC hcC x0 x1 x2 x3 x4
                go_wp2_with fail
                go_meet
                exact ⟨_, _, _, hBc, by omega, by omega, hXc⟩
              · by_cases e4 : xd = 4
                · subst e4
                  obtain ⟨⟨T, cc⟩, hw⟩ : ∃ y, S.turned xa xn xn = y := ⟨_, rfl⟩
                  obtain ⟨m1, m2⟩ := turned_more S xa xn xn
                  rw [hw] at m1 m2
                  go_wp2_with fail
                  go_region_held3 (fun w' => w'.cell? ⟨X, 1, none⟩ = some (.int .i64 xa) ∧ w'.cell? ⟨X, 2, none⟩ = some (.int .i64 xn)) (first | go_keep | exact ⟨y1, y2⟩ | exact ⟨z1, z2⟩ | exact ⟨u1, u2⟩)
                    (first
                      | (go_at_call 21; refine (turn_m hB0.a xa xn xn T cc hw).mono ?_; rintro _ Va ⟨rfl, lvA, hmA, hcA⟩; have hXa := hcA.keeps hB0.a.disk hX0 (by decide) (by decide) (by decide); have hBa := hB0.atA hmA hcA; obtain ⟨-, y1, y2, -, -⟩ := cells5 hXa)
                      | (go_at_call 10; refine (err_ret cc _).below.mono ?_; rintro _ Vb ⟨rfl, hxb⟩; have hBb := hBa.on hxb; have hXb := keeps_below hXa hxb; obtain ⟨-, z1, z2, -, -⟩ := cells5 hXb)
                      | (go_at_call 33; refine (turnR_any hBb.r.disk xa xn xn).mono ?_; rintro _ Vc ⟨hce, nvC, hrC, hcC⟩; rewrite [hw] at hce; rewrite [hw] at hrC; simp only at hce hrC; subst hce; have hXc := hcC.keeps hBb.r.disk hXb (by decide) (by decide) (by decide); have hBc := hBb.atR hrC hcC; obtain ⟨-, u1, u2, -, -⟩ := cells5 hXc))
                  all_goals (
                    go_wp2_with fail
                    go_meet
                    exact ⟨T, lvA, nvC, hBc, by omega, by omega, hXc⟩)
                · have f0 : decide (xd = 0) = false := by simpa using e0
                  have f1 : decide (xd = 1) = false := by simpa using e1
                  have f2 : decide (xd = 2) = false := by simpa using e2
                  have f3 : decide (xd = 3) = false := by simpa using e3
                  have f4 : decide (xd = 4) = false := by simpa using e4
                  go_wp2_with fail
                  go_meet
                  exact ⟨S, lv, nv, hB, hS1, by omega, hX⟩
      case rest =>
        clear hB hB0 hX hX0 x0 x1 x2 x3 x4 hS1 hS2
        obtain ⟨T, lvT, nvT, HB, hT1, hT2, HX⟩ := hcut
        have hB := HB.out
        have hX := HX.out
        clear HB HX
        obtain ⟨x0, x1, x2, x3, x4⟩ := cells5 hX
        clear x0 x2 x3 x4
        obtain ⟨⟨s, cc⟩, hw⟩ : ∃ y, T.read xa = y := ⟨_, rfl⟩
        go_wp2_with fail
        refine (read_m hB.a xa s cc hw).mono ?_
        rintro _ Va ⟨rfl, hx, -⟩
        replace hB := hB.on hx
        replace hX := keeps_below hX hx
        clear hx x1
        obtain ⟨-, x1, -, -, -⟩ := cells5 hX
        go_wp2_with fail
        refine (readR_any hB.r.disk xa).mono ?_
        rintro _ Vb ⟨hce, hx⟩
        rewrite [hw] at hce
        simp only [textV] at hce
        subst hce
        replace hB := hB.on hx
        clear hx x1 hX hw
        go_upto_region 29 with fail
        have hY := new_at Vb (.cells #[strV s, .int .i64 cc] 66)
        replace hB := hB.on ((Below.refl _ Vb).alloc (Nat.le_refl _) (.cells #[strV s, .int .i64 cc] 66))
        obtain ⟨Y, hYe⟩ : ∃ Y, Vb.heap.size = Y := ⟨_, rfl⟩
        obtain ⟨W2, hW2⟩ : ∃ W2, Vb.alloc (.cells #[strV s, .int .i64 cc] 66) = W2 := ⟨_, rfl⟩
        rw [hYe, hW2] at hY
        rw [hW2] at hB
        simp only [hYe]
        rw [show Vb.alloc (Obj.cells #[Value.string ⟨s.toArray⟩, Value.int .i64 cc] 66) = W2 from hW2]
        clear hYe hW2
        obtain ⟨nA, nC, rfl⟩ := ownsRow_form hB.r.disk.hl
        have hB0 := hB.on ((Below.refl _ W2).drew)
        have hY0 := keeps_below hY ((Below.refl _ W2).drew)
        have hq0 := hB0.r.disk.cells.2.1
        obtain ⟨y1, y2⟩ : W2.drew.cell? ⟨Y, 0, none⟩ = some (strV s) ∧ W2.drew.cell? ⟨Y, 1, none⟩ = some (.int .i64 cc) := by constructor <;> simp [World.cell?, hY0]
        go_region_held3 (fun w' => w'.cell? ⟨Y, 0, none⟩ = some (strV s) ∧ w'.cell? ⟨Y, 1, none⟩ = some (.int .i64 cc) ∧ w'.cell? ⟨q, 1, none⟩ = some (.slice nA T.loose.length nC)) (first | exact ⟨y1, y2, hq0⟩ | exact ⟨z1, z2, z3⟩ | exact ⟨u1, u2, u3⟩ | exact ⟨t1, t2, t3⟩)
          (first
            | (go_at_call 10; refine (err_ret cc _).below.mono ?_; rintro _ Vc ⟨rfl, hxc⟩; have hBc := hB0.on hxc; have hYc := keeps_below hY0 hxc; have z3 := hBc.r.disk.cells.2.1; obtain ⟨z1, z2⟩ : Vc.cell? ⟨Y, 0, none⟩ = some (strV s) ∧ Vc.cell? ⟨Y, 1, none⟩ = some (.int .i64 cc) := by constructor <;> simp [World.cell?, hYc])
            | (go_at_call 18; refine (loose_ret hBc.a.disk).below.mono ?_; rintro _ Vd ⟨rfl, hxd⟩; have hBd := hBc.on hxd; have hYd := keeps_below hYc hxd; have u3 := hBd.r.disk.cells.2.1; obtain ⟨u1, u2⟩ : Vd.cell? ⟨Y, 0, none⟩ = some (strV s) ∧ Vd.cell? ⟨Y, 1, none⟩ = some (.int .i64 cc) := by constructor <;> simp [World.cell?, hYd])
            | (go_at_call 22; refine (len_ret hBd.a.disk).below.mono ?_; rintro _ Ve ⟨rfl, hxe⟩; have hBe := hBd.on hxe; have hYe := keeps_below hYd hxe; have t3 := hBe.r.disk.cells.2.1; obtain ⟨t1, t2⟩ : Ve.cell? ⟨Y, 0, none⟩ = some (strV s) ∧ Ve.cell? ⟨Y, 1, none⟩ = some (.int .i64 cc) := by constructor <;> simp [World.cell?, hYe]))
        have HBE := Lib.hid hBe
        clear hBe hB hB0 hBc hBd hY hY0 hYc hYd hYe hq0 y1 y2 z1 z2 z3 u1 u2 u3 t1 t2 t3 hxc hxd hxe
        go_wp2_with fail
        go_roundw
        case rel => exact ⟨i + 1, by omega, by go_num, T, lvT, _, HBE.out, hT1, hT2⟩
        case measure => simp [intOf]; omega
    · obtain rfl : i = l.length := by omega
      have di : decide ((l.length : Int) < (l.length : Int)) = false := by simp
      go_wp2_with fail
      refine HKK.out _ _ ?_
      clear HKK
      go_wp2_with fail
      rename_i K hK
      have HKK := Lib.hid hK
      clear hK
      go_loopw [13] (fun z wr => ∃ j : Nat, j ≤ n ∧ z = .int .i64 j ∧ Hid (Both w wr p f lv S q fv nv S)) (fun z _ => n - (intOf z).toNat)
      case atStart => exact ⟨0, by omega, rfl, hB⟩
      case round =>
        clear hB
        obtain ⟨j, hj, rfl, HB⟩ := hrel
        have hB := HB.out
        clear HB
        by_cases hlt : j < n
        · have dj : decide ((j : Int) < (n : Int)) = true := by simp; omega
          obtain ⟨⟨s, cc⟩, hw⟩ : ∃ y, S.read j = y := ⟨_, rfl⟩
          go_wp2_with fail
          refine (read_m hB.a j s cc hw).mono ?_
          rintro _ Va ⟨rfl, hx, -⟩
          replace hB := hB.on hx
          clear hx
          go_wp2_with fail
          refine (readR_any hB.r.disk j).mono ?_
          rintro _ Vb ⟨hce, hx⟩
          rewrite [hw] at hce
          simp only [textV] at hce
          subst hce
          replace hB := hB.on hx
          clear hx hw
          go_upto_region 36 with fail
          have hY := new_at Vb (.cells #[strV s, .int .i64 cc] 66)
          replace hB := hB.on ((Below.refl _ Vb).alloc (Nat.le_refl _) (.cells #[strV s, .int .i64 cc] 66))
          obtain ⟨Y, hYe⟩ : ∃ Y, Vb.heap.size = Y := ⟨_, rfl⟩
          obtain ⟨W2, hW2⟩ : ∃ W2, Vb.alloc (.cells #[strV s, .int .i64 cc] 66) = W2 := ⟨_, rfl⟩
          rw [hYe, hW2] at hY
          rw [hW2] at hB
          simp only [hYe]
          rw [show Vb.alloc (Obj.cells #[Value.string ⟨s.toArray⟩, Value.int .i64 cc] 66) = W2 from hW2]
          clear hYe hW2
          have hB0 := hB.on ((Below.refl _ W2).drew)
          have hY0 := keeps_below hY ((Below.refl _ W2).drew)
          obtain ⟨y1, y2⟩ : W2.drew.cell? ⟨Y, 0, none⟩ = some (strV s) ∧ W2.drew.cell? ⟨Y, 1, none⟩ = some (.int .i64 cc) := by constructor <;> simp [World.cell?, hY0]
          go_region_held3 (fun w' => w'.cell? ⟨Y, 0, none⟩ = some (strV s) ∧ w'.cell? ⟨Y, 1, none⟩ = some (.int .i64 cc)) (first | exact ⟨y1, y2⟩ | exact ⟨z1, z2⟩)
            (first
              | (go_at_call 10; refine (err_ret cc _).below.mono ?_; rintro _ Vc ⟨rfl, hxc⟩; have hBc := hB0.on hxc; have hYc := keeps_below hY0 hxc; obtain ⟨z1, z2⟩ : Vc.cell? ⟨Y, 0, none⟩ = some (strV s) ∧ Vc.cell? ⟨Y, 1, none⟩ = some (.int .i64 cc) := by constructor <;> simp [World.cell?, hYc]))
          have HBE := Lib.hid hBc
          clear hBc hB hB0 hY hY0 hYc y1 y2 z1 z2 hxc
          go_wp2_with fail
          go_roundw
          case rel => exact ⟨j + 1, by omega, by go_num, HBE.out⟩
          case measure => simp [intOf]; omega
        · obtain rfl : j = n := by omega
          have dj : decide ((j : Int) < (j : Int)) = false := by simp
          go_wp2_with fail
          refine HKK.out _ _ ?_
          clear HKK
          go_wp2_with fail
          exact bodyPost_ret (v := .bool true) (by simp [results, Try.results19, go_sem]) rfl ⟨rfl, hB.a.below⟩
end Go.Proofs.Ytojgfaichkcmpaa

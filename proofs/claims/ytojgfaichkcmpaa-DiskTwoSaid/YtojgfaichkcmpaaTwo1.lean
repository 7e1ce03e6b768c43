/- DiskTwo: the walk of the law's own function. -/
import Derived.Test.YtojgfaichkcmpaaApart
namespace Go.Proofs.Ytojgfaichkcmpaa
open Go.RowKit

def zF32 : List (List UInt8) := List.replicate 32 zeroS
def twT (l : List UInt8) (j : Nat) : List UInt8 := secN [l.getD j 0, UInt8.ofNat j, 1]
def twL (l : List UInt8) (i : Nat) : List (Nat × List UInt8) := (List.range i).map fun j => ((l.getD j 0).toNat % 32, twT l j)
def twS (l : List UInt8) (i : Nat) : DS := { calm zF32 with loose := twL l i }
theorem twL_length (l : List UInt8) (i : Nat) : (twL l i).length = i := by simp [twL]
theorem twS_zero (l : List UInt8) : twS l 0 = DS.new 32 := rfl
theorem tw_write (l : List UInt8) (i : Nat) : (twS l i).write (((l.getD i 0).toNat % 32 : Nat) : Int) (twT l i) = (twS l (i + 1), 0) := by
  unfold DS.write
  rw [if_neg (by simp [twS, calm]), if_neg (by simp [twS, calm, zF32, twT, secN_length]; omega), if_neg (by simp [twS, calm])]
  simp only [twS, twL, calm, List.range_succ, List.map_append, List.map_cons, List.map_nil, Int.toNat_natCast]
  rfl
def dbl (i : Nat) : List Int := (List.range i).flatMap fun (j : Nat) => [(j : Int), (j : Int)]
theorem dbl_succ (i : Nat) : dbl (i + 1) = dbl i ++ [(i : Int), (i : Int)] := by simp [dbl, List.range_succ]
theorem dbl_length (i : Nat) : (dbl i).length = 2 * i := by
  induction i with
  | zero => rfl
  | succ i ih => rw [dbl_succ, List.length_append, ih]; simp; omega
theorem dbl_has (i j : Nat) (h : j < i) : (dbl i).contains (j : Int) = true := by
  simp only [List.contains_iff_mem, dbl, List.mem_flatMap, List.mem_range]
  exact ⟨j, h, by simp⟩
def twF (l : List UInt8) (i : Nat) : List (List UInt8) := putAll zF32 (twL l i)
theorem twF_length (l : List UInt8) (i : Nat) : (twF l i).length = 32 := by rw [twF, putAll_length]; rfl
theorem tw_flush (l : List UInt8) (i : Nat) : (twS l i).flush = (calm (twF l i), 0) := flush_calm _ rfl rfl
theorem tw_crash (l : List UInt8) (i : Nat) : (twS l i).crash (dbl i) = calm (twF l i) := by
  rw [crash_calm, keptN_all _ _ _ (fun j hj => by
    rw [Nat.zero_add]
    exact dbl_has i j (by simpa [twS, twL] using hj))]
  rfl
theorem tw_lose (l : List UInt8) (i : Nat) (h : i ≤ 40) : (twS l i).crash [-1, 1000] = calm zF32 := by
  rw [crash_calm, keptN_none _ _ _ (fun j hj => by
    have : j < i := by simpa [twS, twL] using hj
    simp
    omega)]
  rfl
/-- Three disks of the call's own. -/
structure Three (w W : World) (p f : Nat) (lv : Value) (S : DS) (q g : Nat) (mv : Value) (T : DS) (r d : Nat) (nv : Value) (U : DS) : Prop where
  a : Mine w W p f lv S
  b : Mine w W q g mv T
  c : Mine w W r d nv U
  ab : Apart p f lv q g mv
  ac : Apart p f lv r d nv
  bc : Apart q g mv r d nv
section
variable {w W W' : World} {p f : Nat} {lv : Value} {S : DS} {q g : Nat} {mv : Value} {T : DS} {r d : Nat} {nv : Value} {U : DS}
theorem Three.on (h : Three w W p f lv S q g mv T r d nv U) (hb : Below W.heap.size W W') : Three w W' p f lv S q g mv T r d nv U := ⟨h.a.on hb, h.b.on hb, h.c.on hb, h.ab, h.ac, h.bc⟩
theorem Three.grown {v : Value} {l : List Int} {o : Obj} (h : Three w W p f lv S q g mv T r d nv U) (hr : rowI W w.heap.size v l) (hg : (W.alloc o).grownBy W' v.ownBlock) : Three w W' p f lv S q g mv T r d nv U := ⟨h.a.grown hr hg, h.b.grown hr hg, h.c.grown hr hg, h.ab, h.ac, h.bc⟩
theorem Three.atA {lv' : Value} {S' : DS} (h : Three w W p f lv S q g mv T r d nv U) (hm : Mine w W' p f lv' S') (hc : Changed W W' p f lv lv') : Three w W' p f lv' S' q g mv T r d nv U :=
  ⟨hm, (h.b.other h.a h.ab hc hm.below).1, (h.c.other h.a h.ac hc hm.below).1, (h.b.other h.a h.ab hc hm.below).2, (h.c.other h.a h.ac hc hm.below).2, h.bc⟩
theorem Three.atB {mv' : Value} {T' : DS} (h : Three w W p f lv S q g mv T r d nv U) (hm : Mine w W' q g mv' T') (hc : Changed W W' q g mv mv') : Three w W' p f lv S q g mv' T' r d nv U :=
  ⟨(h.a.other h.b h.ab.symm hc hm.below).1, hm, (h.c.other h.b h.bc hc hm.below).1, (h.a.other h.b h.ab.symm hc hm.below).2.symm, h.ac, (h.c.other h.b h.bc hc hm.below).2⟩
theorem Three.atC {nv' : Value} {U' : DS} (h : Three w W p f lv S q g mv T r d nv U) (hm : Mine w W' r d nv' U') (hc : Changed W W' r d nv nv') : Three w W' p f lv S q g mv T r d nv' U' :=
  ⟨(h.a.other h.c h.ac.symm hc hm.below).1, (h.b.other h.c h.bc.symm hc hm.below).1, hm, h.ab, (h.a.other h.c h.ac.symm hc hm.below).2.symm, (h.b.other h.c h.bc.symm hc hm.below).2.symm⟩
end
set_option maxRecDepth 100000 in
set_option maxHeartbeats 4000000 in
theorem diskTwo_any (v : Value) (l : List UInt8) (w : World) (hl : U8s w v l) : Ret Try.prog 5 #[v] w (.bool true) := by
  refine .of ?_
  obtain ⟨⟨A, c, rfl⟩, hlm⟩ := hl.form
  have hlm' : l.length ≤ 9223372036854775807 := by unfold maxLen at hlm; omega
  have HL := Lib.hid hl
  clear hl
  go_enter Try.func5, Try.ntmps5
  go_wp2_with fail
  refine (new_m 32 w _ (Below.refl _ _) (by omega) (by omega)).mono ?_
  rintro _ V ⟨p, f, rfl, hM, -, -, -⟩
  go_wp2_with fail
  refine (new_m 32 w _ hM.below (by omega) (by omega)).mono ?_
  rintro _ V2 ⟨q, g, rfl, hN, hq, hg, hb⟩
  have hNM := hM.fresh hq hg
  replace hM := hM.on hb
  clear hb hq hg
  go_wp2_with fail
  refine (new_m 32 w _ hN.below (by omega) (by omega)).mono ?_
  rintro _ V3 ⟨r, d, rfl, hO, hr, hd, hb⟩
  have hON := hN.fresh hr hd
  have hOM := hM.fresh hr hd
  replace hM := hM.on hb
  replace hN := hN.on hb
  clear hb hr hd
  go_wp2_with fail
  have h3 : Three w V3 p f (.slice none 0 0) (twS l 0) q g (.slice none 0 0) (twS l 0) r d (.slice none 0 0) (twS l 0) := ⟨hM, hN, hO, hNM.symm, hOM.symm, hON.symm⟩
  clear hM hN hO hNM hOM hON
  refine (err_ret 0 _).below.mono ?_
  rintro _ V ⟨rfl, hx⟩
  replace h3 := h3.on hx
  clear hx
  go_wp2_with fail
  refine (err_ret 0 _).below.mono ?_
  rintro _ V ⟨rfl, hx⟩
  replace h3 := h3.on hx
  clear hx
  go_wp2_with fail
  refine (err_ret 0 _).below.mono ?_
  rintro _ V ⟨rfl, hx⟩
  replace h3 := h3.on hx
  clear hx
  go_wp2_with fail
  go_loopw [9, 10] (fun u z wr => ∃ i : Nat, i ≤ l.length ∧ i ≤ 40 ∧ z = .int .i64 i ∧ ∃ lv mv nv, Hid (Three w wr p f lv (twS l i) q g mv (twS l i) r d nv (twS l i)) ∧ Hid (rowI wr w.heap.size u (dbl i))) (fun _ z _ => 40 - (intOf z).toNat)
  case atStart => exact ⟨0, by omega, by omega, rfl, _, _, _, h3, rowI_nil _ _⟩
  case round =>
    clear h3
    obtain ⟨i, hi, hi40, rfl, lv, mv, nv, H3, HR⟩ := hrel
    by_cases hlt : i < l.length ∧ i < 40
    · have d1 : decide ((i : Int) < (l.length : Int)) = true := by simp; omega
      have d2 : decide ((i : Int) < 40) = true := by simp; omega
      obtain ⟨h1, h2⟩ := hlt
      have h3 := H3.out
      have hrow := HR.out
      clear H3 HR
      obtain ⟨y, hy⟩ : ∃ y, l.getD i 0 = y := ⟨_, rfl⟩
      obtain ⟨x, hx⟩ : ∃ x, y.toNat % 32 = x := ⟨_, rfl⟩
      have hx' : (wrap64 (y.toNat : Int)).tmod 32 = (x : Int) := by
        have hy256 := y.toNat_lt
        rw [show wrap64 (y.toNat : Int) = (y.toNat : Int) by unfold wrap64; omega, Int.tmod_eq_emod_of_nonneg (by omega)]
        omega
      have hw := tw_write l i
      have ht : twT l i = secN [y, UInt8.ofNat i, 1] := by unfold twT; rw [hy]
      rw [hy, hx, ht] at hw
      obtain ⟨s, hs⟩ : ∃ s, secN [y, UInt8.ofNat i, 1] = s := ⟨_, rfl⟩
      rw [hs] at hw
      have HS := Lib.hid hs
      clear ht hs
      obtain ⟨b0, o0, c0, hv, hcell, hh⟩ := HL.out.at h3.a.below i h1
      rw [hy] at hcell
      obtain ⟨rfl, -, rfl⟩ := by simpa only [Value.slice.injEq] using hv
      have hc : ∀ {X : World}, Below w.heap.size w X → X.cell? ⟨b0, o0 + i, none⟩ = some (.int .u8 (y.toNat : Int)) ∧ has X b0 := by
        intro X hX
        obtain ⟨b1, o1, c1, hv1, hc1, hh1⟩ := HL.out.at hX i h1
        obtain ⟨he, -, -⟩ := by simpa only [Value.slice.injEq] using hv1
        simp only [Option.some.injEq, Addr.mk.injEq] at he
        obtain ⟨rfl, rfl, -⟩ := he
        rw [hy] at hc1
        exact ⟨hc1, hh1⟩
      clear hv hy hx
      have hb := new_at wr (.cells #[.int .u8 (y.toNat : Int), .int .u8 (i : Int), .int .u8 1] 5)
      have hconv := block_str (wr.alloc (.cells #[.int .u8 (y.toNat : Int), .int .u8 (i : Int), .int .u8 1] 5)) wr.heap.size 3 3 [y, UInt8.ofNat i, 1] rfl (fr := (0, 0)) (by
        rw [hb]
        simp only [u8s, List.map_cons, List.map_nil]
        rw [show ((UInt8.ofNat i).toNat : Int) = (i : Int) by simp; omega]
        rfl)
      clear hb
      have hwi : IntKind.u8.wrap (i : Int) = (i : Int) := by rw [IntKind.wrap_u8]; omega
      go_wp2_with fail
      refine (sector_any [y, UInt8.ofNat i, 1] _).mono ?_
      rintro _ V ⟨rfl, hx⟩
      rw [HS.out]
      clear hconv
      have hx2 : Below wr.heap.size wr V := ((Below.refl _ _).alloc (Nat.le_refl _) _).trans (hx.mono (by simp))
      replace h3 := h3.on hx2
      replace hrow := rowI_kept hrow hx2
      clear hx hx2
      obtain ⟨hcell, hh⟩ := hc h3.a.below
      go_wp2_with fail
      refine (write_m h3.a x s _ 0 hw (by simp [twS, twL_length]; omega)).mono ?_
      rintro _ V ⟨rfl, lv', hm, hch⟩
      replace hrow := rowI_changed hrow h3.a.disk hch
      replace h3 := h3.atA hm hch
      clear hm hch hcell hh
      go_wp2_with fail
      refine (err_ret 0 _).below.mono ?_
      rintro _ V ⟨rfl, hx⟩
      replace h3 := h3.on hx
      replace hrow := rowI_kept hrow hx
      clear hx
      obtain ⟨hcell, hh⟩ := hc h3.a.below
      go_wp2_with fail
      refine (write_m h3.b x s _ 0 hw (by simp [twS, twL_length]; omega)).mono ?_
      rintro _ V ⟨rfl, lv', hm, hch⟩
      replace hrow := rowI_changed hrow h3.b.disk hch
      replace h3 := h3.atB hm hch
      clear hm hch hcell hh
      go_wp2_with fail
      refine (err_ret 0 _).below.mono ?_
      rintro _ V ⟨rfl, hx⟩
      replace h3 := h3.on hx
      replace hrow := rowI_kept hrow hx
      clear hx
      obtain ⟨hcell, hh⟩ := hc h3.a.below
      go_wp2_with fail
      refine (write_m h3.c x s _ 0 hw (by simp [twS, twL_length]; omega)).mono ?_
      rintro _ V ⟨rfl, lv', hm, hch⟩
      replace hrow := rowI_changed hrow h3.c.disk hch
      replace h3 := h3.atC hm hch
      clear hm hch hcell hh
      go_wp2_with fail
      refine (err_ret 0 _).below.mono ?_
      rintro _ V ⟨rfl, hx⟩
      replace h3 := h3.on hx
      replace hrow := rowI_kept hrow hx
      clear hx
      go_wp2_with (at_builtin; refine wpList_appendG rfl _ _ rfl w.heap.size u9 (dbl i) [(i : Int), (i : Int)] rfl hrow _ 2 2 rfl rfl rfl (by rw [dbl_length]; omega) h3.a.below.size ?_; intro v' w1 hrow1 hg1; have HR1 := Lib.hid hrow1; have H31 := Lib.hid (h3.grown hrow hg1); clear hrow1 hg1)
      go_roundw
      case rel => exact ⟨i + 1, by omega, by omega, by go_num, _, _, _, H31.out, by rw [dbl_succ]; exact HR1.out⟩
      case measure => simp [intOf]; omega
    · have h3 := H3.out
      have hrow := HR.out
      clear H3 HR
      have hle := hi40
      rcases Nat.lt_or_ge i l.length with hc1 | hc1
      · have d1 : decide ((i : Int) < (l.length : Int)) = true := by simp; omega
        have d2 : decide ((i : Int) < 40) = false := by simp; omega
        go_wp2_with fail
        refine (flush_m h3.a (calm (twF l i)) 0 (tw_flush l i)).mono ?_
        rintro _ V ⟨rfl, lv', hm, hch⟩
        replace hrow := rowI_changed hrow h3.a.disk hch
        replace h3 := h3.atA hm hch
        clear hm hch
        go_wp2_with fail
        refine (crash_m h3.b _ (dbl i) (rowI_ints hrow (by rw [dbl_length]; omega))).mono ?_
        rintro _ V ⟨⟨_, rfl⟩, lv', hm, hch⟩
        replace h3 := h3.atB hm hch
        rw [tw_crash] at h3
        clear hm hch hrow
        go_wp2_with fail
        have hi2 : Ints (V.alloc (.cells #[.int .i64 (-1), .int .i64 1000] 3)) (.slice (some ⟨V.heap.size, 0, none⟩) 2 2) [-1, 1000] := .inr ⟨_, _, _, _, rfl, new_at V _, by decide, fun j hj => by
          have : j = 0 ∨ j = 1 := by simp at hj; omega
          rcases this with rfl | rfl <;> rfl⟩
        replace h3 := h3.on ((Below.refl _ _).alloc (Nat.le_refl _) (.cells #[.int .i64 (-1), .int .i64 1000] 3))
        refine (crash_m h3.c _ [-1, 1000] hi2).mono ?_
        rintro _ V ⟨⟨_, rfl⟩, lv', hm, hch⟩
        replace h3 := h3.atC hm hch
        rw [tw_lose l i hle] at h3
        clear hm hch hi2
        go_wp2_with fail
        obtain ⟨F, hF⟩ : ∃ F, twF l i = F := ⟨_, rfl⟩
        have hFl := twF_length l i
        rw [hF] at h3 hFl
        clear hF
        go_loopw [12] (fun z wr => ∃ j : Nat, j ≤ 32 ∧ z = .int .i64 j ∧ Hid (∃ lv mv nv, Three w wr p f lv (calm F) q g mv (calm F) r d nv (calm zF32))) (fun z _ => 32 - (intOf z).toNat)
        case atStart => exact ⟨0, by omega, rfl, _, _, _, h3⟩
        case round =>
          clear h3
          obtain ⟨j, hj, rfl, H3⟩ := hrel
          obtain ⟨lv, mv, nv, h3⟩ := H3.out
          clear H3
          by_cases hlt : j < 32
          · have dj : decide ((j : Int) < 32) = true := by simp; omega
            obtain ⟨s, hs⟩ : ∃ s, F.getD j [] = s := ⟨_, rfl⟩
            go_wp2_with fail
            refine (read_m h3.a j s 0 ((calm_read F j (by omega)).trans (by rw [hs]))).mono ?_
            rintro _ V ⟨rfl, hx, -⟩
            replace h3 := h3.on hx
            clear hx
            go_wp2_with fail
            refine (read_m h3.b j s 0 ((calm_read F j (by omega)).trans (by rw [hs]))).mono ?_
            rintro _ V ⟨rfl, hx, -⟩
            replace h3 := h3.on hx
            clear hx
            go_wp2_with fail
            refine (read_m h3.c j zeroS 0 ((calm_read zF32 j (by simpa [zF32] using hlt)).trans (by rw [zF32, zero_at 32 j hlt]))).mono ?_
            rintro _ V ⟨rfl, hx, -⟩
            replace h3 := h3.on hx
            clear hx
            go_wp2_with fail
            refine (sector_ret [] _).below.mono ?_
            rintro _ V ⟨rfl, hx⟩
            replace h3 := h3.on hx
            clear hx
            rw [secN_nil]
            go_wp2_with fail
            have H3 := Lib.hid h3
            go_roundw
            case rel => exact ⟨j + 1, by omega, by go_num, _, _, _, H3.out⟩
            case measure => simp [intOf]; omega
          · obtain rfl : j = 32 := by omega
            go_wp2_with fail
            refine (loose_ret h3.a.disk).below.mono ?_
            rintro _ V ⟨rfl, hx⟩
            replace h3 := h3.on hx
            clear hx
            rw [show ((calm F).loose.length : Int) = 0 from rfl]
            go_wp2_with fail
            refine (loose_ret h3.b.disk).below.mono ?_
            rintro _ V ⟨rfl, hx⟩
            replace h3 := h3.on hx
            clear hx
            rw [show ((calm F).loose.length : Int) = 0 from rfl]
            go_wp2_with fail
            refine (loose_ret h3.c.disk).below.mono ?_
            rintro _ V ⟨rfl, hx⟩
            replace h3 := h3.on hx
            clear hx
            rw [show ((calm zF32).loose.length : Int) = 0 from rfl]
            go_wp2_with fail
            refine (awake_any _).below.mono ?_
            rintro _ V ⟨rfl, hx⟩
            replace h3 := h3.on hx
            clear hx
            go_wp2_with fail
            exact bodyPost_ret (v := .bool true) (by simp [results, Try.results5, go_sem]) rfl ⟨rfl, h3.a.below⟩
      · have d1 : decide ((i : Int) < (l.length : Int)) = false := by simp; omega
        go_wp2_with fail
        refine (flush_m h3.a (calm (twF l i)) 0 (tw_flush l i)).mono ?_
        rintro _ V ⟨rfl, lv', hm, hch⟩
        replace hrow := rowI_changed hrow h3.a.disk hch
        replace h3 := h3.atA hm hch
        clear hm hch
        go_wp2_with fail
        refine (crash_m h3.b _ (dbl i) (rowI_ints hrow (by rw [dbl_length]; omega))).mono ?_
        rintro _ V ⟨⟨_, rfl⟩, lv', hm, hch⟩
        replace h3 := h3.atB hm hch
        rw [tw_crash] at h3
        clear hm hch hrow
        go_wp2_with fail
        have hi2 : Ints (V.alloc (.cells #[.int .i64 (-1), .int .i64 1000] 3)) (.slice (some ⟨V.heap.size, 0, none⟩) 2 2) [-1, 1000] := .inr ⟨_, _, _, _, rfl, new_at V _, by decide, fun j hj => by
          have : j = 0 ∨ j = 1 := by simp at hj; omega
          rcases this with rfl | rfl <;> rfl⟩
        replace h3 := h3.on ((Below.refl _ _).alloc (Nat.le_refl _) (.cells #[.int .i64 (-1), .int .i64 1000] 3))
        refine (crash_m h3.c _ [-1, 1000] hi2).mono ?_
        rintro _ V ⟨⟨_, rfl⟩, lv', hm, hch⟩
        replace h3 := h3.atC hm hch
        rw [tw_lose l i hle] at h3
        clear hm hch hi2
        go_wp2_with fail
        obtain ⟨F, hF⟩ : ∃ F, twF l i = F := ⟨_, rfl⟩
        have hFl := twF_length l i
        rw [hF] at h3 hFl
        clear hF
        go_loopw [12] (fun z wr => ∃ j : Nat, j ≤ 32 ∧ z = .int .i64 j ∧ Hid (∃ lv mv nv, Three w wr p f lv (calm F) q g mv (calm F) r d nv (calm zF32))) (fun z _ => 32 - (intOf z).toNat)
        case atStart => exact ⟨0, by omega, rfl, _, _, _, h3⟩
        case round =>
          clear h3
          obtain ⟨j, hj, rfl, H3⟩ := hrel
          obtain ⟨lv, mv, nv, h3⟩ := H3.out
          clear H3
          by_cases hlt : j < 32
          · have dj : decide ((j : Int) < 32) = true := by simp; omega
            obtain ⟨s, hs⟩ : ∃ s, F.getD j [] = s := ⟨_, rfl⟩
            go_wp2_with fail
            refine (read_m h3.a j s 0 ((calm_read F j (by omega)).trans (by rw [hs]))).mono ?_
            rintro _ V ⟨rfl, hx, -⟩
            replace h3 := h3.on hx
            clear hx
            go_wp2_with fail
            refine (read_m h3.b j s 0 ((calm_read F j (by omega)).trans (by rw [hs]))).mono ?_
            rintro _ V ⟨rfl, hx, -⟩
            replace h3 := h3.on hx
            clear hx
            go_wp2_with fail
            refine (read_m h3.c j zeroS 0 ((calm_read zF32 j (by simpa [zF32] using hlt)).trans (by rw [zF32, zero_at 32 j hlt]))).mono ?_
            rintro _ V ⟨rfl, hx, -⟩
            replace h3 := h3.on hx
            clear hx
            go_wp2_with fail
            refine (sector_ret [] _).below.mono ?_
            rintro _ V ⟨rfl, hx⟩
            replace h3 := h3.on hx
            clear hx
            rw [secN_nil]
            go_wp2_with fail
            have H3 := Lib.hid h3
            go_roundw
            case rel => exact ⟨j + 1, by omega, by go_num, _, _, _, H3.out⟩
            case measure => simp [intOf]; omega
          · obtain rfl : j = 32 := by omega
            go_wp2_with fail
            refine (loose_ret h3.a.disk).below.mono ?_
            rintro _ V ⟨rfl, hx⟩
            replace h3 := h3.on hx
            clear hx
            rw [show ((calm F).loose.length : Int) = 0 from rfl]
            go_wp2_with fail
            refine (loose_ret h3.b.disk).below.mono ?_
            rintro _ V ⟨rfl, hx⟩
            replace h3 := h3.on hx
            clear hx
            rw [show ((calm F).loose.length : Int) = 0 from rfl]
            go_wp2_with fail
            refine (loose_ret h3.c.disk).below.mono ?_
            rintro _ V ⟨rfl, hx⟩
            replace h3 := h3.on hx
            clear hx
            rw [show ((calm zF32).loose.length : Int) = 0 from rfl]
            go_wp2_with fail
            refine (awake_any _).below.mono ?_
            rintro _ V ⟨rfl, hx⟩
            replace h3 := h3.on hx
            clear hx
            go_wp2_with fail
            exact bodyPost_ret (v := .bool true) (by simp [results, Try.results5, go_sem]) rfl ⟨rfl, h3.a.below⟩
end Go.Proofs.Ytojgfaichkcmpaa

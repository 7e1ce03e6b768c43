/- Walks: NarKnown. -/
import Derived.Test.YtmlefodnbbkilaaLaw0
namespace Go.Proofs.Ytmlefodnbbkilaa
open Go.RowKit

theorem pack_exec (d : Bs) (hd : d.length ≤ 65536) : packL [([], 2, d)] = (packN (.exec d), 0) := by
  have hm : mayN [([], 2, d)] = true := by
    have := may_of_tree (.exec d) (by simpa only [okT] using hd) (by simp [nodesT])
    simpa only [nodesT] using this
  obtain ⟨t, ok, ht, -, hp⟩ := packL_tree hm
  rw [hp]
  cases t with
  | exec e => simp only [nodesT, List.cons.injEq, Prod.mk.injEq, and_true, true_and] at ht; rw [ht]
  | file e => simp [nodesT] at ht
  | link e => simp [nodesT] at ht
  | dir e => simp [nodesT] at ht
theorem pack_link (d : Bs) (h1 : d ≠ []) (h2 : d.length ≤ 4096) (h3 : d.contains 0 = false) : packL [([], 3, d)] = (packN (.link d), 0) := by
  have hm : mayN [([], 3, d)] = true := by
    have := may_of_tree (.link d) (by simp only [okT]; exact ⟨h1, h2, h3⟩) (by simp [nodesT])
    simpa only [nodesT] using this
  obtain ⟨t, ok, ht, -, hp⟩ := packL_tree hm
  rw [hp]
  cases t with
  | link e => simp only [nodesT, List.cons.injEq, Prod.mk.injEq, and_true, true_and] at ht; rw [ht]
  | file e => simp [nodesT] at ht
  | exec e => simp [nodesT] at ht
  | dir e => simp [nodesT] at ht
theorem nodesF_nil {p : Bs} {f : Fo} (h : nodesF p f = []) : f = .nil := by
  cases f with
  | nil => rfl
  | cons nm t f =>
    exfalso
    obtain ⟨k, d, r, e⟩ := nodesT_head t (joinP p nm)
    rw [nodesF, e] at h
    cases h
theorem pack_empty : packL [([], 4, [])] = (packN (.dir .nil), 0) := by
  have hm : mayN [([], 4, [])] = true := by
    have := may_of_tree (.dir .nil) (by simp only [okT, okF]) (by simp [nodesT, nodesF])
    simpa only [nodesT, nodesF] using this
  obtain ⟨t, ok, ht, -, hp⟩ := packL_tree hm
  rw [hp]
  cases t with
  | dir f =>
    simp only [nodesT, List.cons.injEq, true_and] at ht
    rw [nodesF_nil ht.symm]
  | file e => simp [nodesT] at ht
  | exec e => simp [nodesT] at ht
  | link e => simp [nodesT] at ht
/-- One node of a row. -/
theorem nin_sub {W : World} {b off n c c' k : Nat} {l : List Nd} {x : Nd} (h : NIn W (.slice (some ⟨b, off, none⟩) n c) l) (hx : l[k]? = some x) (hc : 1 ≤ c') : NIn W (.slice (some ⟨b, off + k * 3, none⟩) 1 c') [x] := by
  obtain ⟨b', off', h1, h2, h3⟩ := h.at k x hx
  simp only [Option.some.injEq, Addr.mk.injEq, and_true] at h1
  obtain ⟨rfl, rfl⟩ := h1
  refine .inr ⟨b, off + k * 3, c', rfl, hc, h2, fun j y hj i hi => ?_⟩
  cases j with
  | zero =>
    simp only [List.getElem?_cons_zero, Option.some.injEq] at hj
    subst hj
    simpa using h3 i hi
  | succ j => simp at hj
/-- A call that puts one text, on a world behind another. -/
abbrev StrC (s x : Bs) : Prop := ∀ W V, Hid (Below W.heap.size W V) → Calls Try.prog 17 #[.string ⟨s.toArray⟩] V fun e w' => e = .returned (strV x) ∧ Hid (Below W.heap.size W w')
theorem strC (s : Bs) (h : s.length ≤ 1000) : StrC s (strN s) := fun W V hV => by
  refine (str_any s V (by omega)).mono ?_
  rintro _ V2 ⟨rfl, hb⟩
  exact ⟨rfl, Lib.hid (hV.out.trans (hb.mono hV.out.size))⟩
set_option maxRecDepth 100000 in
set_option maxHeartbeats 2000000 in
theorem narKnown_any (which : Nat) (data : Bs) (W : World) (hw : which < 256) : Calls Try.prog 5 #[.int .u8 (which : Int), strV data] W fun e w' => e = .returned (.bool true) ∧ Below W.heap.size W w' := by
  have HAW := Lib.hid awake_any
  have HERR := Lib.hid err_any
  by_cases h200 : 200 < data.length
  · have hd : decide ((200 : Int) < (data.length : Int)) = true := by simp; omega
    go_enter Try.func5, Try.ntmps5
    go_wp2_with fail
    refine (HAW.out _).mono ?_
    rintro _ V ⟨rfl, hb⟩
    have HB := Lib.hid hb
    clear hb
    go_wp2_with fail
    exact bodyPost_ret (v := .bool true) (by simp [results, Try.results5, go_sem]) rfl ⟨rfl, HB.out⟩
  · have hd : decide ((200 : Int) < (data.length : Int)) = false := by simp; omega
    have hdl : data.length ≤ 200 := by omega
    have c1 := strC sMark (by simp)
    have c2 := strC sOpen (by simp)
    have c3 := strC sType (by simp)
    have c4 := strC sRegular (by simp)
    have c5 := strC sContents (by simp)
    have c6 := strC data (by omega)
    have c7 := strC sExecutable (by simp)
    have c8 := strC [] (by simp)
    have c9 := strC sSymlink (by simp)
    have c10 := strC sTarget (by simp)
    have c11 := strC [116, 111] (by simp)
    have c12 := strC sDirectory (by simp)
    have c13 := strC sShut (by simp)
    have p1 : packN (.file data) = ((((((strN sMark ++ strN sOpen) ++ strN sType) ++ strN sRegular) ++ strN sContents) ++ strN data)) ++ strN sShut := by simp [packN, packT, strsN]
    have p2 : packN (.exec data) = ((((((((strN sMark ++ strN sOpen) ++ strN sType) ++ strN sRegular) ++ strN sExecutable) ++ strN []) ++ strN sContents) ++ strN data)) ++ strN sShut := by simp [packN, packT, strsN]
    have p3 : packN (.link [116, 111]) = ((((((strN sMark ++ strN sOpen) ++ strN sType) ++ strN sSymlink) ++ strN sTarget) ++ strN [116, 111])) ++ strN sShut := by simp [packN, packT, strsN]
    have p4 : packN (.dir .nil) = ((((strN sMark ++ strN sOpen) ++ strN sType) ++ strN sDirectory)) ++ strN sShut := by simp [packN, packT, packF, strsN]
    have l1 : (strN sMark).length = 24 := by simp [strN_len]
    have l2 : (strN sOpen).length = 16 := by simp [strN_len]
    have l3 : (strN sType).length = 16 := by simp [strN_len]
    have l4 : (strN sRegular).length = 16 := by simp [strN_len]
    have l5 : (strN sContents).length = 16 := by simp [strN_len]
    have l6 : (strN data).length ≤ 216 := by rw [strN_len]; omega
    have l7 : (strN sExecutable).length = 24 := by simp [strN_len]
    have l8 : (strN []).length = 8 := by simp [strN_len]
    have l9 : (strN sSymlink).length = 16 := by simp [strN_len]
    have l10 : (strN sTarget).length = 16 := by simp [strN_len]
    have l11 : (strN [116, 111]).length = 16 := by simp [strN_len]
    have l12 : (strN sDirectory).length = 24 := by simp [strN_len]
    have l13 : (strN sShut).length = 16 := by simp [strN_len]
    generalize strN sMark = x1 at *
    generalize strN sOpen = x2 at *
    generalize strN sType = x3 at *
    generalize strN sRegular = x4 at *
    generalize strN sContents = x5 at *
    generalize strN data = x6 at *
    generalize strN sExecutable = x7 at *
    generalize strN [] = x8 at *
    generalize strN sSymlink = x9 at *
    generalize strN sTarget = x10 at *
    generalize strN [116, 111] = x11 at *
    generalize strN sDirectory = x12 at *
    generalize strN sShut = x13 at *
    have HP := Lib.hid (And.intro p1 (And.intro p2 (And.intro p3 p4)))
    clear p1 p2 p3 p4
    have C1 := Lib.hid c1
    have C2 := Lib.hid c2
    have C3 := Lib.hid c3
    have C4 := Lib.hid c4
    have C5 := Lib.hid c5
    have C6 := Lib.hid c6
    have C7 := Lib.hid c7
    have C8 := Lib.hid c8
    have C9 := Lib.hid c9
    have C10 := Lib.hid c10
    have C11 := Lib.hid c11
    have C12 := Lib.hid c12
    have C13 := Lib.hid c13
    clear c1 c2 c3 c4 c5 c6 c7 c8 c9 c10 c11 c12 c13
    have HB0 : Hid (Below W.heap.size W W) := Lib.hid (Below.refl _ _)
    have hk4 : which % 4 = 0 ∨ which % 4 = 1 ∨ which % 4 = 2 ∨ which % 4 = 3 := by omega
    rcases hk4 with hk4 | hk4 | hk4 | hk4
    · have hr : ((which : Int)).tmod 4 = 0 := by rw [Int.tmod_eq_emod_of_nonneg (by omega)]; omega
      clear hk4
      go_enter Try.func5, Try.ntmps5
      go_upto_region 4 with (first
        | (with_reducible refine (C1.out _ _ (by assumption)).mono ?_; rintro _ V ⟨rfl, HBV⟩)
        | (with_reducible refine (C2.out _ _ (by assumption)).mono ?_; rintro _ V ⟨rfl, HBV⟩)
        | (with_reducible refine (C3.out _ _ (by assumption)).mono ?_; rintro _ V ⟨rfl, HBV⟩)
        | (with_reducible refine (C4.out _ _ (by assumption)).mono ?_; rintro _ V ⟨rfl, HBV⟩)
        | (with_reducible refine (C5.out _ _ (by assumption)).mono ?_; rintro _ V ⟨rfl, HBV⟩)
        | (with_reducible refine (C6.out _ _ (by assumption)).mono ?_; rintro _ V ⟨rfl, HBV⟩)
        | (with_reducible refine (C7.out _ _ (by assumption)).mono ?_; rintro _ V ⟨rfl, HBV⟩)
        | (with_reducible refine (C8.out _ _ (by assumption)).mono ?_; rintro _ V ⟨rfl, HBV⟩)
        | (with_reducible refine (C9.out _ _ (by assumption)).mono ?_; rintro _ V ⟨rfl, HBV⟩)
        | (with_reducible refine (C10.out _ _ (by assumption)).mono ?_; rintro _ V ⟨rfl, HBV⟩)
        | (with_reducible refine (C11.out _ _ (by assumption)).mono ?_; rintro _ V ⟨rfl, HBV⟩)
        | (with_reducible refine (C12.out _ _ (by assumption)).mono ?_; rintro _ V ⟨rfl, HBV⟩)
        | (with_reducible refine (C13.out _ _ (by assumption)).mono ?_; rintro _ V ⟨rfl, HBV⟩))
      go_upto_region 5 with fail
      have hnr := nin_new V [([], 1, data), ([], 2, data), ([], 3, [116, 111]), ([], 4, [])] #[strV [], .int .i64 1, strV data, strV [], .int .i64 2, strV data, strV [], .int .i64 3, strV [116, 111], strV [], .int .i64 4, strV []] rfl
      have hva : Below V.heap.size V (V.alloc (.cells #[strV [], .int .i64 1, strV data, strV [], .int .i64 2, strV data, strV [], .int .i64 3, strV [116, 111], strV [], .int .i64 4, strV []] 37)) := (Below.refl _ V).alloc (Nat.le_refl _) _
      obtain ⟨VA, hVA⟩ : ∃ VA, V.alloc (.cells #[strV [], .int .i64 1, strV data, strV [], .int .i64 2, strV data, strV [], .int .i64 3, strV [116, 111], strV [], .int .i64 4, strV []] 37) = VA := ⟨_, rfl⟩
      rw [hVA] at hnr hva ⊢
      obtain ⟨nb, hnb⟩ : ∃ nb, V.heap.size = nb := ⟨_, rfl⟩
      have hwa := HBV.out.trans (hva.mono HBV.out.size)
      rw [hnb] at hnr ⊢
      have HNR := Lib.hid hnr
      have HWA := Lib.hid (And.intro hwa trivial)
      clear hnr hva hVA hnb hwa HBV
      have HBV : Hid (Below VA.heap.size VA VA) := Lib.hid (Below.refl _ _)
      go_upto_region 6 with (first
        | (with_reducible refine (C1.out _ _ (by assumption)).mono ?_; rintro _ V ⟨rfl, HBV⟩)
        | (with_reducible refine (C2.out _ _ (by assumption)).mono ?_; rintro _ V ⟨rfl, HBV⟩)
        | (with_reducible refine (C3.out _ _ (by assumption)).mono ?_; rintro _ V ⟨rfl, HBV⟩)
        | (with_reducible refine (C4.out _ _ (by assumption)).mono ?_; rintro _ V ⟨rfl, HBV⟩)
        | (with_reducible refine (C5.out _ _ (by assumption)).mono ?_; rintro _ V ⟨rfl, HBV⟩)
        | (with_reducible refine (C6.out _ _ (by assumption)).mono ?_; rintro _ V ⟨rfl, HBV⟩)
        | (with_reducible refine (C7.out _ _ (by assumption)).mono ?_; rintro _ V ⟨rfl, HBV⟩)
        | (with_reducible refine (C8.out _ _ (by assumption)).mono ?_; rintro _ V ⟨rfl, HBV⟩)
        | (with_reducible refine (C9.out _ _ (by assumption)).mono ?_; rintro _ V ⟨rfl, HBV⟩)
        | (with_reducible refine (C10.out _ _ (by assumption)).mono ?_; rintro _ V ⟨rfl, HBV⟩)
        | (with_reducible refine (C11.out _ _ (by assumption)).mono ?_; rintro _ V ⟨rfl, HBV⟩)
        | (with_reducible refine (C12.out _ _ (by assumption)).mono ?_; rintro _ V ⟨rfl, HBV⟩)
        | (with_reducible refine (C13.out _ _ (by assumption)).mono ?_; rintro _ V ⟨rfl, HBV⟩))
      obtain ⟨VB, hVB⟩ : ∃ VB, V.alloc (.cells #[strV (x1 ++ (x2 ++ (x3 ++ (x4 ++ (x5 ++ x6))))), strV (x1 ++ (x2 ++ (x3 ++ (x4 ++ (x7 ++ (x8 ++ (x5 ++ x6))))))), strV (x1 ++ (x2 ++ (x3 ++ (x9 ++ (x10 ++ x11))))), strV (x1 ++ (x2 ++ (x3 ++ x12)))] 9) = VB := ⟨_, rfl⟩
      have hrow : VB.heap[V.heap.size]? = some (.cells #[strV (x1 ++ (x2 ++ (x3 ++ (x4 ++ (x5 ++ x6))))), strV (x1 ++ (x2 ++ (x3 ++ (x4 ++ (x7 ++ (x8 ++ (x5 ++ x6))))))), strV (x1 ++ (x2 ++ (x3 ++ (x9 ++ (x10 ++ x11))))), strV (x1 ++ (x2 ++ (x3 ++ x12)))] 9) := by rw [← hVB]; exact new_at V _
      have hvb : Below V.heap.size V VB := by rw [← hVB]; exact (Below.refl _ V).alloc (Nat.le_refl _) _
      rw [hVB]
      have hab := HBV.out.trans (hvb.mono HBV.out.size)
      have hpk := pack_any cont_all (nin_sub (k := 0) (c' := 4 - 0) (HNR.out.on hab) rfl (by omega)) (by simp) (by simp)
      rw [pack_file data (by omega)] at hpk
      obtain ⟨pk, hpke⟩ : ∃ pk, packN (.file data) = pk := ⟨_, rfl⟩
      have hpe := HP.out.1
      rw [hpke] at hpk hpe
      dsimp only at hpk
      obtain ⟨rb, hrb⟩ : ∃ rb, V.heap.size = rb := ⟨_, rfl⟩
      rw [hrb] at hrow ⊢
      have HPK := Lib.hid hpk
      have HPE := Lib.hid hpe
      have HROW := Lib.hid hrow
      have HAB := Lib.hid (And.intro hab trivial)
      clear hpk hpe hrow hvb hVB hab hpke hrb
      go_wp2_with fail
      refine HPK.out.mono ?_
      rintro _ V2 ⟨rfl, hb2⟩
      have hrow2 := keeps_below HROW.out hb2
      have hrb2 : rb < V2.heap.size := has_box hrow2
      obtain ⟨wk, hwk⟩ : ∃ wk, x1 ++ (x2 ++ (x3 ++ (x4 ++ (x5 ++ x6)))) = wk := ⟨_, rfl⟩
      have q1 : V2.cell? ⟨rb, 0, none⟩ = some (strV wk) := by rw [← hwk]; simp [World.cell?, hrow2]
      have q2 : has V2 rb := hrb2
      have hwl : wk.length ≤ 1000 := by rw [← hwk]; simp only [List.length_append]; omega
      have hq : (pk == wk ++ x13) = true := by
        rw [HPE.out, ← hwk]
        simp
      have HB2 := Lib.hid (And.intro (HAB.out.1.trans (hb2.mono HAB.out.1.size)) trivial)
      have HSH : Hid (∀ V : World, Calls Try.prog 17 #[.string ⟨#[41]⟩] V fun e w' => e = .returned (strV x13) ∧ Below V.heap.size V w') := Lib.hid fun V => (C13.out V V (Lib.hid (Below.refl _ _))).mono fun e w' h => ⟨h.1, h.2.out⟩
      have HZ : Hid (∀ V3 : World, Below V2.drew.heap.size V2.drew V3 → V3.cell? ⟨rb, 0, none⟩ = some (strV wk) ∧ has V3 rb) := Lib.hid fun V3 hb => ⟨(cell_below (W := V2.drew) (a := ⟨rb, 0, none⟩) hb hrb2).trans q1, Nat.lt_of_lt_of_le hrb2 hb.size⟩
      have HZ2 : Hid (∀ V3 V4 : World, V3.cell? ⟨rb, 0, none⟩ = some (strV wk) → has V3 rb → Below V3.heap.size V3 V4 → V4.cell? ⟨rb, 0, none⟩ = some (strV wk)) := Lib.hid fun V3 V4 h1 h2 hb => (cell_below (W := V3) (a := ⟨rb, 0, none⟩) hb h2).trans h1
      have hs1 : (9223372036854775807 < wk.length + 16) = False := by simp; omega
      have hs2 : ¬ (9223372036854775807 < wk.length + x13.length) := by omega
      clear hrow2 hb2 hwk HPE HPK HROW HAB HBV l1 l2 l3 l4 l5 l6 l7 l8 l9 l10 l11 l12
      go_wp2_with fail
      go_region_held3 (fun w' => w'.cell? ⟨rb, 0, none⟩ = some (strV wk)) (first | exact z3 | exact z1 | exact q1 | go_keep)
        (first
          | (go_at_call 14; with_reducible refine (HERR.out _ _).mono ?_; rintro _ _ ⟨rfl, rfl⟩)
          | (go_at_call 10; with_reducible refine (HAW.out _).mono ?_; rintro _ V4 ⟨rfl, hb4⟩; have z3 := HZ2.out _ _ z1 z2 hb4)
          | (go_at_call 17; with_reducible refine (HSH.out _).mono ?_; rintro _ V3 ⟨rfl, hb3⟩; have z1 := (HZ.out _ hb3).1; have z2 := (HZ.out _ hb3).2))
      have HF : Hid (Below W.heap.size W V4) := Lib.hid (by
        have e1 := HWA.out.1.trans (HB2.out.1.mono HWA.out.1.size)
        have e2 : Below V2.heap.size V2 V3 := (Below.refl V2.heap.size V2).drew.trans hb3
        exact (e1.trans (e2.mono e1.size)).trans (hb4.mono (Nat.le_trans e1.size e2.size)))
      clear hb3 hb4 z1 z2 z3 q1 q2
      go_wp2_with fail
      exact bodyPost_ret (v := .bool true) (by simp [results, Try.results5, go_sem]) rfl ⟨rfl, HF.out⟩
    · have hr : ((which : Int)).tmod 4 = 1 := by rw [Int.tmod_eq_emod_of_nonneg (by omega)]; omega
      clear hk4
      go_enter Try.func5, Try.ntmps5
      go_upto_region 4 with (first
        | (with_reducible refine (C1.out _ _ (by assumption)).mono ?_; rintro _ V ⟨rfl, HBV⟩)
        | (with_reducible refine (C2.out _ _ (by assumption)).mono ?_; rintro _ V ⟨rfl, HBV⟩)
        | (with_reducible refine (C3.out _ _ (by assumption)).mono ?_; rintro _ V ⟨rfl, HBV⟩)
        | (with_reducible refine (C4.out _ _ (by assumption)).mono ?_; rintro _ V ⟨rfl, HBV⟩)
        | (with_reducible refine (C5.out _ _ (by assumption)).mono ?_; rintro _ V ⟨rfl, HBV⟩)
        | (with_reducible refine (C6.out _ _ (by assumption)).mono ?_; rintro _ V ⟨rfl, HBV⟩)
        | (with_reducible refine (C7.out _ _ (by assumption)).mono ?_; rintro _ V ⟨rfl, HBV⟩)
        | (with_reducible refine (C8.out _ _ (by assumption)).mono ?_; rintro _ V ⟨rfl, HBV⟩)
        | (with_reducible refine (C9.out _ _ (by assumption)).mono ?_; rintro _ V ⟨rfl, HBV⟩)
        | (with_reducible refine (C10.out _ _ (by assumption)).mono ?_; rintro _ V ⟨rfl, HBV⟩)
        | (with_reducible refine (C11.out _ _ (by assumption)).mono ?_; rintro _ V ⟨rfl, HBV⟩)
        | (with_reducible refine (C12.out _ _ (by assumption)).mono ?_; rintro _ V ⟨rfl, HBV⟩)
        | (with_reducible refine (C13.out _ _ (by assumption)).mono ?_; rintro _ V ⟨rfl, HBV⟩))
      go_upto_region 5 with fail
      have hnr := nin_new V [([], 1, data), ([], 2, data), ([], 3, [116, 111]), ([], 4, [])] #[strV [], .int .i64 1, strV data, strV [], .int .i64 2, strV data, strV [], .int .i64 3, strV [116, 111], strV [], .int .i64 4, strV []] rfl
      have hva : Below V.heap.size V (V.alloc (.cells #[strV [], .int .i64 1, strV data, strV [], .int .i64 2, strV data, strV [], .int .i64 3, strV [116, 111], strV [], .int .i64 4, strV []] 37)) := (Below.refl _ V).alloc (Nat.le_refl _) _
      obtain ⟨VA, hVA⟩ : ∃ VA, V.alloc (.cells #[strV [], .int .i64 1, strV data, strV [], .int .i64 2, strV data, strV [], .int .i64 3, strV [116, 111], strV [], .int .i64 4, strV []] 37) = VA := ⟨_, rfl⟩
      rw [hVA] at hnr hva ⊢
      obtain ⟨nb, hnb⟩ : ∃ nb, V.heap.size = nb := ⟨_, rfl⟩
      have hwa := HBV.out.trans (hva.mono HBV.out.size)
      rw [hnb] at hnr ⊢
      have HNR := Lib.hid hnr
      have HWA := Lib.hid (And.intro hwa trivial)
      clear hnr hva hVA hnb hwa HBV
      have HBV : Hid (Below VA.heap.size VA VA) := Lib.hid (Below.refl _ _)
      go_upto_region 6 with (first
        | (with_reducible refine (C1.out _ _ (by assumption)).mono ?_; rintro _ V ⟨rfl, HBV⟩)
        | (with_reducible refine (C2.out _ _ (by assumption)).mono ?_; rintro _ V ⟨rfl, HBV⟩)
        | (with_reducible refine (C3.out _ _ (by assumption)).mono ?_; rintro _ V ⟨rfl, HBV⟩)
        | (with_reducible refine (C4.out _ _ (by assumption)).mono ?_; rintro _ V ⟨rfl, HBV⟩)
        | (with_reducible refine (C5.out _ _ (by assumption)).mono ?_; rintro _ V ⟨rfl, HBV⟩)
        | (with_reducible refine (C6.out _ _ (by assumption)).mono ?_; rintro _ V ⟨rfl, HBV⟩)
        | (with_reducible refine (C7.out _ _ (by assumption)).mono ?_; rintro _ V ⟨rfl, HBV⟩)
        | (with_reducible refine (C8.out _ _ (by assumption)).mono ?_; rintro _ V ⟨rfl, HBV⟩)
        | (with_reducible refine (C9.out _ _ (by assumption)).mono ?_; rintro _ V ⟨rfl, HBV⟩)
        | (with_reducible refine (C10.out _ _ (by assumption)).mono ?_; rintro _ V ⟨rfl, HBV⟩)
        | (with_reducible refine (C11.out _ _ (by assumption)).mono ?_; rintro _ V ⟨rfl, HBV⟩)
        | (with_reducible refine (C12.out _ _ (by assumption)).mono ?_; rintro _ V ⟨rfl, HBV⟩)
        | (with_reducible refine (C13.out _ _ (by assumption)).mono ?_; rintro _ V ⟨rfl, HBV⟩))
      obtain ⟨VB, hVB⟩ : ∃ VB, V.alloc (.cells #[strV (x1 ++ (x2 ++ (x3 ++ (x4 ++ (x5 ++ x6))))), strV (x1 ++ (x2 ++ (x3 ++ (x4 ++ (x7 ++ (x8 ++ (x5 ++ x6))))))), strV (x1 ++ (x2 ++ (x3 ++ (x9 ++ (x10 ++ x11))))), strV (x1 ++ (x2 ++ (x3 ++ x12)))] 9) = VB := ⟨_, rfl⟩
      have hrow : VB.heap[V.heap.size]? = some (.cells #[strV (x1 ++ (x2 ++ (x3 ++ (x4 ++ (x5 ++ x6))))), strV (x1 ++ (x2 ++ (x3 ++ (x4 ++ (x7 ++ (x8 ++ (x5 ++ x6))))))), strV (x1 ++ (x2 ++ (x3 ++ (x9 ++ (x10 ++ x11))))), strV (x1 ++ (x2 ++ (x3 ++ x12)))] 9) := by rw [← hVB]; exact new_at V _
      have hvb : Below V.heap.size V VB := by rw [← hVB]; exact (Below.refl _ V).alloc (Nat.le_refl _) _
      rw [hVB]
      have hab := HBV.out.trans (hvb.mono HBV.out.size)
      have hpk := pack_any cont_all (nin_sub (k := 1) (c' := 4 - 1) (HNR.out.on hab) rfl (by omega)) (by simp) (by simp)
      rw [pack_exec data (by omega)] at hpk
      obtain ⟨pk, hpke⟩ : ∃ pk, packN (.exec data) = pk := ⟨_, rfl⟩
      have hpe := HP.out.2.1
      rw [hpke] at hpk hpe
      dsimp only at hpk
      obtain ⟨rb, hrb⟩ : ∃ rb, V.heap.size = rb := ⟨_, rfl⟩
      rw [hrb] at hrow ⊢
      have HPK := Lib.hid hpk
      have HPE := Lib.hid hpe
      have HROW := Lib.hid hrow
      have HAB := Lib.hid (And.intro hab trivial)
      clear hpk hpe hrow hvb hVB hab hpke hrb
      go_wp2_with fail
      refine HPK.out.mono ?_
      rintro _ V2 ⟨rfl, hb2⟩
      have hrow2 := keeps_below HROW.out hb2
      have hrb2 : rb < V2.heap.size := has_box hrow2
      obtain ⟨wk, hwk⟩ : ∃ wk, x1 ++ (x2 ++ (x3 ++ (x4 ++ (x7 ++ (x8 ++ (x5 ++ x6)))))) = wk := ⟨_, rfl⟩
      have q1 : V2.cell? ⟨rb, 1, none⟩ = some (strV wk) := by rw [← hwk]; simp [World.cell?, hrow2]
      have q2 : has V2 rb := hrb2
      have hwl : wk.length ≤ 1000 := by rw [← hwk]; simp only [List.length_append]; omega
      have hq : (pk == wk ++ x13) = true := by
        rw [HPE.out, ← hwk]
        simp
      have HB2 := Lib.hid (And.intro (HAB.out.1.trans (hb2.mono HAB.out.1.size)) trivial)
      have HSH : Hid (∀ V : World, Calls Try.prog 17 #[.string ⟨#[41]⟩] V fun e w' => e = .returned (strV x13) ∧ Below V.heap.size V w') := Lib.hid fun V => (C13.out V V (Lib.hid (Below.refl _ _))).mono fun e w' h => ⟨h.1, h.2.out⟩
      have HZ : Hid (∀ V3 : World, Below V2.drew.heap.size V2.drew V3 → V3.cell? ⟨rb, 1, none⟩ = some (strV wk) ∧ has V3 rb) := Lib.hid fun V3 hb => ⟨(cell_below (W := V2.drew) (a := ⟨rb, 1, none⟩) hb hrb2).trans q1, Nat.lt_of_lt_of_le hrb2 hb.size⟩
      have HZ2 : Hid (∀ V3 V4 : World, V3.cell? ⟨rb, 1, none⟩ = some (strV wk) → has V3 rb → Below V3.heap.size V3 V4 → V4.cell? ⟨rb, 1, none⟩ = some (strV wk)) := Lib.hid fun V3 V4 h1 h2 hb => (cell_below (W := V3) (a := ⟨rb, 1, none⟩) hb h2).trans h1
      have hs1 : (9223372036854775807 < wk.length + 16) = False := by simp; omega
      have hs2 : ¬ (9223372036854775807 < wk.length + x13.length) := by omega
      clear hrow2 hb2 hwk HPE HPK HROW HAB HBV l1 l2 l3 l4 l5 l6 l7 l8 l9 l10 l11 l12
      go_wp2_with fail
      go_region_held3 (fun w' => w'.cell? ⟨rb, 1, none⟩ = some (strV wk)) (first | exact z3 | exact z1 | exact q1 | go_keep)
        (first
          | (go_at_call 14; with_reducible refine (HERR.out _ _).mono ?_; rintro _ _ ⟨rfl, rfl⟩)
          | (go_at_call 10; with_reducible refine (HAW.out _).mono ?_; rintro _ V4 ⟨rfl, hb4⟩; have z3 := HZ2.out _ _ z1 z2 hb4)
          | (go_at_call 17; with_reducible refine (HSH.out _).mono ?_; rintro _ V3 ⟨rfl, hb3⟩; have z1 := (HZ.out _ hb3).1; have z2 := (HZ.out _ hb3).2))
      have HF : Hid (Below W.heap.size W V4) := Lib.hid (by
        have e1 := HWA.out.1.trans (HB2.out.1.mono HWA.out.1.size)
        have e2 : Below V2.heap.size V2 V3 := (Below.refl V2.heap.size V2).drew.trans hb3
        exact (e1.trans (e2.mono e1.size)).trans (hb4.mono (Nat.le_trans e1.size e2.size)))
      clear hb3 hb4 z1 z2 z3 q1 q2
      go_wp2_with fail
      exact bodyPost_ret (v := .bool true) (by simp [results, Try.results5, go_sem]) rfl ⟨rfl, HF.out⟩
    · have hr : ((which : Int)).tmod 4 = 2 := by rw [Int.tmod_eq_emod_of_nonneg (by omega)]; omega
      clear hk4
      go_enter Try.func5, Try.ntmps5
      go_upto_region 4 with (first
        | (with_reducible refine (C1.out _ _ (by assumption)).mono ?_; rintro _ V ⟨rfl, HBV⟩)
        | (with_reducible refine (C2.out _ _ (by assumption)).mono ?_; rintro _ V ⟨rfl, HBV⟩)
        | (with_reducible refine (C3.out _ _ (by assumption)).mono ?_; rintro _ V ⟨rfl, HBV⟩)
        | (with_reducible refine (C4.out _ _ (by assumption)).mono ?_; rintro _ V ⟨rfl, HBV⟩)
        | (with_reducible refine (C5.out _ _ (by assumption)).mono ?_; rintro _ V ⟨rfl, HBV⟩)
        | (with_reducible refine (C6.out _ _ (by assumption)).mono ?_; rintro _ V ⟨rfl, HBV⟩)
        | (with_reducible refine (C7.out _ _ (by assumption)).mono ?_; rintro _ V ⟨rfl, HBV⟩)
        | (with_reducible refine (C8.out _ _ (by assumption)).mono ?_; rintro _ V ⟨rfl, HBV⟩)
        | (with_reducible refine (C9.out _ _ (by assumption)).mono ?_; rintro _ V ⟨rfl, HBV⟩)
        | (with_reducible refine (C10.out _ _ (by assumption)).mono ?_; rintro _ V ⟨rfl, HBV⟩)
        | (with_reducible refine (C11.out _ _ (by assumption)).mono ?_; rintro _ V ⟨rfl, HBV⟩)
        | (with_reducible refine (C12.out _ _ (by assumption)).mono ?_; rintro _ V ⟨rfl, HBV⟩)
        | (with_reducible refine (C13.out _ _ (by assumption)).mono ?_; rintro _ V ⟨rfl, HBV⟩))
      go_upto_region 5 with fail
      have hnr := nin_new V [([], 1, data), ([], 2, data), ([], 3, [116, 111]), ([], 4, [])] #[strV [], .int .i64 1, strV data, strV [], .int .i64 2, strV data, strV [], .int .i64 3, strV [116, 111], strV [], .int .i64 4, strV []] rfl
      have hva : Below V.heap.size V (V.alloc (.cells #[strV [], .int .i64 1, strV data, strV [], .int .i64 2, strV data, strV [], .int .i64 3, strV [116, 111], strV [], .int .i64 4, strV []] 37)) := (Below.refl _ V).alloc (Nat.le_refl _) _
      obtain ⟨VA, hVA⟩ : ∃ VA, V.alloc (.cells #[strV [], .int .i64 1, strV data, strV [], .int .i64 2, strV data, strV [], .int .i64 3, strV [116, 111], strV [], .int .i64 4, strV []] 37) = VA := ⟨_, rfl⟩
      rw [hVA] at hnr hva ⊢
      obtain ⟨nb, hnb⟩ : ∃ nb, V.heap.size = nb := ⟨_, rfl⟩
      have hwa := HBV.out.trans (hva.mono HBV.out.size)
      rw [hnb] at hnr ⊢
      have HNR := Lib.hid hnr
      have HWA := Lib.hid (And.intro hwa trivial)
      clear hnr hva hVA hnb hwa HBV
      have HBV : Hid (Below VA.heap.size VA VA) := Lib.hid (Below.refl _ _)
      go_upto_region 6 with (first
        | (with_reducible refine (C1.out _ _ (by assumption)).mono ?_; rintro _ V ⟨rfl, HBV⟩)
        | (with_reducible refine (C2.out _ _ (by assumption)).mono ?_; rintro _ V ⟨rfl, HBV⟩)
        | (with_reducible refine (C3.out _ _ (by assumption)).mono ?_; rintro _ V ⟨rfl, HBV⟩)
        | (with_reducible refine (C4.out _ _ (by assumption)).mono ?_; rintro _ V ⟨rfl, HBV⟩)
        | (with_reducible refine (C5.out _ _ (by assumption)).mono ?_; rintro _ V ⟨rfl, HBV⟩)
        | (with_reducible refine (C6.out _ _ (by assumption)).mono ?_; rintro _ V ⟨rfl, HBV⟩)
        | (with_reducible refine (C7.out _ _ (by assumption)).mono ?_; rintro _ V ⟨rfl, HBV⟩)
        | (with_reducible refine (C8.out _ _ (by assumption)).mono ?_; rintro _ V ⟨rfl, HBV⟩)
        | (with_reducible refine (C9.out _ _ (by assumption)).mono ?_; rintro _ V ⟨rfl, HBV⟩)
        | (with_reducible refine (C10.out _ _ (by assumption)).mono ?_; rintro _ V ⟨rfl, HBV⟩)
        | (with_reducible refine (C11.out _ _ (by assumption)).mono ?_; rintro _ V ⟨rfl, HBV⟩)
        | (with_reducible refine (C12.out _ _ (by assumption)).mono ?_; rintro _ V ⟨rfl, HBV⟩)
        | (with_reducible refine (C13.out _ _ (by assumption)).mono ?_; rintro _ V ⟨rfl, HBV⟩))
      obtain ⟨VB, hVB⟩ : ∃ VB, V.alloc (.cells #[strV (x1 ++ (x2 ++ (x3 ++ (x4 ++ (x5 ++ x6))))), strV (x1 ++ (x2 ++ (x3 ++ (x4 ++ (x7 ++ (x8 ++ (x5 ++ x6))))))), strV (x1 ++ (x2 ++ (x3 ++ (x9 ++ (x10 ++ x11))))), strV (x1 ++ (x2 ++ (x3 ++ x12)))] 9) = VB := ⟨_, rfl⟩
      have hrow : VB.heap[V.heap.size]? = some (.cells #[strV (x1 ++ (x2 ++ (x3 ++ (x4 ++ (x5 ++ x6))))), strV (x1 ++ (x2 ++ (x3 ++ (x4 ++ (x7 ++ (x8 ++ (x5 ++ x6))))))), strV (x1 ++ (x2 ++ (x3 ++ (x9 ++ (x10 ++ x11))))), strV (x1 ++ (x2 ++ (x3 ++ x12)))] 9) := by rw [← hVB]; exact new_at V _
      have hvb : Below V.heap.size V VB := by rw [← hVB]; exact (Below.refl _ V).alloc (Nat.le_refl _) _
      rw [hVB]
      have hab := HBV.out.trans (hvb.mono HBV.out.size)
      have hpk := pack_any cont_all (nin_sub (k := 2) (c' := 4 - 2) (HNR.out.on hab) rfl (by omega)) (by simp) (by simp)
      rw [pack_link [116, 111] (by simp) (by simp) (by decide)] at hpk
      obtain ⟨pk, hpke⟩ : ∃ pk, packN (.link [116, 111]) = pk := ⟨_, rfl⟩
      have hpe := HP.out.2.2.1
      rw [hpke] at hpk hpe
      dsimp only at hpk
      obtain ⟨rb, hrb⟩ : ∃ rb, V.heap.size = rb := ⟨_, rfl⟩
      rw [hrb] at hrow ⊢
      have HPK := Lib.hid hpk
      have HPE := Lib.hid hpe
      have HROW := Lib.hid hrow
      have HAB := Lib.hid (And.intro hab trivial)
      clear hpk hpe hrow hvb hVB hab hpke hrb
      go_wp2_with fail
      refine HPK.out.mono ?_
      rintro _ V2 ⟨rfl, hb2⟩
      have hrow2 := keeps_below HROW.out hb2
      have hrb2 : rb < V2.heap.size := has_box hrow2
      obtain ⟨wk, hwk⟩ : ∃ wk, x1 ++ (x2 ++ (x3 ++ (x9 ++ (x10 ++ x11)))) = wk := ⟨_, rfl⟩
      have q1 : V2.cell? ⟨rb, 2, none⟩ = some (strV wk) := by rw [← hwk]; simp [World.cell?, hrow2]
      have q2 : has V2 rb := hrb2
      have hwl : wk.length ≤ 1000 := by rw [← hwk]; simp only [List.length_append]; omega
      have hq : (pk == wk ++ x13) = true := by
        rw [HPE.out, ← hwk]
        simp
      have HB2 := Lib.hid (And.intro (HAB.out.1.trans (hb2.mono HAB.out.1.size)) trivial)
      have HSH : Hid (∀ V : World, Calls Try.prog 17 #[.string ⟨#[41]⟩] V fun e w' => e = .returned (strV x13) ∧ Below V.heap.size V w') := Lib.hid fun V => (C13.out V V (Lib.hid (Below.refl _ _))).mono fun e w' h => ⟨h.1, h.2.out⟩
      have HZ : Hid (∀ V3 : World, Below V2.drew.heap.size V2.drew V3 → V3.cell? ⟨rb, 2, none⟩ = some (strV wk) ∧ has V3 rb) := Lib.hid fun V3 hb => ⟨(cell_below (W := V2.drew) (a := ⟨rb, 2, none⟩) hb hrb2).trans q1, Nat.lt_of_lt_of_le hrb2 hb.size⟩
      have HZ2 : Hid (∀ V3 V4 : World, V3.cell? ⟨rb, 2, none⟩ = some (strV wk) → has V3 rb → Below V3.heap.size V3 V4 → V4.cell? ⟨rb, 2, none⟩ = some (strV wk)) := Lib.hid fun V3 V4 h1 h2 hb => (cell_below (W := V3) (a := ⟨rb, 2, none⟩) hb h2).trans h1
      have hs1 : (9223372036854775807 < wk.length + 16) = False := by simp; omega
      have hs2 : ¬ (9223372036854775807 < wk.length + x13.length) := by omega
      clear hrow2 hb2 hwk HPE HPK HROW HAB HBV l1 l2 l3 l4 l5 l6 l7 l8 l9 l10 l11 l12
      go_wp2_with fail
      go_region_held3 (fun w' => w'.cell? ⟨rb, 2, none⟩ = some (strV wk)) (first | exact z3 | exact z1 | exact q1 | go_keep)
        (first
          | (go_at_call 14; with_reducible refine (HERR.out _ _).mono ?_; rintro _ _ ⟨rfl, rfl⟩)
          | (go_at_call 10; with_reducible refine (HAW.out _).mono ?_; rintro _ V4 ⟨rfl, hb4⟩; have z3 := HZ2.out _ _ z1 z2 hb4)
          | (go_at_call 17; with_reducible refine (HSH.out _).mono ?_; rintro _ V3 ⟨rfl, hb3⟩; have z1 := (HZ.out _ hb3).1; have z2 := (HZ.out _ hb3).2))
      have HF : Hid (Below W.heap.size W V4) := Lib.hid (by
        have e1 := HWA.out.1.trans (HB2.out.1.mono HWA.out.1.size)
        have e2 : Below V2.heap.size V2 V3 := (Below.refl V2.heap.size V2).drew.trans hb3
        exact (e1.trans (e2.mono e1.size)).trans (hb4.mono (Nat.le_trans e1.size e2.size)))
      clear hb3 hb4 z1 z2 z3 q1 q2
      go_wp2_with fail
      exact bodyPost_ret (v := .bool true) (by simp [results, Try.results5, go_sem]) rfl ⟨rfl, HF.out⟩
    · have hr : ((which : Int)).tmod 4 = 3 := by rw [Int.tmod_eq_emod_of_nonneg (by omega)]; omega
      clear hk4
      go_enter Try.func5, Try.ntmps5
      go_upto_region 4 with (first
        | (with_reducible refine (C1.out _ _ (by assumption)).mono ?_; rintro _ V ⟨rfl, HBV⟩)
        | (with_reducible refine (C2.out _ _ (by assumption)).mono ?_; rintro _ V ⟨rfl, HBV⟩)
        | (with_reducible refine (C3.out _ _ (by assumption)).mono ?_; rintro _ V ⟨rfl, HBV⟩)
        | (with_reducible refine (C4.out _ _ (by assumption)).mono ?_; rintro _ V ⟨rfl, HBV⟩)
        | (with_reducible refine (C5.out _ _ (by assumption)).mono ?_; rintro _ V ⟨rfl, HBV⟩)
        | (with_reducible refine (C6.out _ _ (by assumption)).mono ?_; rintro _ V ⟨rfl, HBV⟩)
        | (with_reducible refine (C7.out _ _ (by assumption)).mono ?_; rintro _ V ⟨rfl, HBV⟩)
        | (with_reducible refine (C8.out _ _ (by assumption)).mono ?_; rintro _ V ⟨rfl, HBV⟩)
        | (with_reducible refine (C9.out _ _ (by assumption)).mono ?_; rintro _ V ⟨rfl, HBV⟩)
        | (with_reducible refine (C10.out _ _ (by assumption)).mono ?_; rintro _ V ⟨rfl, HBV⟩)
        | (with_reducible refine (C11.out _ _ (by assumption)).mono ?_; rintro _ V ⟨rfl, HBV⟩)
        | (with_reducible refine (C12.out _ _ (by assumption)).mono ?_; rintro _ V ⟨rfl, HBV⟩)
        | (with_reducible refine (C13.out _ _ (by assumption)).mono ?_; rintro _ V ⟨rfl, HBV⟩))
      go_upto_region 5 with fail
      have hnr := nin_new V [([], 1, data), ([], 2, data), ([], 3, [116, 111]), ([], 4, [])] #[strV [], .int .i64 1, strV data, strV [], .int .i64 2, strV data, strV [], .int .i64 3, strV [116, 111], strV [], .int .i64 4, strV []] rfl
      have hva : Below V.heap.size V (V.alloc (.cells #[strV [], .int .i64 1, strV data, strV [], .int .i64 2, strV data, strV [], .int .i64 3, strV [116, 111], strV [], .int .i64 4, strV []] 37)) := (Below.refl _ V).alloc (Nat.le_refl _) _
      obtain ⟨VA, hVA⟩ : ∃ VA, V.alloc (.cells #[strV [], .int .i64 1, strV data, strV [], .int .i64 2, strV data, strV [], .int .i64 3, strV [116, 111], strV [], .int .i64 4, strV []] 37) = VA := ⟨_, rfl⟩
      rw [hVA] at hnr hva ⊢
      obtain ⟨nb, hnb⟩ : ∃ nb, V.heap.size = nb := ⟨_, rfl⟩
      have hwa := HBV.out.trans (hva.mono HBV.out.size)
      rw [hnb] at hnr ⊢
      have HNR := Lib.hid hnr
      have HWA := Lib.hid (And.intro hwa trivial)
      clear hnr hva hVA hnb hwa HBV
      have HBV : Hid (Below VA.heap.size VA VA) := Lib.hid (Below.refl _ _)
      go_upto_region 6 with (first
        | (with_reducible refine (C1.out _ _ (by assumption)).mono ?_; rintro _ V ⟨rfl, HBV⟩)
        | (with_reducible refine (C2.out _ _ (by assumption)).mono ?_; rintro _ V ⟨rfl, HBV⟩)
        | (with_reducible refine (C3.out _ _ (by assumption)).mono ?_; rintro _ V ⟨rfl, HBV⟩)
        | (with_reducible refine (C4.out _ _ (by assumption)).mono ?_; rintro _ V ⟨rfl, HBV⟩)
        | (with_reducible refine (C5.out _ _ (by assumption)).mono ?_; rintro _ V ⟨rfl, HBV⟩)
        | (with_reducible refine (C6.out _ _ (by assumption)).mono ?_; rintro _ V ⟨rfl, HBV⟩)
        | (with_reducible refine (C7.out _ _ (by assumption)).mono ?_; rintro _ V ⟨rfl, HBV⟩)
        | (with_reducible refine (C8.out _ _ (by assumption)).mono ?_; rintro _ V ⟨rfl, HBV⟩)
        | (with_reducible refine (C9.out _ _ (by assumption)).mono ?_; rintro _ V ⟨rfl, HBV⟩)
        | (with_reducible refine (C10.out _ _ (by assumption)).mono ?_; rintro _ V ⟨rfl, HBV⟩)
        | (with_reducible refine (C11.out _ _ (by assumption)).mono ?_; rintro _ V ⟨rfl, HBV⟩)
        | (with_reducible refine (C12.out _ _ (by assumption)).mono ?_; rintro _ V ⟨rfl, HBV⟩)
        | (with_reducible refine (C13.out _ _ (by assumption)).mono ?_; rintro _ V ⟨rfl, HBV⟩))
      obtain ⟨VB, hVB⟩ : ∃ VB, V.alloc (.cells #[strV (x1 ++ (x2 ++ (x3 ++ (x4 ++ (x5 ++ x6))))), strV (x1 ++ (x2 ++ (x3 ++ (x4 ++ (x7 ++ (x8 ++ (x5 ++ x6))))))), strV (x1 ++ (x2 ++ (x3 ++ (x9 ++ (x10 ++ x11))))), strV (x1 ++ (x2 ++ (x3 ++ x12)))] 9) = VB := ⟨_, rfl⟩
      have hrow : VB.heap[V.heap.size]? = some (.cells #[strV (x1 ++ (x2 ++ (x3 ++ (x4 ++ (x5 ++ x6))))), strV (x1 ++ (x2 ++ (x3 ++ (x4 ++ (x7 ++ (x8 ++ (x5 ++ x6))))))), strV (x1 ++ (x2 ++ (x3 ++ (x9 ++ (x10 ++ x11))))), strV (x1 ++ (x2 ++ (x3 ++ x12)))] 9) := by rw [← hVB]; exact new_at V _
      have hvb : Below V.heap.size V VB := by rw [← hVB]; exact (Below.refl _ V).alloc (Nat.le_refl _) _
      rw [hVB]
      have hab := HBV.out.trans (hvb.mono HBV.out.size)
      have hpk := pack_any cont_all (nin_sub (k := 3) (c' := 4 - 3) (HNR.out.on hab) rfl (by omega)) (by simp) (by simp)
      rw [pack_empty] at hpk
      obtain ⟨pk, hpke⟩ : ∃ pk, packN (.dir .nil) = pk := ⟨_, rfl⟩
      have hpe := HP.out.2.2.2
      rw [hpke] at hpk hpe
      dsimp only at hpk
      obtain ⟨rb, hrb⟩ : ∃ rb, V.heap.size = rb := ⟨_, rfl⟩
      rw [hrb] at hrow ⊢
      have HPK := Lib.hid hpk
      have HPE := Lib.hid hpe
      have HROW := Lib.hid hrow
      have HAB := Lib.hid (And.intro hab trivial)
      clear hpk hpe hrow hvb hVB hab hpke hrb
      go_wp2_with fail
      refine HPK.out.mono ?_
      rintro _ V2 ⟨rfl, hb2⟩
      have hrow2 := keeps_below HROW.out hb2
      have hrb2 : rb < V2.heap.size := has_box hrow2
      obtain ⟨wk, hwk⟩ : ∃ wk, x1 ++ (x2 ++ (x3 ++ x12)) = wk := ⟨_, rfl⟩
      have q1 : V2.cell? ⟨rb, 3, none⟩ = some (strV wk) := by rw [← hwk]; simp [World.cell?, hrow2]
      have q2 : has V2 rb := hrb2
      have hwl : wk.length ≤ 1000 := by rw [← hwk]; simp only [List.length_append]; omega
      have hq : (pk == wk ++ x13) = true := by
        rw [HPE.out, ← hwk]
        simp
      have HB2 := Lib.hid (And.intro (HAB.out.1.trans (hb2.mono HAB.out.1.size)) trivial)
      have HSH : Hid (∀ V : World, Calls Try.prog 17 #[.string ⟨#[41]⟩] V fun e w' => e = .returned (strV x13) ∧ Below V.heap.size V w') := Lib.hid fun V => (C13.out V V (Lib.hid (Below.refl _ _))).mono fun e w' h => ⟨h.1, h.2.out⟩
      have HZ : Hid (∀ V3 : World, Below V2.drew.heap.size V2.drew V3 → V3.cell? ⟨rb, 3, none⟩ = some (strV wk) ∧ has V3 rb) := Lib.hid fun V3 hb => ⟨(cell_below (W := V2.drew) (a := ⟨rb, 3, none⟩) hb hrb2).trans q1, Nat.lt_of_lt_of_le hrb2 hb.size⟩
      have HZ2 : Hid (∀ V3 V4 : World, V3.cell? ⟨rb, 3, none⟩ = some (strV wk) → has V3 rb → Below V3.heap.size V3 V4 → V4.cell? ⟨rb, 3, none⟩ = some (strV wk)) := Lib.hid fun V3 V4 h1 h2 hb => (cell_below (W := V3) (a := ⟨rb, 3, none⟩) hb h2).trans h1
      have hs1 : (9223372036854775807 < wk.length + 16) = False := by simp; omega
      have hs2 : ¬ (9223372036854775807 < wk.length + x13.length) := by omega
      clear hrow2 hb2 hwk HPE HPK HROW HAB HBV l1 l2 l3 l4 l5 l6 l7 l8 l9 l10 l11 l12
      go_wp2_with fail
      go_region_held3 (fun w' => w'.cell? ⟨rb, 3, none⟩ = some (strV wk)) (first | exact z3 | exact z1 | exact q1 | go_keep)
        (first
          | (go_at_call 14; with_reducible refine (HERR.out _ _).mono ?_; rintro _ _ ⟨rfl, rfl⟩)
          | (go_at_call 10; with_reducible refine (HAW.out _).mono ?_; rintro _ V4 ⟨rfl, hb4⟩; have z3 := HZ2.out _ _ z1 z2 hb4)
          | (go_at_call 17; with_reducible refine (HSH.out _).mono ?_; rintro _ V3 ⟨rfl, hb3⟩; have z1 := (HZ.out _ hb3).1; have z2 := (HZ.out _ hb3).2))
      have HF : Hid (Below W.heap.size W V4) := Lib.hid (by
        have e1 := HWA.out.1.trans (HB2.out.1.mono HWA.out.1.size)
        have e2 : Below V2.heap.size V2 V3 := (Below.refl V2.heap.size V2).drew.trans hb3
        exact (e1.trans (e2.mono e1.size)).trans (hb4.mono (Nat.le_trans e1.size e2.size)))
      clear hb3 hb4 z1 z2 z3 q1 q2
      go_wp2_with fail
      exact bodyPost_ret (v := .bool true) (by simp [results, Try.results5, go_sem]) rfl ⟨rfl, HF.out⟩
end Go.Proofs.Ytmlefodnbbkilaa

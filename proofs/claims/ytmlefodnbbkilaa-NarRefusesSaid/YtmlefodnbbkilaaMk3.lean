/- Walks: a directory of numbers. -/
import Derived.Test.YtmlefodnbbkilaaMk2
import Derived.Laws.BytesString
import Derived.Deep.DeepCutAuto
import Derived.Deep.CutBlock
namespace Go.Proofs.Ytmlefodnbbkilaa
open Go.RowKit

theorem bin_str {W : World} {b off c : Nat} {l : Bs} (h : BIn W (.slice (some ⟨b, off, none⟩) l.length c) l) : (convert 22 9 (.slice (some ⟨b, off, none⟩) l.length c)).run Try.prog W = .ok (strV l) W := by
  refine run_convert_bytes_back W 22 9 5 ⟨b, off, none⟩ c l Try.underlying22 Try.underlying5 Try.underlying9 fun j hj => ?_
  obtain ⟨b', off', h1, -, h2⟩ := bin_at h j hj
  simp only [Option.some.injEq, Addr.mk.injEq, and_true] at h1
  obtain ⟨rfl, rfl⟩ := h1
  rw [show (⟨b, off, none⟩ : Addr).add j = ⟨b, off + j, none⟩ by unfold Addr.add; split <;> simp_all, h2]
  simp [hj]
theorem nmL_sin {W : World} {g : Nat} (h : W.heap[g]? = some (.cells nmA 9)) : SIn W (.slice (some ⟨g, 0, none⟩) 6 6) nmL := by
  refine .inr ⟨g, 0, 6, rfl, by decide, (Array.getElem?_eq_some_iff.1 h).1, fun j x hx i hi => ?_⟩
  obtain rfl : i = 0 := by omega
  have hj : j < 6 := (List.getElem?_eq_some_iff.1 hx).1
  have := nmA_at h j hj
  rw [Nat.zero_add, Nat.mul_one, Nat.add_zero, this]
  unfold nmK
  rw [List.getD_eq_getElem?_getD, hx]
  rfl
theorem nmL_text (i : Nat) : (textN nmL i).length ≤ 3 ∧ (0 : UInt8) ∉ textN nmL i := by
  unfold textN
  have h : ∀ j, j < 6 → (nmL.getD j []).length ≤ 3 ∧ (0 : UInt8) ∉ nmL.getD j [] := by decide
  exact h _ (Nat.mod_lt _ (by decide))
theorem XIn.capn {α : Type} {k : Nat} {enc : α → List Value} {W : World} {A : Option Addr} {n c : Nat} {l : List α} (h : XIn k enc W (.slice A n c) l) : l.length ≤ c := by
  rcases h with ⟨rfl, _⟩ | ⟨b, off, c', hv, hc, _⟩
  · simp
  · obtain ⟨-, -, rfl⟩ := by simpa only [Value.slice.injEq] using hv
    exact hc
theorem XIn.subif {α : Type} {enc : α → List Value} {W : World} {b off n c : Nat} {l : List α} (h : XIn 1 enc W (.slice (some ⟨b, off, none⟩) n c) l) (i j : Nat) (hij : i ≤ j) (hj : j ≤ l.length) :
    XIn 1 enc W (.slice (if c = i then some ⟨b, off, none⟩ else some ⟨b, off + i, none⟩) (j - i) (c - i)) ((l.take j).drop i) := by
  have hc := h.capn
  split
  · exact h.sub1 i j hij hj _ (by omega) off (.inr (by omega))
  · exact h.sub1 i j hij hj _ (by omega) _ (.inl rfl)
theorem two_of (l : Bs) (i : Nat) (h : i + 1 < l.length) : (l.take (i + 2)).drop i = [l.getD i 0, l.getD (i + 1) 0] := by
  have h1 : l.drop i = l.getD i 0 :: l.getD (i + 1) 0 :: l.drop (i + 2) := by
    rw [List.drop_eq_getElem_cons (show i < l.length by omega), List.drop_eq_getElem_cons h]
    simp [List.getD_eq_getElem?_getD, h, show i < l.length by omega]
  rw [List.drop_take, show i + 2 - i = 2 by omega, h1]
  rfl
theorem box3_set2 {W : World} {b t : Nat} {x y z : Value} (h : W.heap[b]? = some (.cells #[x, y, z] t)) (u : Value) : (W.setCell ⟨b, 2, none⟩ u).heap[b]? = some (.cells #[x, y, u] t) := setCell_block h 2 u
theorem box3_fz {W : World} {b t : Nat} {x y z : Value} (h : W.heap[b]? = some (.cells #[x, y, z] t)) (j : Nat) : W.frozen? ⟨b, j, none⟩ = false := by simp [World.frozen?, h]
/-- What the walk of a directory shows. -/
def DirC (W0 : World) (tv : Value) (deep : Nat) : Prop := ∀ (W : World) (v nv : Value) (L0 : List Nd) (path ns : Bs), NR W0 W v L0 → BIn W0 nv ns → ns.length ≤ 140737488355328 → path.length ≤ 4 * deep → L0.length ≤ 14 →
  Calls Try.prog 28 #[v, strV path, nv, tv, .int .i64 deep] W fun e w' => ∃ v' M, e = .returned v' ∧ NR W0 w' v' (L0 ++ M) ∧ Gr W w' v v' ∧ Part deep path 6 M ∧ Lit4 M ∧ (L0 ++ M).length ≤ 16

set_option maxRecDepth 100000 in
set_option maxHeartbeats 2000000 in
theorem dir_step {W0 : World} {tv : Value} {tx : List Bs} (ht : SIn W0 tv tx) (htl : tx.length ≤ 8) (htx : ∀ t ∈ tx, t.length ≤ 300) (deep : Nat) (hd3 : deep ≤ 3) (HREC : Hid (deep < 3 → DirC W0 tv (deep + 1))) : DirC W0 tv deep := by
  intro W v nv L0 path ns h hn hnl hp hl0
  obtain ⟨A, uc, rfl⟩ := h.form
  obtain ⟨B, bc, rfl⟩ := hn.form
  have HN := Lib.hid hn
  have HT := Lib.hid ht
  have HTX := Lib.hid htx
  have hbel : Below W.heap.size W (W.alloc (.cells nmA 9)) := (Below.refl _ W).alloc (Nat.le_refl _) _
  have HR := Lib.hid (h.on hbel)
  have HG0 : Hid (Gr W (W.alloc (.cells nmA 9)) (.slice A L0.length uc) (.slice A L0.length uc)) := Lib.hid (Gr.of hbel (World.grownBy.refl _ _) fun b hb => .inl hb)
  have HNM : Hid ((W.alloc (.cells nmA 9)).heap[W.heap.size]? = some (.cells nmA 9)) := Lib.hid (new_at W _)
  have HNO : Hid (∀ k, (Value.slice A L0.length uc).ownBlock = some k → k ≠ W.heap.size) := Lib.hid fun k hk => by have := h.lt k hk; omega
  clear h hn ht htx hbel
  go_enter Try.func28, Try.ntmps28
  go_wp2_with fail
  rename_i K hK
  have HKK := Lib.hid hK
  clear hK
  go_loopw [12, 13, 0] (fun y z u wr => ∃ (i k : Nat) (M : List Nd), y = .int .i64 k ∧ z = .int .i64 i ∧ i ≤ 3 * k ∧ k ≤ 6 ∧ Hid (NR W0 wr u (L0 ++ M)) ∧ Hid (Gr W wr (.slice A L0.length uc) u) ∧ Hid (wr.heap[W.heap.size]? = some (.cells nmA 9)) ∧ Hid (∀ k, u.ownBlock = some k → k ≠ W.heap.size) ∧ Hid (Part deep path k M) ∧ Hid (Lit4 M) ∧ (L0 ++ M).length ≤ 14) (fun y _ _ _ => 6 - (intOf y).toNat)
  case atStart => exact ⟨0, 0, [], by simp, by simp, by omega, by omega, by rw [List.append_nil]; exact HR, HG0, HNM, HNO, Lib.hid (Part.nil _ _), Lib.hid Lit4.nil, by simpa using hl0⟩
  case round =>
    clear HR HG0 HNM HNO
    obtain ⟨i, k, M, rfl, rfl, hik, hk6, HR, HG, HNM, HNO, HPT, HLT, hlen⟩ := hrel
    obtain ⟨L, hL⟩ : ∃ L, L0 ++ M = L := ⟨_, rfl⟩
    rw [hL] at HR hlen
    have HLL := Lib.hid hL
    clear hL
    obtain ⟨A2, c2, rfl⟩ := HR.out.form
    by_cases h1 : i + 2 < ns.length
    case neg =>
      have hd1 : decide ((i : Int) + 2 < (ns.length : Int)) = false := by simp; omega
      go_wp2_with fail
      refine HKK.out _ _ ?_
      go_wp2_with fail
      exact bodyPost_ret (v := .slice A2 L.length c2) (by simp [results, Try.results28, go_sem]) rfl ⟨_, M, rfl, by rw [HLL.out]; exact HR.out, HG.out, HPT.out.mono hk6, HLT.out, by rw [HLL.out]; omega⟩
    have hd1 : decide ((i : Int) + 2 < (ns.length : Int)) = true := by simp; omega
    by_cases h2 : k < 6
    case neg =>
      have hd2 : decide ((k : Int) < 6) = false := by simp; omega
      go_wp2_with fail
      refine HKK.out _ _ ?_
      go_wp2_with fail
      exact bodyPost_ret (v := .slice A2 L.length c2) (by simp [results, Try.results28, go_sem]) rfl ⟨_, M, rfl, by rw [HLL.out]; exact HR.out, HG.out, HPT.out.mono hk6, HLT.out, by rw [HLL.out]; omega⟩
    have hd2 : decide ((k : Int) < 6) = true := by simp; omega
    by_cases h3 : L.length < 14
    case neg =>
      have hd3 : decide ((L.length : Int) < 14) = false := by simp; omega
      go_wp2_with fail
      refine HKK.out _ _ ?_
      go_wp2_with fail
      exact bodyPost_ret (v := .slice A2 L.length c2) (by simp [results, Try.results28, go_sem]) rfl ⟨_, M, rfl, by rw [HLL.out]; exact HR.out, HG.out, HPT.out.mono hk6, HLT.out, by rw [HLL.out]; omega⟩
    have hd3' : decide ((L.length : Int) < 14) = true := by simp; omega
    obtain ⟨b, off, rfl, hb, hy0⟩ := bin_at (HN.out.on HR.out.below) i (by omega)
    obtain ⟨b', off', h', -, hy1⟩ := bin_at (HN.out.on HR.out.below) (i + 1) (by omega)
    simp only [Option.some.injEq, Addr.mk.injEq, and_true] at h'
    obtain ⟨rfl, rfl⟩ := h'
    obtain ⟨b', off', h', -, hy2⟩ := bin_at (HN.out.on HR.out.below) (i + 2) (by omega)
    simp only [Option.some.injEq, Addr.mk.injEq, and_true] at h'
    obtain ⟨rfl, rfl⟩ := h'
    obtain ⟨x0, hx0⟩ : ∃ x, ns.getD i 0 = x := ⟨_, rfl⟩
    obtain ⟨x1, hx1⟩ : ∃ x, ns.getD (i + 1) 0 = x := ⟨_, rfl⟩
    obtain ⟨y0, m0, l0⟩ : ∃ m : Nat, x0.toNat = m ∧ m ≤ 255 := ⟨_, rfl, by have := x0.toNat_lt; omega⟩
    obtain ⟨y1, m1, l1⟩ : ∃ m : Nat, x1.toNat = m ∧ m ≤ 255 := ⟨_, rfl, by have := x1.toNat_lt; omega⟩
    obtain ⟨y2, m2, l2⟩ : ∃ m : Nat, (ns.getD (i + 2) 0).toNat = m ∧ m ≤ 255 := ⟨_, rfl, by have := (ns.getD (i + 2) 0).toNat_lt; omega⟩
    rw [hx0, m0] at hy0
    rw [hx1, m1] at hy1
    rw [m2] at hy2
    have hr1 : ((y0 : Int)).tmod 3 = ((y0 % 3 : Nat) : Int) := by rw [Int.tmod_eq_emod_of_nonneg (by omega)]; rfl
    have hr2 : ((y1 : Int)).tmod 4 = ((y1 % 4 : Nat) : Int) := by rw [Int.tmod_eq_emod_of_nonneg (by omega)]; rfl
    obtain ⟨r, hr⟩ : ∃ r, y0 % 3 = r := ⟨_, rfl⟩
    obtain ⟨q, hq⟩ : ∃ q, y1 % 4 = q := ⟨_, rfl⟩
    have hr3 : r ≤ 2 := by omega
    have hq4 : q ≤ 3 := by omega
    have hw0 : IntKind.i64.wrap (y0 : Int) = (y0 : Int) := IntWalk.i64_in _ (by omega)
    have hw1 : IntKind.i64.wrap (y1 : Int) = (y1 : Int) := IntWalk.i64_in _ (by omega)
    have hw2 : IntKind.i64.wrap (y2 : Int) = (y2 : Int) := IntWalk.i64_in _ (by omega)
    rw [hr] at hr1
    rw [hq] at hr2
    have HX0 := Lib.hid (And.intro hx0 m0)
    have HX1 := Lib.hid (And.intro hx1 m1)
    clear hr hq hx0 hx1 m0 m1 m2
    have hst : has wr W.heap.size := has_box HNM.out
    by_cases h5 : k + r < 6
    case neg =>
      have hd5 : decide ((6 : Int) ≤ (k : Int) + (r : Int)) = true := by simp; omega
      go_wp2_with fail
      refine HKK.out _ _ ?_
      go_wp2_with fail
      exact bodyPost_ret (v := .slice A2 L.length c2) (by simp [results, Try.results28, go_sem]) rfl ⟨_, M, rfl, by rw [HLL.out]; exact HR.out, HG.out, HPT.out.mono hk6, HLT.out, by rw [HLL.out]; omega⟩
    have hd5 : decide ((6 : Int) ≤ (k : Int) + (r : Int)) = false := by simp; omega
    go_upto_region 8 with fail
    clear hd1 hd2 hd3' hd5 hr1
    have hx := nmA_at HNM.out (k + r) h5
    obtain ⟨nm, hnm⟩ : ∃ nm, nmK (k + r) = nm := ⟨_, rfl⟩
    have hnl' : nm.length ≤ 3 := by rw [← hnm]; exact (nmK_ok _ h5).2
    rw [hnm] at hx
    have HNK := Lib.hid hnm
    have HBW := Lib.hid HR.out.below
    clear hnm
    have i1 : (0 : Int) ≤ (k : Int) + (r : Int) := by omega
    have i2 : (k : Int) + (r : Int) < 6 := by omega
    have i3 : ((k : Int) + (r : Int)).toNat = k + r := by omega
    have i4 : IntKind.i64.wrap ((i : Int) + 1) = (i : Int) + 1 := IntWalk.i64_in _ (by omega)
    have i5 : (0 : Int) ≤ (i : Int) + 1 := by omega
    have i6 : (i : Int) + 1 < (ns.length : Int) := by omega
    have i7 : ((i : Int) + 1).toNat = i + 1 := by omega
    have i8 : IntKind.i64.wrap (1 + (q : Int)) = 1 + (q : Int) := IntWalk.i64_in _ (by omega)
    go_region_held3 (fun w' => w'.cell? ⟨W.heap.size, k + r, none⟩ = some (strV nm) ∧ w'.cell? ⟨b, off + (i + 1), none⟩ = some (.int .u8 y1)) (first | exact ⟨hx, hy1⟩ | go_keep) (first | exact trivial)
    obtain ⟨w1, hw⟩ : ∃ w1, (wr.alloc (.cells #[strV nm, .int .i64 (1 + (q : Int)), strV []] 37)).drew = w1 := ⟨_, rfl⟩
    have hbx : w1.heap[wr.heap.size]? = some (.cells #[strV nm, .int .i64 (1 + (q : Int)), strV []] 37) := by rw [← hw]; exact new_at wr _
    have hbl : Below wr.heap.size wr w1 := by rw [← hw]; exact ((Below.refl _ wr).alloc (Nat.le_refl _) _).drew
    rw [hw]
    clear hw i3 i4 i5 i6 i7 i8 hw1 hr2 hx hy1
    have HN1 : Hid (w1.heap[W.heap.size]? = some (.cells nmA 9)) := Lib.hid (keeps_below HNM.out hbl)
    obtain ⟨pe, hpe⟩ : ∃ pe, List.isEmpty path = pe := ⟨_, rfl⟩
    go_upto_if 61 with fail
    go_cut [] (fun wc => ∃ P : Bs, Hid (P = joinP path nm) ∧ Hid (wc.heap[wr.heap.size]? = some (.cells #[strV P, .int .i64 (1 + (q : Int)), strV []] 37)) ∧ Hid (Below wr.heap.size wr wc))
    case first =>
      cases pe with
      | true =>
        have hpt : path = [] := by simpa using hpe
        subst hpt
        go_wp2_with fail
        go_meet
        exact ⟨nm, Lib.hid rfl, Lib.hid hbx, Lib.hid hbl⟩
      | false =>
        have hpt : path ≠ [] := by simpa using hpe
        have hx1 := nmA_at HN1.out (k + r) h5
        rw [HNK.out] at hx1
        obtain ⟨c0, c1, c2', hfz⟩ := box3 hbx
        have hbx2 := box3_set hbx (strV (path ++ 47 :: nm))
        have hbl2 : Below wr.heap.size wr (w1.setCell ⟨wr.heap.size, 0, none⟩ (strV (path ++ 47 :: nm))) := hbl.setCell (Nat.le_refl _) _
        clear hbx hbl
        go_wp2_with fail
        go_meet
        exact ⟨path ++ 47 :: nm, Lib.hid (by rw [path_join path hpt]; simp), Lib.hid hbx2, Lib.hid hbl2⟩
    case rest =>
      obtain ⟨P, HP, HBX, HBL⟩ := hcut
      clear hbx hbl HN1
      obtain ⟨c0, c1, c2', hfz⟩ := box3 HBX.out
      clear hpe
      go_upto_block 2 with fail
      go_cut [] (fun wc => ∃ d : Bs, d.length ≤ 400 ∧ Hid (mayNodeN (P, 1 + (q : Int), d) = true) ∧ Hid (wc.heap[wr.heap.size]? = some (.cells #[strV P, .int .i64 (1 + (q : Int)), strV d] 37)) ∧ Hid (Below wr.heap.size wr wc))
      case first =>
        have i1 : IntKind.i64.wrap ((i : Int) + 2) = (i : Int) + 2 := IntWalk.i64_in _ (by omega)
        have i2 : (0 : Int) ≤ (i : Int) + 2 := by omega
        have i3 : (i : Int) + 2 < (ns.length : Int) := by omega
        have i4 : ((i : Int) + 2).toNat = i + 2 := by omega
        have hbl := HBL.out
        have hy2' := (cell_below (W := wr) (W' := wc) (a := ⟨b, off + (i + 2), none⟩) hbl hb).trans hy2
        have HBW2 := Lib.hid (HBW.out.trans (hbl.mono HBW.out.size))
        have HY2 := Lib.hid hy2
        clear hy2
        have hbc := HN.out.capn
        have fz2 := box3_fz HBX.out 2
        have q0123 : q = 0 ∨ q = 1 ∨ q = 2 ∨ q = 3 := by omega
        rcases q0123 with q01 | q01 | rfl | rfl
        · have HTA : Hid (∀ U, Below W0.heap.size W0 U → Calls Try.prog 27 #[tv, .int .i64 y2] U fun e w' => e = .returned (strV (textN tx y2)) ∧ w' = U) := Lib.hid fun U hU => text_any y2 (HT.out.on hU) (by omega) l2
          have htl2 := textN_len tx y2 HTX.out
          have hsub : BIn wc.drew (.slice (some ⟨b, off + i, none⟩) 2 (bc - i)) [x0, x1] := by
            have := ((HN.out.on HBW2.out.drew).sub1 i (i + 2) (by omega) (by omega) (bc - i) (by omega) (off + i) (.inl rfl))
            rw [two_of ns i (by omega), HX0.out.1, HX1.out.1, show i + 2 - i = 2 by omega] at this
            exact this
          have hcv : (convert 22 9 (.slice (some ⟨b, off + i, none⟩) 2 (bc - i))).run Try.prog wc.drew = .ok (strV [x0, x1]) wc.drew := bin_str hsub
          have HSBS : Hid (∀ u, BIn (wc.setCell ⟨wr.heap.size, 2, none⟩ u).drew (.slice (some ⟨b, off + i, none⟩) 2 (bc - i)) [x0, x1]) := Lib.hid fun u => by
            have hS : Below wr.heap.size wr (wc.setCell ⟨wr.heap.size, 2, none⟩ u).drew := (hbl.setCell (Nat.le_refl _) u).drew
            have := ((HN.out.on (HBW.out.trans (hS.mono HBW.out.size))).sub1 i (i + 2) (by omega) (by omega) (bc - i) (by omega) (off + i) (.inl rfl))
            rw [two_of ns i (by omega), HX0.out.1, HX1.out.1, show i + 2 - i = 2 by omega] at this
            exact this
          have j1 : ¬ (bc : Int) = (i : Int) := by omega
          have j2 : ¬ bc = i := by omega
          have j3 : (i : Int) ≤ (i : Int) + 2 := by omega
          have j4 : (i : Int) + 2 ≤ (bc : Int) := by omega
          have j5 : ((i : Int) + 2 - (i : Int)).toNat = 2 := by omega
          clear hsub
          subst q01
          have e1 : (1 + ((0 : Nat) : Int)) = 1 := rfl
          have HMY := Lib.hid (file_may P (textN tx y2 ++ [x0, x1]) (1 + ((0 : Nat) : Int)) (.inl rfl) (by simp; omega))
          obtain ⟨d, hd⟩ : ∃ d, textN tx y2 = d := ⟨_, rfl⟩
          rw [hd] at HTA HMY htl2
          clear hd
          have hb3 := box3_set2 (W := wc.drew) HBX.out (strV (d ++ [x0, x1]))
          have hl3 : Below wr.heap.size wr (wc.drew.setCell ⟨wr.heap.size, 2, none⟩ (strV (d ++ [x0, x1]))) := hbl.drew.setCell (Nat.le_refl _) _
          go_wp2_with fail
          have hyS : (wc.setCell ⟨wr.heap.size, 2, none⟩ (.string ⟨(d ++ [x0, x1]).toArray⟩)).drew.cell? ⟨b, off + (i + 2), none⟩ = some (.int .u8 y2) := (cell_below (W := wr) (a := ⟨b, off + (i + 2), none⟩) (hbl.setCell (Nat.le_refl _) _).drew hb).trans HY2.out
          have hcvS : (convert 22 9 (.slice (some ⟨b, off + i, none⟩) 2 (bc - i))).run Try.prog (wc.setCell ⟨wr.heap.size, 2, none⟩ (.string ⟨(d ++ [x0, x1]).toArray⟩)).drew = .ok (strV [x0, x1]) (wc.setCell ⟨wr.heap.size, 2, none⟩ (.string ⟨(d ++ [x0, x1]).toArray⟩)).drew := bin_str (HSBS.out _)
          have hsl : (9223372036854775807 < List.length d + 2) = False := by simp; omega
          go_region_held3 (fun w' => w'.cell? ⟨b, off + (i + 2), none⟩ = some (.int .u8 y2) ∧ (convert 22 9 (.slice (some ⟨b, off + i, none⟩) 2 (bc - i))).run Try.prog w' = .ok (strV [x0, x1]) w') (first | exact ⟨hy2', hcv⟩ | exact ⟨hyS, hcvS⟩ | go_keep)
            (first | (go_at_call 27; with_reducible refine (HTA.out _ HBW2.out.drew).mono ?_; rintro _ U ⟨rfl, rfl⟩))
          all_goals
            go_wp2_with fail
            go_meet
            exact ⟨d ++ [x0, x1], by simp; omega, HMY, Lib.hid hb3, Lib.hid hl3⟩
        · have HTA : Hid (∀ U, Below W0.heap.size W0 U → Calls Try.prog 27 #[tv, .int .i64 y2] U fun e w' => e = .returned (strV (textN tx y2)) ∧ w' = U) := Lib.hid fun U hU => text_any y2 (HT.out.on hU) (by omega) l2
          have htl2 := textN_len tx y2 HTX.out
          have hsub : BIn wc.drew (.slice (some ⟨b, off + i, none⟩) 2 (bc - i)) [x0, x1] := by
            have := ((HN.out.on HBW2.out.drew).sub1 i (i + 2) (by omega) (by omega) (bc - i) (by omega) (off + i) (.inl rfl))
            rw [two_of ns i (by omega), HX0.out.1, HX1.out.1, show i + 2 - i = 2 by omega] at this
            exact this
          have hcv : (convert 22 9 (.slice (some ⟨b, off + i, none⟩) 2 (bc - i))).run Try.prog wc.drew = .ok (strV [x0, x1]) wc.drew := bin_str hsub
          have HSBS : Hid (∀ u, BIn (wc.setCell ⟨wr.heap.size, 2, none⟩ u).drew (.slice (some ⟨b, off + i, none⟩) 2 (bc - i)) [x0, x1]) := Lib.hid fun u => by
            have hS : Below wr.heap.size wr (wc.setCell ⟨wr.heap.size, 2, none⟩ u).drew := (hbl.setCell (Nat.le_refl _) u).drew
            have := ((HN.out.on (HBW.out.trans (hS.mono HBW.out.size))).sub1 i (i + 2) (by omega) (by omega) (bc - i) (by omega) (off + i) (.inl rfl))
            rw [two_of ns i (by omega), HX0.out.1, HX1.out.1, show i + 2 - i = 2 by omega] at this
            exact this
          have j1 : ¬ (bc : Int) = (i : Int) := by omega
          have j2 : ¬ bc = i := by omega
          have j3 : (i : Int) ≤ (i : Int) + 2 := by omega
          have j4 : (i : Int) + 2 ≤ (bc : Int) := by omega
          have j5 : ((i : Int) + 2 - (i : Int)).toNat = 2 := by omega
          clear hsub
          subst q01
          have e1 : (1 + ((1 : Nat) : Int)) = 2 := rfl
          have HMY := Lib.hid (file_may P (textN tx y2 ++ [x0, x1]) (1 + ((1 : Nat) : Int)) (.inr rfl) (by simp; omega))
          obtain ⟨d, hd⟩ : ∃ d, textN tx y2 = d := ⟨_, rfl⟩
          rw [hd] at HTA HMY htl2
          clear hd
          have hb3 := box3_set2 (W := wc.drew) HBX.out (strV (d ++ [x0, x1]))
          have hl3 : Below wr.heap.size wr (wc.drew.setCell ⟨wr.heap.size, 2, none⟩ (strV (d ++ [x0, x1]))) := hbl.drew.setCell (Nat.le_refl _) _
          go_wp2_with fail
          have hyS : (wc.setCell ⟨wr.heap.size, 2, none⟩ (.string ⟨(d ++ [x0, x1]).toArray⟩)).drew.cell? ⟨b, off + (i + 2), none⟩ = some (.int .u8 y2) := (cell_below (W := wr) (a := ⟨b, off + (i + 2), none⟩) (hbl.setCell (Nat.le_refl _) _).drew hb).trans HY2.out
          have hcvS : (convert 22 9 (.slice (some ⟨b, off + i, none⟩) 2 (bc - i))).run Try.prog (wc.setCell ⟨wr.heap.size, 2, none⟩ (.string ⟨(d ++ [x0, x1]).toArray⟩)).drew = .ok (strV [x0, x1]) (wc.setCell ⟨wr.heap.size, 2, none⟩ (.string ⟨(d ++ [x0, x1]).toArray⟩)).drew := bin_str (HSBS.out _)
          have hsl : (9223372036854775807 < List.length d + 2) = False := by simp; omega
          go_region_held3 (fun w' => w'.cell? ⟨b, off + (i + 2), none⟩ = some (.int .u8 y2) ∧ (convert 22 9 (.slice (some ⟨b, off + i, none⟩) 2 (bc - i))).run Try.prog w' = .ok (strV [x0, x1]) w') (first | exact ⟨hy2', hcv⟩ | exact ⟨hyS, hcvS⟩ | go_keep)
            (first | (go_at_call 27; with_reducible refine (HTA.out _ HBW2.out.drew).mono ?_; rintro _ U ⟨rfl, rfl⟩))
          all_goals
            go_wp2_with fail
            go_meet
            exact ⟨d ++ [x0, x1], by simp; omega, HMY, Lib.hid hb3, Lib.hid hl3⟩
        · have HTN := Lib.hid (text_any (W := wc) y2 (nmL_sin (keeps_below HNM.out hbl)) (by decide) l2)
          obtain ⟨t1, t2⟩ := nmL_text y2
          obtain ⟨d, hd⟩ : ∃ d, textN nmL y2 = d := ⟨_, rfl⟩
          rw [hd] at HTN t1 t2
          have HMY := Lib.hid (link_may P (111 :: 47 :: d) (by simp; omega) (by simp [t2]))
          have hb3 := box3_set2 HBX.out (strV (116 :: 111 :: 47 :: d))
          have hl3 : Below wr.heap.size wr (wc.setCell ⟨wr.heap.size, 2, none⟩ (strV (116 :: 111 :: 47 :: d))) := hbl.setCell (Nat.le_refl _) _
          clear hd t2
          go_wp2_with fail
          refine HTN.out.mono ?_
          rintro _ U ⟨rfl, rfl⟩
          go_wp2_with fail
          go_meet
          exact ⟨116 :: 111 :: 47 :: d, by simp; omega, HMY, Lib.hid hb3, Lib.hid hl3⟩
        · go_wp2_with fail
          go_meet
          exact ⟨[], by simp, Lib.hid (dir_may P), HBX, HBL⟩
      case rest =>
        obtain ⟨d, hdl, HMY, HBX2, HBL2⟩ := hcut
        have HBWc := Lib.hid HBX2.out
        clear HBX HBL c0 c1 c2' hfz
        obtain ⟨c0, c1, c2'⟩ := box3 HBX2.out
        obtain ⟨kd, hkd⟩ : ∃ kd : Int, 1 + (q : Int) = kd := ⟨_, rfl⟩
        rw [hkd] at HMY HBX2 c1
        try rw [hkd]
        clear hkd
        have hbl2 := HBL2.out
        have HR5 := Lib.hid (HR.out.on (hbl2.alloc hbl2.size (.cells #[strV P, .int .i64 kd, strV d] 37)))
        have HNEW := Lib.hid (news_new wc 37 (flatX encNd [(P, kd, d)]))
        have HONE := Lib.hid (encNd_ok.cells [(P, kd, d)])
        clear HBWc
        go_upto_region 18 with fail
        go_cut [0] (fun u wd => ∃ A3 c3, u = .slice A3 (L.length + 1) c3 ∧ Hid (NR W0 wd u (L ++ [(P, kd, d)])) ∧ Hid (Gr wr wd (.slice A2 L.length c2) u) ∧ Hid (wd.heap[wr.heap.size]? = some (.cells #[strV P, .int .i64 kd, strV d] 37)) ∧ Hid (∀ k, u.ownBlock = some k → k ≠ wr.heap.size))
        case first =>
          go_wp2_with (at_builtin; go_loud (refine wpList_appendAt rfl _ _ 25 37 rfl Try.underlying25 _ 3 40 info37 rfl (.slice A2 L.length c2) L.length (flatX encNd L) (flatX encNd [(P, kd, d)]) 1 rfl HR5.out.row ⟨wc.heap.size, 0, none⟩ _ rfl HNEW.out rfl HONE.out (by omega) (.inl (by omega)) (by omega) (by omega) ?_); intro v2 w2 hrow1 hg1 hown1 hnl1; clear hnl1; have HU := Lib.hid (HR5.out.app [(P, kd, d)] hg1 hrow1 hown1); have HGr := Lib.hid (Gr.of (hbl2.alloc hbl2.size (.cells #[strV P, .int .i64 kd, strV d] 37)) hg1 hown1); have HG1 := Lib.hid hg1; have HO1 := Lib.hid hown1; clear hrow1 hown1 hg1; obtain ⟨A3, c3, rfl⟩ := HU.out.form)
          have hb : w2.heap[wr.heap.size]? = some (.cells #[strV P, .int .i64 kd, strV d] 37) := by
            have h0 : (wc.alloc (.cells #[strV P, .int .i64 kd, strV d] 37)).heap[wr.heap.size]? = some (.cells #[strV P, .int .i64 kd, strV d] 37) := keeps_below HBX2.out ((Below.refl _ wc).alloc (Nat.le_refl _) _)
            refine (HG1.out.block _ (Array.getElem?_eq_some_iff.1 h0).1 fun e => ?_).trans h0
            have := HR.out.lt _ e.symm
            omega
          have el : (L ++ [(P, kd, d)]).length = L.length + 1 := by simp
          rw [el] at HU HGr HO1
          clear el
          go_meet
          have hnb : ∀ k, (Value.slice A3 (L.length + 1) c3).ownBlock = some k → k ≠ wr.heap.size := fun k hk => by
            have hsz := hbl2.size
            have hbs := (Array.getElem?_eq_some_iff.1 HBX2.out).1
            rcases HO1.out k hk with h | h
            · have := HR.out.lt k h
              omega
            · rw [World.size_alloc] at h
              omega
          exact ⟨A3, c3, by simp, HU, HGr, Lib.hid hb, Lib.hid hnb⟩
        case rest =>
          obtain ⟨A3, c3, rfl, HU, HGr, HBX3, HNB⟩ := hcut
          have hKp := HGr.out.kept HNM.out HNO.out
          have HK1 := Lib.hid hKp.1
          have HK2 := Lib.hid hKp.2
          clear hKp HR5 HNEW HONE HBX2 hbl2 HBL2 c0 c1 c2'
          obtain ⟨c0, c1, c2'⟩ := box3 HBX3.out
          have HG2 := Lib.hid (HG.out.trans HGr.out)
          have hLn : L.length + 1 = (L ++ [(P, kd, d)]).length := by simp
          have HU2 : Hid (NR W0 wc (.slice A3 (L.length + 1) c3) (L0 ++ (M ++ [(P, kd, d)]))) := Lib.hid (by rw [← List.append_assoc, HLL.out]; exact HU.out)
          have hPl : P.length ≤ 4 * (deep + 1) := by
            have := join_len path nm
            rw [← HP.out] at this
            omega
          have hPj : P = joinP path (nmK (k + r)) := by rw [HP.out, HNK.out]
          have HPJ := Lib.hid hPj
          by_cases hrec : kd = 4 ∧ deep < 3
          case neg =>
            have HPT2 : Hid (Part deep path (k + r + 1) (M ++ [(P, kd, d)])) := Lib.hid (by
              rw [HPJ.out] at HMY ⊢
              exact (HPT.out.mono (by omega)).leaf h5 (by omega) HMY.out)
            have HLT2 : Hid (Lit4 (M ++ [(P, kd, d)])) := Lib.hid (HLT.out.app (Lit4.one (by omega) hdl))
            have hln : (L0 ++ (M ++ [(P, kd, d)])).length ≤ 14 := by rw [← List.append_assoc, HLL.out]; simp; omega
            clear hPj hLn
            by_cases hk4 : kd = 4
            · have hde : decide ((deep : Int) < 3) = false := by
                have : ¬ deep < 3 := fun h => hrec ⟨hk4, h⟩
                simp; omega
              subst hk4
              go_wp2_with fail
              go_roundw
              case rel => exact ⟨i + 3, k + r + 1, M ++ [(P, 4, d)], by go_num, by go_num, by omega, by omega, HU2, HG2, HK1, HK2, HPT2, HLT2, hln⟩
              case measure => simp [intOf]; omega
            · have hk4' : (kd == 4) = false := by simpa using hk4
              have hk4'' : decide (kd = 4) = false := by simpa using hk4
              go_wp2_with fail
              go_roundw
              case rel => exact ⟨i + 3, k + r + 1, M ++ [(P, kd, d)], by go_num, by go_num, by omega, by omega, HU2, HG2, HK1, HK2, HPT2, HLT2, hln⟩
              case measure => simp [intOf]; omega
          case pos =>
            obtain ⟨rfl, hdp⟩ := hrec
            clear hPj hLn
            have hde : decide ((deep : Int) < 3) = true := by simp; omega
            have hd0 : d = [] := by
              have := HMY.out
              simpa [mayNodeN] using this
            subst hd0
            have hbc := HN.out.capn
            obtain ⟨H, hH⟩ : ∃ H, (i + 3 + ns.length) / 2 = H := ⟨_, rfl⟩
            have hH1 : i + 3 ≤ H := by omega
            have hH2 : H ≤ ns.length := by omega
            have hf : ((i : Int) + 3 + (ns.length : Int)) / 2 = (H : Int) := by omega
            have s1 : IntKind.i64.wrap ((i : Int) + 3) = (i : Int) + 3 := IntWalk.i64_in _ (by omega)
            have s2 : (0 : Int) ≤ (i : Int) + 3 := by omega
            have s3 : (i : Int) + 3 ≤ (H : Int) := by omega
            have s4 : (H : Int) ≤ (bc : Int) := by omega
            have s5 : ((i : Int) + 3).toNat = i + 3 := by omega
            have s6 : ((H : Int) - ((i : Int) + 3)).toNat = H - (i + 3) := by omega
            have s7 : IntKind.i64.wrap ((deep : Int) + 1) = (deep : Int) + 1 := IntWalk.i64_in _ (by omega)
            have HN1 := Lib.hid (HN.out.subif (i + 3) H hH1 hH2)
            have HN2 := Lib.hid (HN.out.subif H ns.length hH2 (Nat.le_refl _))
            rw [List.take_of_length_le (Nat.le_refl _)] at HN2
            obtain ⟨ad1, had1⟩ : ∃ x, (if bc = i + 3 then some (⟨b, off, none⟩ : Addr) else some ⟨b, off + (i + 3), none⟩) = x := ⟨_, rfl⟩
            obtain ⟨ad2, had2⟩ : ∃ x, (if bc = H then some (⟨b, off, none⟩ : Addr) else some ⟨b, off + H, none⟩) = x := ⟨_, rfl⟩
            rw [had1] at HN1
            rw [had2] at HN2
            have HCD : Hid (Calls Try.prog 28 #[.slice A3 (L.length + 1) c3, strV P, .slice ad1 (H - (i + 3)) (bc - (i + 3)), tv, .int .i64 ((deep : Int) + 1)] wc.drew fun e w' =>
                ∃ v' M', e = .returned v' ∧ NR W0 w' v' ((L0 ++ (M ++ [(P, 4, [])])) ++ M') ∧ Gr wc.drew w' (.slice A3 (L.length + 1) c3) v' ∧ Part (deep + 1) P 6 M' ∧ Lit4 M' ∧ ((L0 ++ (M ++ [(P, 4, [])])) ++ M').length ≤ 16) := Lib.hid (by
              have := HREC.out hdp wc.drew (.slice A3 (L.length + 1) c3) (.slice ad1 (H - (i + 3)) (bc - (i + 3))) (L0 ++ (M ++ [(P, 4, [])])) P ((ns.take H).drop (i + 3)) (HU2.out.on (Below.refl _ _).drew) HN1.out (by simp; omega) hPl (by rw [← List.append_assoc, HLL.out]; simp; omega)
              rw [show ((deep + 1 : Nat) : Int) = (deep : Int) + 1 from rfl] at this
              exact this)
            clear hH
            go_wp2_with fail
            go_region_held3 (fun w' => w'.cell? ⟨wr.heap.size, 0, none⟩ = some (strV P)) (first | exact c0 | exact hcU | go_keep)
              (first | (go_at_call 28; with_reducible refine HCD.out.mono ?_; rintro _ U ⟨v5, M5, rfl, q1, q2, q3, q4, q5⟩; have hcU := (box3 (q2.kept (W := wc.drew) HBX3.out HNB.out).1).1))
            have HP5 : Hid (Part deep path (k + r + 1) (M ++ ((P, 4, []) :: M5))) := Lib.hid (by
              have := (HPT.out.mono (show k ≤ k + r by omega)).sub (M' := M5) (k' := 6) h5 (by omega) (by rw [← HPJ.out]; exact q3)
              rw [← HPJ.out] at this
              exact this)
            have HG5 : Hid (Gr W U (.slice A L0.length uc) v5) := Lib.hid (HG2.out.trans ⟨⟨q2.grown.os, q2.grown.tape, q2.grown.output, q2.grown.size, q2.grown.block⟩, q2.own⟩)
            have HL5 : Hid (Lit4 (M ++ ((P, 4, []) :: M5))) := Lib.hid (HLT.out.app ((Lit4.one (p := P) (k := 4) (d := []) (by omega) (by simp)).app q4))
            have e5 : (L0 ++ (M ++ [(P, 4, [])])) ++ M5 = L0 ++ (M ++ ((P, 4, []) :: M5)) := by simp
            rw [e5] at q1 q5
            have HD2 := Lib.hid (dir2_any (path := path) (k0 := k + r + 1) (deep := deep) q1 HN2.out (by simp; omega) HT.out htl HTX.out (by omega) (by omega) (by omega) HP5.out HL5.out q5)
            rw [show ((k + r + 1 : Nat) : Int) = (k : Int) + (r : Int) + 1 from rfl] at HD2
            have t1 : (0 : Int) ≤ (H : Int) := by omega
            have t2 : (H : Int) ≤ (ns.length : Int) := by omega
            have t3 : ((ns.length : Int) - (H : Int)).toNat = ns.length - H := by omega
            clear q1 q2 q3 q4 q5 e5
            go_wp2_with fail
            refine HD2.out.mono ?_
            rintro _ U2 ⟨v6, M6, rfl, q1, q2, q3, q4, q5⟩
            have HF : Hid (∃ v' M, (Ending.returned v6 : Ending) = .returned v' ∧ NR W0 U2 v' (L0 ++ M) ∧ Gr W U2 (.slice A L0.length uc) v' ∧ Part deep path 6 M ∧ Lit4 M ∧ (L0 ++ M).length ≤ 16) := Lib.hid ⟨v6, M6, rfl, q1, HG5.out.trans q2, q3, q4, q5⟩
            clear q1 q2 q3 q4 q5
            go_wp2_with fail
            exact bodyPost_ret (v := v6) (by simp [results, Try.results28, go_sem]) rfl HF.out
theorem dir_any {W0 : World} {tv : Value} {tx : List Bs} (ht : SIn W0 tv tx) (htl : tx.length ≤ 8) (htx : ∀ t ∈ tx, t.length ≤ 300) : ∀ (N deep : Nat), deep + N = 3 → DirC W0 tv deep
  | 0, deep, h => dir_step ht htl htx deep (by omega) (Lib.hid fun h3 => by omega)
  | N + 1, deep, h => dir_step ht htl htx deep (by omega) (Lib.hid fun _ => dir_any ht htl htx N (deep + 1) (by omega))
end Go.Proofs.Ytmlefodnbbkilaa

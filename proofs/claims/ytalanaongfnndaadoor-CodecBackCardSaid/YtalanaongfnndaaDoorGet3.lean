/- Walks: letters as bytes, the highest bits first. -/
import Derived.Test.YtalanaongfnndaaDoorGet2
import Derived.Test.YtalanaongfnndaaDoorPairIn
namespace Go.Proofs.YtalanaongfnndaaDoor
open Go.RowKit Go.Shelf

attribute [local go_sem] Oper.semAt_some

theorem i64_wr (x : Int) : IntKind.i64.wrap x = wrap64 x := by unfold wrap64; exact IntKind.wrap_i64 x
theorem shl_n {n b : Nat} (hn : n < 65536) (hb : b ≤ 8) : wrap64 ((n : Int) * 2 ^ b) = ((n * 2 ^ b : Nat) : Int) := by
  have h2 : (2 : Nat) ^ b ≤ 2 ^ 8 := Nat.pow_le_pow_right (by omega) hb
  have h3 : n * 2 ^ b ≤ 65536 * 2 ^ 8 := Nat.mul_le_mul (by omega) h2
  have e : ((n : Int) * 2 ^ b) = ((n * 2 ^ b : Nat) : Int) := by simp
  rw [e]
  unfold wrap64
  omega
theorem u8_wr (n k : Nat) : IntKind.u8.wrap ((n : Int) / 2 ^ k) = ((UInt8.ofNat (n / 2 ^ k)).toNat : Int) := by
  rw [show (n : Int) / 2 ^ k = ((n / 2 ^ k : Nat) : Int) by simp]
  generalize n / 2 ^ k = z
  rw [IntKind.wrap_u8, UInt8.toNat_ofNat']
  omega
theorem shl_lt {n b : Nat} (hn : n < 65536) (hb : b ≤ 8) : n * 2 ^ b < 2 ^ 62 := by
  have h2 : (2 : Nat) ^ b ≤ 2 ^ 8 := Nat.pow_le_pow_right (by omega) hb
  have h3 : n * 2 ^ b ≤ 65536 * 2 ^ 8 := Nat.mul_le_mul (by omega) h2
  omega
theorem and65535 {a : Nat} (ha : a < 2 ^ 62) : bits BinOp.and IntKind.i64 (a : Int) 65535 = ((a % 65536 : Nat) : Int) := by
  have h := and_i64 (b := 65535) ha (by omega)
  rw [show a &&& 65535 = a % 65536 from Nat.and_two_pow_sub_one_eq_mod a 16] at h
  exact h

theorem kq_draws {b d : Nat} (V : World) (x : Ext) : Kq b (plus V x) (plus V ⟨x.blocks, d⟩) := ⟨⟨Nat.le_refl _, fun _ _ h _ => h⟩, rfl, fun _ _ _ _ _ h => h⟩
theorem kq_drew {b : Nat} (V : World) : Kq b V V.drew := ⟨⟨Nat.le_refl _, fun _ _ h _ => h⟩, rfl, fun _ _ _ _ _ h => h⟩
theorem setCell_far (w : World) (p a : Addr) (v : Value) (h : p.block ≠ a.block) : (w.setCell p v).cell? a = w.cell? a := by
  unfold World.cell? World.setCell
  dsimp only
  rw [Array.getElem?_modify, if_neg h]
theorem plus_nothing (W : World) : plus W ⟨#[], W.drawn⟩ = W := by simp [plus]
/-- The invariant of a reading loop. -/
def GI (U : World) (s t : List UInt8) (B : Nat) (st : List UInt8 → Nat × Nat × List UInt8) (pre : List UInt8) (W : World) : Prop :=
  (∀ c ∈ pre, 0 ≤ Lib.indexByte t c) ∧ ∃ v x, W = plus (gBase U s t v (st pre).1 (st pre).2.1) x ∧ rowB W B 5 v (st pre).2.2
theorem gi_own (U : World) (s t : List UInt8) (B C : Nat) (st : List UInt8 → Nat × Nat × List UInt8) (hC : U.heap.size + 1 + 1 + 1 + 1 + 1 ≤ C) : OwnFrom C (GI U s t B st) := by
  rintro pre W W' row ⟨h1, v, x, hW, hr⟩ hg hrow
  obtain ⟨y, hy⟩ := ownFrom_base (fun p : List UInt8 × Value => gBase U s t p.2 (st p.1).1 (st p.1).2.1) (fun _ => by rw [gBase_size]; exact hC) (pre, v) W W' row ⟨x, hW⟩ hg hrow
  refine ⟨h1, v, y, hy, World.ownsRow.kept hr hg ?_⟩
  cases hv : v.ownBlock with
  | none => exact .inl rfl
  | some g =>
    refine .inr (fun he => ?_)
    obtain ⟨_, o, ho, hc⟩ := hrow g he.symm
    rcases hr.2 with ⟨rfl, _⟩ | ⟨g', cap, cur, rfl, _, hh, _⟩
    · cases hv
    · simp [Value.ownBlock] at hv
      subst hv
      rw [ho] at hh
      cases hh
      simp [Obj.isCells] at hc
/-- Where a bad letter came. -/
def GX (U : World) (s t : List UInt8) (c : Code) (pre : List UInt8) (W : World) : Prop := c = .ret ∧ (∃ b ∈ pre, Lib.indexByte t b < 0) ∧ ∃ v n h x, W = plus (gBase U s t v n h) x
theorem gx_own (U : World) (s t : List UInt8) (C : Nat) (hC : U.heap.size + 1 + 1 + 1 + 1 + 1 ≤ C) (c : Code) : OwnFrom C (GX U s t c) := by
  rintro pre W W' row ⟨h0, h1, v, n, h, x, hW⟩ hg hrow
  obtain ⟨y, hy⟩ := ownFrom_base (fun p : Value × Nat × Nat => gBase U s t p.1 p.2.1 p.2.2) (fun _ => by rw [gBase_size]; exact hC) (v, n, h) W W' row ⟨x, hW⟩ hg hrow
  exact ⟨h0, h1, v, n, h, y, hy⟩

abbrev rdU (w : World) (b : Nat) : World := ((w.alloc (.cells #[.int .i64 (b : Int)] 3)).alloc (.cells #[.slice none 0 0] 22)).alloc (.cells #[.bool false] 4)
theorem rdU_size (w : World) (b : Nat) : (rdU w b).heap.size = w.heap.size + 1 + 1 + 1 := by simp

set_option maxRecDepth 100000 in
set_option maxHeartbeats 2000000 in
theorem read_any (s t : List UInt8) (b : Nat) (w : World) (hb : b ≤ 8) (hs : s.length ≤ 1000000) (ht : t.length ≤ 64) :
    Calls Tryd.prog 21 #[strV s, strV t, .int .i64 (b : Int)] w fun e w' => Below w.heap.size w w' ∧
      (((∃ c ∈ s, Lib.indexByte t c < 0) ∧ e = .returned (.tuple #[.slice none 0 0, .bool false])) ∨
       ((∀ c ∈ s, 0 ≤ Lib.indexByte t c) ∧ ∃ v, e = .returned (.tuple #[v, .bool true]) ∧ rowB w' (w.heap.size + 1) 5 v (rdBits t b s).2.2)) := by
  refine (callsIn_wide (n := 4)).1 ?_
  refine callsIn_of_wp_marks Tryd.func21 rfl trivial ?_ rfl
  simp only [Tryd.ntmps21, List.size_toArray, List.length_cons, List.length_nil, Nat.reduceAdd, Nat.reduceSub, Array.replicate_succ, Array.replicate_zero, List.push_toArray, List.append_toArray, List.nil_append, List.cons_append]
  gi_wp2
  refine ⟨trivial, ?_⟩
  refine (values_in _ s t _).mono ?_
  rintro _ _ ⟨rfl, rfl⟩
  gi_wp2
  refine wpIn_rangeFunc_ownF rfl (by omega) (gf := 33) (lb := #[.pointer (some ⟨(rdU w b).heap.size + 1 + 1 + 1, 0, none⟩), .pointer (some ⟨(rdU w b).heap.size + 1 + 1 + 1 + 1, 0, none⟩)]) (by rw [rdU_size]; rfl) trivial (enters_of Tryd.func33 (by kernel_rfl) rfl)
    (values_stops _ (by omega) ((rdU w b).heap.size + 1 + 1 + 1) ((rdU w b).heap.size + 1 + 1 + 1 + 1) s t (gBase (rdU w b) s t (.slice none 0 0) 0 0) (by omega) (gBase_box _ _ _ _ _ _) (gBase_box2 _ _ _ _ _ _)) kpM_t (kpM_b (by simp)) (Below.refl _ _) (fun _ => rfl)
    (GI (rdU w b) s t (w.heap.size + 8) (rdBits t b))
    (GX (rdU w b) s t)
    (gi_own _ _ _ _ _ _ (by simp))
    (gx_own _ _ _ _ (by simp))
    ⟨by simp, .slice none 0 0, ⟨#[], w.drawn⟩, (plus_nothing _).symm, rowB_nil _ _ _⟩
    ?a1 ?assign ?body ?done ?stop
  case assign =>
    intro l x W K hK
    gi_wp2
    exact hK
  case body =>
    rintro l pre c _ ⟨hpre, v, x0, rfl, hr⟩ hlen
    obtain ⟨hb1, hb2, hb3⟩ := rd_bounds t b hb pre
    have HS := Lib.hid (rd_snoc t b pre c)
    generalize rdBits t b pre = st at *
    obtain ⟨n, h, o⟩ := st
    simp only at hr hb1 hb2 hb3 ⊢
    have hix := idx_lt t c
    obtain ⟨ix, hie⟩ : ∃ ix, Lib.indexByte t c = ix := ⟨_, rfl⟩
    have HIE := Lib.hid hie
    rw [hie] at hix
    rw [hie]
    clear hie
    by_cases hneg : ix < 0
    · have hd0 : decide (ix < 0) = true := by simp [hneg]
      unfold gBase
      gi_wp2
      refine ⟨KeepsOthers.refl _, rfl, ⟨c, by simp, by rw [HIE.out]; exact hneg⟩, v, n, h, x0, ?_⟩
      unfold gBase
      rfl
    · have hd0 : decide (ix < 0) = false := by simp [hneg]
      obtain ⟨y, rfl⟩ := Int.eq_ofNat_of_zero_le (Int.not_lt.1 hneg)
      clear hneg
      have hy : y < 64 := by omega
      have hsl := shl_n hb1 hb
      have hsl2 := shl_lt hb1 hb
      have hor := or_i64 hsl2 (show y < 2 ^ 62 by omega)
      have hor2 := Nat.or_lt_two_pow hsl2 (show y < 2 ^ 62 by omega)
      have hand := and65535 hor2
      have hm : (n * 2 ^ b ||| y) % 65536 < 65536 := Nat.mod_lt _ (by omega)
      obtain ⟨m, hme⟩ : ∃ m, (n * 2 ^ b ||| y) % 65536 = m := ⟨_, rfl⟩
      rw [hme] at hand hm
      have HME := Lib.hid hme
      clear hme
      have hw1 : bits BinOp.and IntKind.i64 (bits BinOp.or IntKind.i64 (IntKind.i64.wrap ((n : Int) * 2 ^ b)) (y : Int)) 65535 = (m : Int) := by
        rw [i64_wr, hsl, hor, hand]
      have hw2 : bits BinOp.and IntKind.i64 (bits BinOp.or IntKind.i64 ((n : Int) * 2 ^ b) (y : Int)) 65535 = (m : Int) := by
        rw [show (n : Int) * 2 ^ b = ((n * 2 ^ b : Nat) : Int) by simp, hor, hand]
      have HM1 := Lib.hid hw1
      clear hsl hsl2 hor hor2 hand
      obtain ⟨g, hg⟩ : ∃ g, w.heap.size = g := ⟨_, rfl⟩
      have hgs : (rdU w b).heap.size = g + 1 + 1 + 1 := by rw [rdU_size, hg]
      obtain ⟨U, hU⟩ : ∃ U, rdU w b = U := ⟨_, rfl⟩
      have c5 : U.cell? ⟨g, 0, none⟩ = some (.int .i64 (b : Int)) := by
        rw [← hU, ← hg]
        simp only [World.cell?, rdU, World.alloc, Array.getElem?_push, Array.size_push]
        rw [if_neg (by omega), if_neg (by omega), if_pos trivial]
        rfl
      rw [hU] at hgs hr ⊢
      rw [hg] at hr ⊢
      have c8 := gBase_cell8 U s t v n h x0
      have c9 := gBase_cell9 U s t v n h x0
      have c10 := gBase_cell10 U s t v n h x0
      have c5' : (plus (gBase U s t v n h) x0).cell? ⟨g, 0, none⟩ = some (.int .i64 (b : Int)) := (gBase_cellOld U s t v n h x0 g 0 (by omega)).trans c5
      have f9 := gBase_frozen U s t v n h x0 (U.heap.size + 1) (by omega) (by omega)
      have f10 := gBase_frozen U s t v n h x0 (U.heap.size + 1 + 1) (by omega) (by omega)
      obtain ⟨WW, hWW⟩ : ∃ WW, plus (gBase U s t v n h) x0 = WW := ⟨_, rfl⟩
      rw [hWW] at c8 c9 c10 c5' f9 f10 ⊢
      rw [hgs] at c8 c9 c10 f9 f10
      have HH := Lib.hid hWW
      have HR := Lib.hid hr
      have HP := Lib.hid hpre
      clear hWW hr hpre c5
      simp only [Nat.add_assoc, Nat.reduceAdd] at *
      gi_wp2
      obtain ⟨W1, hW1⟩ : ∃ W1, WW.drew.setCell ⟨g + 4, 0, none⟩ (.int .i64 (m : Int)) = W1 := ⟨_, rfl⟩
      obtain ⟨W2, hW2⟩ : ∃ W2, W1.setCell ⟨g + 5, 0, none⟩ (.int .i64 ((h : Int) + (b : Int))) = W2 := ⟨_, rfl⟩
      have d5 : W1.cell? ⟨g, 0, none⟩ = some (.int .i64 (b : Int)) := by rw [← hW1, setCell_far _ _ _ _ (by simp)]; exact c5'
      have d10 : W1.cell? ⟨g + 5, 0, none⟩ = some (.int .i64 (h : Int)) := by rw [← hW1, setCell_far _ _ _ _ (by simp)]; exact c10
      have e10 : W1.frozen? ⟨g + 5, 0, none⟩ = false := by rw [← hW1, World.frozen?_setCell]; exact f10
      refine wpIn_region_pair 9 39 [false, false, false, false, false, false, true, true, true] W1 mixed (by kernel_rfl) (by kernel_rfl) rfl (by kernel_rfl) ?_
      simp only [List.take_succ_cons, List.take_zero]
      refine pairHead_early (v := .int .i64 (n : Int)) rfl (by go_simp) ?_
      refine pairHead_early (v := .int .i64 (b : Int)) rfl (by go_simp) ?_
      refine pairHead_early (v := .int .i64 (IntKind.i64.wrap ((n : Int) * 2 ^ b))) rfl (by go_simp) ?_
      refine pairHead_early (v := .int .i64 (y : Int)) rfl (by go_simp) ?_
      refine pairHead_early (v := .int .i64 (bits BinOp.or IntKind.i64 (IntKind.i64.wrap ((n : Int) * 2 ^ b)) (y : Int))) rfl (by go_simp) ?_
      refine pairHead_early (v := .int .i64 (m : Int)) rfl (by go_simp) ?_
      have hwh : IntKind.i64.wrap ((h : Int) + (b : Int)) = (h : Int) + (b : Int) := (i64_wr _).trans (by unfold wrap64; omega)
      refine pairHead_late (v := .int .i64 (h : Int)) rfl (by go_simp) (by go_simp) ?_
      refine pairHead_late (v := .int .i64 (b : Int)) rfl (by go_simp) (by go_simp) ?_
      refine pairHead_late (v := .int .i64 ((h : Int) + (b : Int))) rfl (by go_simp) (by go_simp) ?_
      unfold pairHead
      simp only [List.getElem?_cons_succ, List.getElem?_cons_zero, List.drop_succ_cons, List.drop_zero]
      refine ⟨undef, ⟨rfl, .inr ⟨by go_simp, rfl⟩⟩, ?_⟩
      simp only [Act.put, List.setIfInBounds_toArray, List.set_cons_succ, List.set_cons_zero]
      go_wp2_with fail
      rw [onlyN_normal]
      -- the world behind the two stores
      have hW : W2 = plus (gBase U s t v m (h + b)) ⟨x0.blocks, x0.draws + 1⟩ := by
        have e1 : WW.drew = plus (gBase U s t v n h) ⟨x0.blocks, x0.draws + 1⟩ := by rw [← HH.out]; rfl
        rw [← hW2, ← hW1, e1, show g + 4 = U.heap.size + 1 by omega, show g + 5 = U.heap.size + 1 + 1 by omega, gBase_set9, show (h : Int) + (b : Int) = ((h + b : Nat) : Int) by simp, gBase_set10]
      obtain ⟨x1, hx1⟩ : ∃ x1 : Ext, x1 = ⟨x0.blocks, x0.draws + 1⟩ := ⟨_, rfl⟩
      have HKQ := Lib.hid (show Kq (U.heap.size + 1 + 1 + 1 + 1) WW W2 by rw [← HH.out, hW]; exact kq_t (kq_base U s t v v n m h (h + b) x0) (kq_draws _ _))
      have HR1 := Lib.hid (show rowB W2 (g + 8) 5 v o by
        rw [hW]
        have hr2 := rowB_shift (V := gBase U s t v m (h + b)) (by rw [gBase_size, gBase_size]) (by rw [gBase_size]; omega) HR.out
        exact hr2)
      rw [← hx1] at hW
      clear hx1 hW1 hW2 hwh hw1 hw2 d5 d10 e10 c5' c8 c9 c10 f9 f10 HR
      have c8 := gBase_cell8 U s t v m (h + b) x1
      have c9 := gBase_cell9 U s t v m (h + b) x1
      have c10 := gBase_cell10 U s t v m (h + b) x1
      have f10 := gBase_frozen U s t v m (h + b) x1 (U.heap.size + 1 + 1) (by omega) (by omega)
      rw [← hW, hgs] at c8 c9 c10 f10
      have HW := Lib.hid hW
      clear hW
      simp only [Nat.add_assoc, Nat.reduceAdd] at c8 c9 c10 f10
      push_cast at c10
      by_cases h8 : 8 ≤ h + b
      · have hd8 : decide ((8 : Int) ≤ (h : Int) + (b : Int)) = true := by simp; omega
        gi_wp2
        obtain ⟨k, hk⟩ : ∃ k, h + b - 8 = k := ⟨_, rfl⟩
        have hki : (h : Int) + (b : Int) - 8 = (k : Int) := by omega
        have hk8 : k < 8 := by omega
        rw [hki]
        obtain ⟨W3, hW3⟩ : ∃ W3, W2.setCell ⟨g + 5, 0, none⟩ (.int .i64 (k : Int)) = W3 := ⟨_, rfl⟩
        rw [hW3]
        have hW4 : W3 = plus (gBase U s t v m k) x1 := by rw [← hW3, HW.out, show g + 5 = U.heap.size + 1 + 1 by omega, gBase_set10]
        have HKQ3 := Lib.hid (show Kq (U.heap.size + 1 + 1 + 1 + 1) WW W3 from kq_t HKQ.out (by rw [HW.out, hW4]; exact kq_base U s t v v m m (h + b) k x1))
        have HR3 := Lib.hid (show rowB W3 (g + 8) 5 v o by
          rw [hW4]
          have hrr := HR1.out
          rw [HW.out] at hrr
          exact rowB_shift (by rw [gBase_size, gBase_size]) (by rw [gBase_size]; omega) hrr)
        clear hW3 c8 c9 c10 f10
        have c8 := gBase_cell8 U s t v m k x1
        have c9 := gBase_cell9 U s t v m k x1
        have c10 := gBase_cell10 U s t v m k x1
        have f8 := gBase_frozen U s t v m k x1 U.heap.size (by omega) (by omega)
        rw [← hW4, hgs] at c8 c9 c10 f8
        have hhas : ∀ k', k' < g + 8 → has W3 k' := fun k' hk' => by rw [hW4]; exact has_plus (gBase_has U s t v m k k' (by omega))
        have hs3 := hhas (g + 3) (by omega)
        have hs4 := hhas (g + 4) (by omega)
        have hs5 := hhas (g + 5) (by omega)
        have HHAS := Lib.hid hhas
        have HW4 := Lib.hid hW4
        clear hhas
        clear hW4
        simp only [Nat.add_assoc, Nat.reduceAdd] at c8 c9 c10 f8
        obtain ⟨p, hp⟩ : ∃ p, UInt8.ofNat (m / 2 ^ k) = p := ⟨_, rfl⟩
        have hu8 : IntKind.u8.wrap ((m : Int) / 2 ^ k) = (p.toNat : Int) := by rw [u8_wr, hp]
        have HPP := Lib.hid hp
        have HK := Lib.hid hk
        clear hp hk
        refine wpIn_region_pair 5 39 [true, true, true, true, false] (W3.drew.alloc (.cells #[.int .u8 (p.toNat : Int)] 5)) mixed (by kernel_rfl) (by kernel_rfl) rfl (by kernel_rfl) ?_
        simp only [List.take_succ_cons, List.take_zero]
        refine pairHead_late (v := v) rfl (by go_simp) (by go_simp) ?_
        refine pairHead_late (v := .int .i64 (m : Int)) rfl (by go_simp) (by go_simp) ?_
        refine pairHead_late (v := .int .i64 (k : Int)) rfl (by go_simp) (by go_simp) ?_
        refine pairHead_late (v := .int .i64 ((m : Int) / 2 ^ k)) rfl (by go_simp) (by go_simp) ?_
        refine pairHead_early (v := .int .u8 (p.toNat : Int)) rfl (by go_simp) ?_
        unfold pairHead
        simp only [List.getElem?_cons_succ, List.getElem?_cons_zero, List.drop_succ_cons, List.drop_zero]
        refine ⟨.slice (some ⟨W3.heap.size, 0, none⟩) 1 1, ⟨rfl, .inl (by go_simp)⟩, ?_⟩
        simp only [Act.put, List.setIfInBounds_toArray, List.set_cons_succ, List.set_cons_zero]
        have HR4 := Lib.hid (rowB_drew HR3.out)
        have HSZ := Lib.hid (show g + 8 ≤ W3.drew.heap.size by have := HHAS.out (g + 7) (by omega); exact this)
        have HO := Lib.hid (show o.length ≤ 1000000 by have := hb3; have := hlen; omega)
        go_wp2_with (at_builtin; refine wpList_appendG rfl _ _ 22 5 rfl Tryd.underlying22 info8 (g + 8) v _ [p] rfl HR4.out _ 1 1 rfl rfl rfl (by have := HO.out; simp; omega) HSZ.out ?_; intro v' w1 hrow1 hbel1 hkq1; obtain ⟨A5, c5, rfl⟩ := rowB_form hrow1; have HR5 := Lib.hid hrow1; have HB5 := Lib.hid hbel1; have HK5 := Lib.hid hkq1; clear hrow1 hbel1 hkq1; have hw1 : ∀ k', k' < g + 8 → w1.heap[k']? = W3.heap[k']? := fun k' hk' => HB5.out.block k' hk'; have hc1 : w1.cell? ⟨g + 3, 0, none⟩ = some v := (World.cell?_of_block (hw1 (g + 3) (by omega))).trans c8; have hf1 : w1.frozen? ⟨g + 3, 0, none⟩ = false := (World.frozen?_of_block (hw1 (g + 3) (by omega))).trans f8; have HW1 := Lib.hid hw1; clear hw1)
        have HR5' := Lib.hid (show rowB w1 (g + 8) 5 (.slice A5 (o.length + 1) c5) (o ++ [p]) by have := HR5.out; simp only [List.length_append, List.length_cons, List.length_nil, Nat.zero_add] at this; exact this)
        have hgs' : (gBase U s t v m k).heap.size = g + 8 := by rw [gBase_size]; omega
        have hbw : Below (gBase U s t v m k).heap.size (gBase U s t v m k) w1 := by
          rw [hgs']
          refine Below.trans ?_ HB5.out
          have := below_plus (gBase U s t v m k) x1
          rw [hgs'] at this
          rw [HW4.out]
          exact Below.drew this
        obtain ⟨x3, hx3⟩ := plus_of_below hbw
        have hset : w1.setCell ⟨g + 3, 0, none⟩ (.slice A5 (o.length + 1) c5) = plus (gBase U s t (.slice A5 (o.length + 1) c5) m k) x3 := by
          rw [hx3, show g + 3 = U.heap.size by omega, gBase_set8]
        have hR6 := HR5'.out
        rw [hx3] at hR6
        have hR7 := rowB_shift (V := gBase U s t (.slice A5 (o.length + 1) c5) m k) (by rw [gBase_size, gBase_size]) (by omega) hR6
        have hkq : Kq (U.heap.size + 1 + 1 + 1 + 1) WW (w1.setCell ⟨g + 3, 0, none⟩ (.slice A5 (o.length + 1) c5)) := by
          have e1 := kq_t HKQ3.out (kq_drew W3)
          have e2 := kq_t e1 (HK5.out (U.heap.size + 1 + 1 + 1 + 1) (by omega))
          rw [hset]
          refine kq_t e2 ?_
          rw [hx3]
          exact kq_base U s t v _ m m k k x3
        refine ⟨hkq.1, hkq.2, ?_, .slice A5 (o.length + 1) c5, x3, ?_, ?_⟩
        · intro c' hc'
          rcases List.mem_append.1 hc' with hc' | hc'
          · exact HP.out c' hc'
          · rw [List.mem_singleton.1 hc', HIE.out]
            exact Int.natCast_nonneg y
        · rw [hset, HS.out]
          simp only [rdStep, HIE.out, Int.toNat_natCast, HME.out, if_pos h8, HK.out]
        · rw [HS.out, hset]
          simp only [rdStep, HIE.out, Int.toNat_natCast, HME.out, if_pos h8, HK.out, HPP.out]
          exact hR7
      · have hd8 : decide ((8 : Int) ≤ (h : Int) + (b : Int)) = false := by simp; omega
        gi_wp2
        refine ⟨HKQ.out.1, HKQ.out.2, ?_, v, x1, ?_, ?_⟩
        · intro c' hc'
          rcases List.mem_append.1 hc' with hc' | hc'
          · exact HP.out c' hc'
          · rw [List.mem_singleton.1 hc', HIE.out]
            exact Int.natCast_nonneg y
        · rw [HW.out, HS.out]
          simp only [rdStep, HIE.out, Int.toNat_natCast, HME.out, if_neg h8]
        · rw [HS.out]
          simp only [rdStep, if_neg h8]
          exact HR1.out
  case done =>
    rintro D ys _ hD rfl ⟨hall, v, x0, rfl, hr⟩ hK
    obtain ⟨A, c, rfl⟩ := rowB_form hr
    obtain ⟨o, ho⟩ : ∃ o, (rdBits t b ys).2.2 = o := ⟨_, rfl⟩
    have HO := Lib.hid ho
    rw [ho] at hr hK ⊢
    clear ho
    generalize (rdBits t b ys).1 = n at *
    generalize (rdBits t b ys).2.1 = h at *
    have HR := Lib.hid hr
    have hD' : w.heap.size + 1 + 1 + 1 + 1 + 1 + 1 + 1 + 1 ≤ D := by simpa using hD
    clear hr
    have HK := Lib.hid hK
    clear hK
    unfold gBase
    gi_wp2
    obtain ⟨U, hU⟩ : ∃ U, U = ((w.alloc (.cells #[.int .i64 (b : Int)] 3)).alloc (.cells #[.slice A o.length c] 22)).alloc (.cells #[.bool true] 4) := ⟨_, rfl⟩
    have hUs : U.heap.size = w.heap.size + 1 + 1 + 1 := by rw [hU]; simp
    change bodyPostM _ _ _ _ _ _ _ (plus (gBase (((w.alloc (.cells #[.int .i64 (b : Int)] 3)).alloc (.cells #[.slice A o.length c] 22)).alloc (.cells #[.bool true] 4)) ys t (.slice A o.length c) n h) x0)
    rw [← hU]
    have hK' := (plus_at_beyond (gBase U ys t (.slice A o.length c) n h) _ x0 D (by rw [gBase_size, gBase_size, hUs, rdU_size]) (by rw [gBase_size, hUs]; exact hD')).trans HK.out
    refine ⟨by simp, .inl ⟨_, _, rfl, run_takeDeferred hK', ?_⟩⟩
    obtain ⟨y, hy⟩ := put_at_beyond (gBase U ys t (.slice A o.length c) n h) x0 D (.deferred none) (by rw [gBase_size, hUs]; exact hD')
    have hrow : rowB (plus (gBase U ys t (.slice A o.length c) n h) y) (w.heap.size + 1) 5 (.slice A o.length c) o := by
      have h1 := rowB_shift (V := gBase U ys t (.slice A o.length c) n h) (by rw [gBase_size, gBase_size, hUs, rdU_size]) (by rw [gBase_size, rdU_size]; omega) HR.out
      have h2 := World.ownsRow.kept h1 (grownBy_putObj' _ D (.deferred none)) (by
        by_cases he : (Value.slice A o.length c).ownBlock = some D
        · exfalso
          rcases h1.2 with ⟨he2, _⟩ | ⟨g', cap, cur, he2, _, hh, _⟩
          · rw [he2] at he; cases he
          · rw [he2] at he
            simp [Value.ownBlock] at he
            subst he
            rw [hK'] at hh
            cases hh
        · exact .inr he)
      rw [hy] at h2
      obtain ⟨h3, h4⟩ := h2
      refine ⟨h3, ?_⟩
      rcases h4 with h4 | ⟨g', cap, cur, he, hb', rest⟩
      · exact .inl h4
      · exact .inr ⟨g', cap, cur, he, by omega, rest⟩
    rw [hy]
    refine ⟨.tuple #[.slice A o.length c, .bool true], by rw [hU]; simp [results, Tryd.results21, go_sem, gBase], ?_, .inr ⟨hall, _, rfl, by rw [HO.out]; exact hrow⟩⟩
    rw [hU]
    unfold gBase
    repeat (first | exact Below.refl _ _ | refine Below.setCell ?_ (by first | (simp; done) | (simp; omega) | (simp [size_plus]; done) | (simp [size_plus]; omega)) _ | refine Below.alloc ?_ (by first | (simp; done) | (simp; omega) | (simp [size_plus]; done) | (simp [size_plus]; omega)) _ | refine Below.drew ?_ | refine Below.plus ?_ (by first | (simp; done) | (simp; omega) | (simp [size_plus]; done) | (simp [size_plus]; omega)) _)
  case stop =>
    rintro D c pre _ hD ⟨k, rfl⟩ ⟨rfl, ⟨c0, hc0, hneg⟩, v, n, h, x0, rfl⟩ hK
    have hD' : w.heap.size + 1 + 1 + 1 + 1 + 1 + 1 + 1 + 1 ≤ D := by simpa using hD
    have HK := Lib.hid hK
    clear hK
    unfold gBase
    gi_wp2
    change bodyPostM _ _ _ _ _ _ _ (plus (gBase (rdU w b) s t v n h) x0)
    refine ⟨by simp, .inl ⟨_, _, rfl, run_takeDeferred HK.out, ?_⟩⟩
    obtain ⟨y, hy⟩ := put_at_beyond (gBase (rdU w b) s t v n h) x0 D (.deferred none) (by rw [gBase_size, rdU_size]; exact hD')
    rw [hy]
    refine ⟨.tuple #[.slice none 0 0, .bool false], by simp [results, Tryd.results21, go_sem, gBase], ?_, .inl ⟨⟨c0, List.mem_of_mem_take hc0, hneg⟩, rfl⟩⟩
    unfold gBase
    repeat (first | exact Below.refl _ _ | refine Below.setCell ?_ (by first | (simp; done) | (simp; omega) | (simp [size_plus]; done) | (simp [size_plus]; omega)) _ | refine Below.alloc ?_ (by first | (simp; done) | (simp; omega) | (simp [size_plus]; done) | (simp [size_plus]; omega)) _ | refine Below.drew ?_ | refine Below.plus ?_ (by first | (simp; done) | (simp; omega) | (simp [size_plus]; done) | (simp [size_plus]; omega)) _)
end Go.Proofs.YtalanaongfnndaaDoor

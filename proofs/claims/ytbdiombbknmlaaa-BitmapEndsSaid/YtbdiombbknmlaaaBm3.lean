/- Walks: runs without places struck. -/
import Derived.Test.YtbdiombbknmlaaaBm2
namespace Go.Proofs.Ytbdiombbknmlaaa
open Go.RowKit

theorem flatR_set (l : List Run) (i : Nat) (x : Run) (h : i < l.length) : flatR (l.set i x) = ((flatR l).set (i * 2) (.int .i64 x.1)).set (i * 2 + 1) (.int .i64 x.2) := by
  induction l generalizing i with
  | nil => simp at h
  | cons y l ih =>
    cases i with
    | zero => rfl
    | succ i =>
      have e : ∀ (z : Run) (m : List Run), flatR (z :: m) = .int .i64 z.1 :: .int .i64 z.2 :: flatR m := fun _ _ => rfl
      rw [List.set_cons_succ, e, e, ih i (by simpa using h), show (i + 1) * 2 = i * 2 + 1 + 1 by omega, show i * 2 + 1 + 1 + 1 = (i * 2 + 1) + 1 + 1 by omega]
      rfl
section
variable {w W : World} {g n c : Nat} {l : List Run}
theorem RR.cap {A : Option Addr} (h : RR w W (.slice A n c) l) : l.length ≤ c := by
  rcases h.row.2 with ⟨h0, h1⟩ | ⟨g', cap, cur, hv, hb, hh, hnc, hcm, hcs, ht⟩
  · simp at h0; omega
  · obtain ⟨-, -, rfl⟩ := by simpa only [Value.slice.injEq] using hv
    exact hnc
/-- A cell of the row turned. -/
theorem RR.cell (h : RR w W (.slice (some ⟨g, 0, none⟩) n c) l) (j : Nat) (u : Value) (hj : n = l.length) :
    (W.setCell ⟨g, j, none⟩ u).ownsRow 0 28 2 (.slice (some ⟨g, 0, none⟩) n c) l.length ((flatR l).set j u) ∧ Below w.heap.size w (W.setCell ⟨g, j, none⟩ u) := by
  subst hj
  exact ⟨(h.row.stored j u).1, h.below.trans ⟨rfl, rfl, rfl, by rw [setCell_size]; exact Nat.le_refl _, fun k hk => setCell_other W g j k u (by have := h.own g rfl; omega)⟩⟩
/-- A run put. -/
theorem RR.put (h : RR w W (.slice (some ⟨g, 0, none⟩) n c) l) (i : Nat) (x : Run) (hn : n = l.length) (hi : i < l.length) :
    RR w ((W.setCell ⟨g, i * 2, none⟩ (.int .i64 x.1)).setCell ⟨g, i * 2 + 1, none⟩ (.int .i64 x.2)) (.slice (some ⟨g, 0, none⟩) n c) (l.set i x) := by
  subst hn
  obtain ⟨h1, h2⟩ := h.cell (i * 2) (.int .i64 x.1) rfl
  have h3 := (h1.stored (i * 2 + 1) (.int .i64 x.2)).1
  refine ⟨?_, h2.trans ⟨rfl, rfl, rfl, by rw [setCell_size, setCell_size, setCell_size]; exact Nat.le_refl _, fun k hk => setCell_other _ g _ k _ (by have := h.own g rfl; omega)⟩, h.own⟩
  rw [flatR_set l i x hi, List.length_set]
  exact h3
/-- What lies behind counts for nothing. -/
theorem RR.tail : ∀ (zs : List Value) (o : Nat) (W : World), RR w W (.slice (some ⟨g, 0, none⟩) n c) l → n = l.length → n * 2 ≤ o → RR w (W.setCells g o zs) (.slice (some ⟨g, 0, none⟩) n c) l
  | [], _, _, h, _, _ => h
  | z :: zs, o, W, h, hn, ho => by
    obtain ⟨h1, h2⟩ := h.cell o z hn
    rw [List.set_eq_of_length_le (by rw [flatR_length]; omega)] at h1
    exact RR.tail zs (o + 1) _ ⟨h1, h2, h.own⟩ hn (by omega)
/-- A part of it from its beginning. -/
theorem RR.take (h : RR w W (.slice (some ⟨g, 0, none⟩) n c) l) (i : Nat) (hi : i ≤ l.length) : RR w W (.slice (some ⟨g, 0, none⟩) i c) (l.take i) := by
  refine ⟨?_, h.below, fun k hk => h.own k hk⟩
  rcases h.row.2 with ⟨h0, _⟩ | ⟨g', cap, cur, hv, hb, hh, hnc, hcm, hcs, ht⟩
  · simp at h0
  · obtain ⟨⟨rfl, -, -⟩, -, rfl⟩ := by simpa only [Value.slice.injEq, Option.some.injEq, Addr.mk.injEq] using hv
    have hl : (l.take i).length = i := by simp; omega
    refine ⟨by rw [flatR_length], .inr ⟨g, c, cur, by rw [hl], hb, hh, by omega, hcm, hcs, ?_⟩⟩
    have e : flatR (l.take i) = (flatR l).take (i * 2) := by
      conv => rhs; rw [← List.take_append_drop i l, flatR_append, List.take_append_of_le_length (by rw [flatR_length, hl]; exact Nat.le_refl _), List.take_of_length_le (by rw [flatR_length, hl]; exact Nat.le_refl _)]
    rw [hl, e, ← ht, List.take_take, Nat.min_eq_left (by omega)]
end
theorem run_clear_runs (w : World) (ty : TypeId) (b o n c : Nat) (hn : 0 < n) (hc : ∀ j, j < n * 2 → (w.cell? ⟨b, o + j, none⟩).isSome = true) (hf : ∀ j, j < n * 2 → w.frozen? ⟨b, o + j, none⟩ = false) :
    ∃ zs, (Builtin.clear_ #[23] ty #[.slice (some ⟨b, o, none⟩) n c]).run Try.prog w = .ok (.tuple #[]) (w.setCells b o zs) := by
  refine ⟨(Builtin.zeroCells #[.int .i64 0, .int .i64 0] n).toList, ?_⟩
  have hl : (Builtin.zeroCells #[.int .i64 0, .int .i64 0] n).toList.length = n * 2 := by simp [Builtin.zeroCells]
  have hz : ∀ v ∈ (Builtin.zeroCells #[.int .i64 0, .int .i64 0] n).toList, v.oneCell' = true := by
    intro v hv
    simp [Builtin.zeroCells] at hv
    obtain ⟨i, hi, rfl⟩ := hv
    rcases Nat.mod_two_eq_zero_or_one i with h | h <;> simp [h] <;> rfl
  have hst := run_storeCells_cells (P := Try.prog) b o (Builtin.zeroCells #[.int .i64 0, .int .i64 0] n).toList 0 w (by simpa [hl] using hc) (by simpa [hl] using hf) hz
  simp only [Nat.add_zero] at hst
  have hzv : ∀ w, (zeroValue 28).run Try.prog w = .ok (.agg #[.int .i64 0, .int .i64 0]) w := Try.zeroValue28
  obtain ⟨m, rfl⟩ : ∃ m, n = m + 1 := ⟨n - 1, by omega⟩
  have hcells : (Value.agg #[.int .i64 0, .int .i64 0]).cells = #[.int .i64 0, .int .i64 0] := by rfl
  simp [Builtin.clear_, run_underlying Try.underlying23, hzv, hcells, hst]
/-- What is struck, on the way. -/
structure Del (l cl : List Run) (i j : Nat) : Prop where
  len : cl.length = l.length
  ij : i < j
  jn : j ≤ l.length
  pre : cl.take i = (l.take j).filter fun x => decide (1 ≤ x.2)
  suf : cl.drop j = l.drop j
theorem Del.at {l cl : List Run} {i j : Nat} (h : Del l cl i j) : cl[j]? = l[j]? := by
  have := congrArg (fun m => m[0]?) h.suf
  simpa using this
theorem Del.keep {l cl : List Run} {i j : Nat} (h : Del l cl i j) (x : Run) (hx : l[j]? = some x) (hp : 1 ≤ x.2) : Del l (cl.set i x) (i + 1) (j + 1) := by
  have hj := (List.getElem?_eq_some_iff.1 hx).1
  have hxe : l[j] = x := (List.getElem?_eq_some_iff.1 hx).2
  have h1 := h.ij
  have h2 := h.len
  refine ⟨by simpa using h.len, by omega, by omega, ?_, ?_⟩
  · rw [List.take_succ_eq_append_getElem hj, List.filter_append, ← h.pre, List.take_succ_eq_append_getElem (by simp; omega), List.take_set_of_le (Nat.le_refl _), hxe]
    simp [hp]
  · rw [List.drop_set_of_lt (by omega)]
    have := congrArg (List.drop 1) h.suf
    simpa [List.drop_drop] using this
theorem Del.skip {l cl : List Run} {i j : Nat} (h : Del l cl i j) (x : Run) (hx : l[j]? = some x) (hp : ¬ 1 ≤ x.2) : Del l cl i (j + 1) := by
  have hj := (List.getElem?_eq_some_iff.1 hx).1
  have hxe : l[j] = x := (List.getElem?_eq_some_iff.1 hx).2
  have h1 := h.ij
  refine ⟨h.len, by omega, by omega, ?_, ?_⟩
  · rw [List.take_succ_eq_append_getElem hj, List.filter_append, ← h.pre, hxe]
    simp [hp]
  · have := congrArg (List.drop 1) h.suf
    simpa [List.drop_drop] using this
theorem Del.start {l : List Run} {k : Nat} {x : Run} (hx : l[k]? = some x) (hb : x.2 < 1) (hn : ∀ j, j < k → ∀ y, l[j]? = some y → 1 ≤ y.2) : Del l l k (k + 1) := by
  have hk := (List.getElem?_eq_some_iff.1 hx).1
  have hxe : l[k] = x := (List.getElem?_eq_some_iff.1 hx).2
  refine ⟨rfl, by omega, by omega, ?_, rfl⟩
  rw [List.take_succ_eq_append_getElem hk, List.filter_append, hxe, List.filter_eq_self.2]
  · have : ¬ 1 ≤ x.2 := by omega
    simp [this]
  · intro y hy
    obtain ⟨j, hj⟩ := List.getElem?_of_mem hy
    have hj2 := (List.getElem?_eq_some_iff.1 hj).1
    have hjk : j < k := by simp at hj2; omega
    rw [List.getElem?_take, if_pos hjk] at hj
    simpa using hn j hjk y hj
theorem cells2 {W : World} {p : Nat} {a b : Value} {e : TypeId} {fr : Nat × Nat} (h : W.heap[p]? = some (.cells #[a, b] e fr)) : W.cell? ⟨p, 0, none⟩ = some a ∧ W.cell? ⟨p, 1, none⟩ = some b := by
  refine ⟨?_, ?_⟩ <;> simp [World.cell?, h]
set_option maxRecDepth 100000 in
theorem delete_any {w W : World} {v : Value} {l : List Run} (h : RR w W v l) (hl : l.length ≤ 1000000) :
    Calls Try.prog 21 #[v, .func (.func 23) #[] #[]] W fun e w' => ∃ v', e = .returned v' ∧ RR w w' v' (l.filter fun x => decide (1 ≤ x.2)) := by
  have HI := Lib.hid (index_any h hl)
  obtain ⟨A, c, rfl⟩ := h.form
  go_enter Try.func21, Try.ntmps21
  go_wp2_with fail
  refine HI.out.mono ?_
  rintro _ V ⟨⟨i0, rfl, hi0⟩, hb⟩
  replace h := h.on hb
  clear hb HI
  rcases hi0 with ⟨rfl, hall⟩ | ⟨k, x, rfl, hx, hbad, hpre⟩
  · have hf : (l.filter fun x => decide (1 ≤ x.2)) = l := List.filter_eq_self.2 fun x hx => by simpa using hall x hx
    have HF := Lib.hid hf
    clear hall hf
    go_wp2_with fail
    exact bodyPost_ret (v := .slice A l.length c) (by simp [results, Try.results21, go_sem]) rfl ⟨_, rfl, by rw [HF.out]; exact h⟩
  · have hkl := (List.getElem?_eq_some_iff.1 hx).1
    have HD := Lib.hid (Del.start hx hbad hpre)
    have hk1 : decide ((k : Int) = -1) = false := by simp
    have hk2 : ((k : Int) == -1) = false := by simp
    have hcap := h.cap
    obtain ⟨g, rfl, -⟩ := h.at k x hx
    clear hx hbad hpre x
    go_wp2_with fail
    rename_i K hK
    have HKK := Lib.hid hK
    clear hK
    go_loopw [5, 6] (fun u z wr => ∃ (i j : Nat) (cl : List Run), u = .int .i64 i ∧ z = .int .i64 j ∧ j ≤ l.length ∧ Hid (Del l cl i j) ∧ Hid (RR w wr (.slice (some ⟨g, 0, none⟩) l.length c) cl)) (fun _ z _ => l.length - (intOf z).toNat)
    case atStart => exact ⟨k, k + 1, l, rfl, by go_num, by omega, HD.out, h⟩
    case round =>
      clear h HD
      obtain ⟨i, j, cl, rfl, rfl, hj, HD, HR⟩ := hrel
      have hR := HR.out
      have hij := HD.out.ij
      have HL := Lib.hid HD.out.len
      clear HR
      by_cases hlt : j < l.length
      · have hd : decide ((j : Int) < (l.length : Int)) = true := by simp; omega
        obtain ⟨x, hx⟩ : ∃ x, l[j]? = some x := ⟨_, List.getElem?_eq_getElem hlt⟩
        obtain ⟨g', hg', -, g1, g2, g3, gf⟩ := hR.at j x (HD.out.at.trans hx)
        simp only [Option.some.injEq, Addr.mk.injEq] at hg'
        obtain ⟨rfl, -, -⟩ := hg'
        have HX := Lib.hid hx
        clear hx
        have hi : i < l.length := by omega
        go_wp2_with fail
        have hbox := new_at wr (.cells #[.int .i64 x.1, .int .i64 x.2] 28)
        have hR2 := hR.on ((Below.refl _ wr).alloc (Nat.le_refl _) (.cells #[.int .i64 x.1, .int .i64 x.2] 28))
        refine (closR_any x _).mono ?_
        rintro _ V2 ⟨rfl, hb⟩
        replace hbox := keeps_below hbox hb
        replace hR2 := hR2.on hb
        clear hb g1 g2 g3 gf hR
        obtain ⟨b1, b2⟩ := cells2 hbox
        by_cases h1 : x.2 < 1
        · have e1 : decide (x.2 < 1) = true := by simpa using h1
          rw [e1]
          have HDN := Lib.hid (HD.out.skip x HX.out (by omega))
          have HRN := Lib.hid hR2
          clear h1 e1 hbox b1 b2 hR2
          go_wp2_with fail
          go_roundw
          case rel => exact ⟨i, j + 1, cl, rfl, by go_num, by omega, HDN.out, HRN.out⟩
          case measure => simp [intOf]; omega
        · have e1 : decide (x.2 < 1) = false := by simpa using h1
          rw [e1]
          have HDN := Lib.hid (HD.out.keep x HX.out (by omega))
          have HRN := Lib.hid (hR2.put i x HL.out.symm (by have := HL.out; omega))
          obtain ⟨y, hy⟩ : ∃ y, cl[i]? = some y := ⟨_, List.getElem?_eq_getElem (by have := HL.out; omega)⟩
          obtain ⟨g', hg', -, g1, g2, g3, gf⟩ := hR2.at i y hy
          simp only [Option.some.injEq, Addr.mk.injEq] at hg'
          obtain ⟨rfl, -, -⟩ := hg'
          clear h1 e1 hbox hR2 hy
          go_wp2_with fail
          go_roundw
          case rel => exact ⟨i + 1, j + 1, cl.set i x, by go_num, by go_num, by omega, HDN.out, HRN.out⟩
          case measure => simp [intOf]; omega
      · obtain rfl : j = l.length := by omega
        have hd : decide ((l.length : Int) < (l.length : Int)) = false := by simp
        go_wp2_with fail
        refine HKK.out _ _ ?_
        clear HKK
        have hci : ¬ c = i := by omega
        obtain ⟨g', hg', hown, hh, hcs, hfz⟩ : ∃ g' : Nat, g' = g ∧ w.heap.size ≤ g ∧ has wr g ∧ (∀ j, j < (l.length - i) * 2 → (wr.cell? ⟨g, i * 2 + j, none⟩).isSome = true) ∧ ∀ j, wr.frozen? ⟨g, j, none⟩ = false := by
          refine ⟨g, rfl, hR.own g rfl, hR.lt g rfl, fun j hj => ?_, fun j => ?_⟩
          · have hrow := hR.row
            rw [HL.out] at hrow
            rw [hrow.cellAt (i * 2 + j) (by omega), List.getElem?_eq_getElem (by rw [flatR_length, HL.out]; omega)]
            rfl
          · have hrow := hR.row
            rw [HL.out] at hrow
            exact hrow.frozenAt j
        obtain ⟨zs, hcl⟩ := run_clear_runs wr 0 g (i * 2) (l.length - i) (c - i) (by omega) hcs (fun j _ => hfz _)
        have HT := Lib.hid (RR.tail zs (i * 2) wr (hR.take i (by have := HL.out; omega)) (by simp; have := HL.out; omega) (Nat.le_refl _))
        clear hcs hfz hR hg' g'
        go_wp2_with fail
        have hpre := HD.out.pre
        rw [List.take_length] at hpre
        exact bodyPost_ret (v := .slice (some ⟨g, 0, none⟩) i c) (by simp [results, Try.results21, go_sem]) rfl ⟨_, rfl, by rw [← hpre]; exact HT.out⟩
end Go.Proofs.Ytbdiombbknmlaaa

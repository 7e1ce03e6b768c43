/- Walks: the packer's builder: written, and read. -/
import Derived.Test.YtmlefodnbbkilaaNa7
import Derived.Lib.FrozenHead
import Derived.Lib.Builder
namespace Go.Proofs.Ytmlefodnbbkilaa
open Go.RowKit

/-- What a packer says: its bytes lie in a row of the call's own. -/
structure PkAt (B P : Nat) (v lv : Value) (s : Bs) (W : World) : Prop where
  cells : ∃ p, (p = .pointer none ∨ p = .pointer (some ⟨P, 0, none⟩)) ∧ W.heap[P]? = some (.cells #[p, v, lv] 59 (0, 0))
  row : W.ownsRowF B 5 1 v s.length (Lib.byteCells s)
  ne : v.ownBlock ≠ some P
  base : B ≤ P
/-- From one world to a later one, the packer's bytes written on; all else is as it was. -/
structure PkTo (P : Nat) (v v' : Value) (W W' : World) : Prop where
  os : W'.os = W.os
  tape : W'.tape = W.tape
  output : W'.output = W.output
  size : W.heap.size ≤ W'.heap.size
  kept : ∀ k, k < W.heap.size → k ≠ P → v.ownBlock ≠ some k → W'.heap[k]? = W.heap[k]?
  own : ∀ k, v'.ownBlock = some k → v.ownBlock = some k ∨ W.heap.size ≤ k
section
variable {B P : Nat} {v v' v2 lv : Value} {s : Bs} {W W' W2 : World} {o : Obj}
theorem PkAt.lt (h : PkAt B P v lv s W) : P < W.heap.size := by
  obtain ⟨p, _, hc⟩ := h.cells
  exact has_box hc
theorem PkAt.own (h : PkAt B P v lv s W) : ∀ k, v.ownBlock = some k → B ≤ k ∧ k < W.heap.size := by
  intro k hk
  rcases h.row.2 with ⟨rfl, _⟩ | ⟨g, cap, cur, fz, rfl, hb, hg, _⟩
  · cases hk
  · cases hk
    exact ⟨hb, has_box hg⟩
theorem PkTo.refl (P : Nat) (v : Value) (W : World) : PkTo P v v W W := ⟨rfl, rfl, rfl, Nat.le_refl _, fun _ _ _ _ => rfl, fun _ h => .inl h⟩
theorem PkTo.trans (h : PkTo P v v' W W') (h2 : PkTo P v' v2 W' W2) : PkTo P v v2 W W2 := by
  refine ⟨h2.os.trans h.os, h2.tape.trans h.tape, h2.output.trans h.output, Nat.le_trans h.size h2.size, fun k h1 h3 h4 => ?_, fun k hk => ?_⟩
  · refine (h2.kept k (Nat.lt_of_lt_of_le h1 h.size) h3 fun e => ?_).trans (h.kept k h1 h3 h4)
    rcases h.own k e with h5 | h5
    · exact h4 h5
    · omega
  · have := h.size
    rcases h2.own k hk with h5 | h5
    · exact h.own k h5
    · exact .inr (by omega)
theorem PkTo.below (h : PkTo P v v' W W') (ha : PkAt B P v lv s W) : Below B W W' :=
  ⟨h.os, h.tape, h.output, h.size, fun k hk => h.kept k (by have := ha.lt; have := ha.base; omega) (by have := ha.base; omega) fun e => by have := (ha.own k e).1; omega⟩
/-- A block that is no part of it stays. -/
theorem PkTo.keep (h : PkTo P v v' W W') {k : Nat} (hk : W.heap[k]? = some o) (h1 : k ≠ P) (h2 : v.ownBlock ≠ some k) : W'.heap[k]? = some o ∧ v'.ownBlock ≠ some k := by
  have hlt : k < W.heap.size := has_box hk
  refine ⟨(h.kept k hlt h1 h2).trans hk, fun e => ?_⟩
  rcases h.own k e with h5 | h5
  · exact h2 h5
  · omega
/-- What is laid beside it. -/
theorem PkTo.of_below (h : Below W.heap.size W W') : PkTo P v v W W' := ⟨h.os, h.tape, h.output, h.size, fun k hk _ _ => h.block k hk, fun _ h => .inl h⟩
theorem PkAt.on (h : PkAt B P v lv s W) (hb : Below W.heap.size W W') : PkAt B P v lv s W' := by
  obtain ⟨p, hp, hc⟩ := h.cells
  refine ⟨⟨p, hp, (hb.block P h.lt).trans hc⟩, ?_, h.ne, h.base⟩
  refine ⟨h.row.1, ?_⟩
  rcases h.row.2 with h0 | ⟨g, cap, cur, fz, rfl, h1, h2, h3⟩
  · exact .inl h0
  · exact .inr ⟨g, cap, cur, fz, rfl, h1, (hb.block g (has_box h2)).trans h2, h3⟩
end
theorem str_cells (s : Bs) : Lib.strCells ⟨s.toArray⟩ = Lib.byteCells s := by
  first | rfl | simp [Lib.strCells, Lib.byteCells]
theorem info57 : (Try.prog.info? 57).map (·.size) = some 2 := by kernel_rfl
theorem lies57 : liesAt Try.prog Try.prog.depth 59 (3 / Try.prog.cellsOf 59) 0 57 1 = true := by kernel_rfl
set_option maxRecDepth 100000 in
theorem check_any {B P : Nat} {v lv : Value} {s : Bs} {W : World} (h : PkAt B P v lv s W) :
    Calls Try.prog 62 #[.pointer (some ⟨P, 0, none⟩)] W fun e w' => e = .returned (.tuple #[]) ∧ (w' = W ∨ w' = W.setCell ⟨P, 0, none⟩ (.pointer (some ⟨P, 0, none⟩))) ∧ w'.heap[P]? = some (.cells #[.pointer (some ⟨P, 0, none⟩), v, lv] 59 (0, 0)) := by
  obtain ⟨p, hp, hc⟩ := h.cells
  have h0 : W.cell? ⟨P, 0, none⟩ = some p := by simp [World.cell?, hc]
  rcases hp with rfl | rfl
  · obtain ⟨j, hj, hjs⟩ := Option.map_eq_some_iff.1 info57
    have hsh : W.shape? P = some (59, 3) := by simp [World.shape?, hc]
    have hfz : W.frozen? ⟨P, 0, none⟩ = false := Lib.frozen_of_heap hc 0
    have hfin := setCell_block hc 0 (.pointer (some ⟨P, 0, none⟩))
    have HF := Lib.hid hfin
    clear hfin
    go_enter Try.func62, Try.ntmps62
    go_wp2_with fail
    rw [Lib.run_to_unsafe W ⟨P, 0, none⟩ Try.underlying55 Try.underlying112 hj (by rw [hjs]; decide) hsh (Nat.zero_lt_succ 2)]
    simp only [Result.andThen]
    rw [Oper.upon_value]
    go_wp2_with fail
    rw [run_callFunc_extern Try.func75 (by kernel_rfl) (by kernel_rfl) (by kernel_rfl) (e := Extern.AbiNoEscape.same) (by kernel_rfl)]
    rw [Lib.run_noEscape]
    simp only [Result.andThen]
    rw [Oper.upon_value]
    go_wp2_with fail
    rw [Lib.run_from_unsafe W ⟨P, 0, none⟩ Try.underlying112 Try.underlying55 hj hsh lies57]
    simp only [Result.andThen]
    rw [Oper.upon_value]
    go_wp2_with fail
    go_end0
    exact ⟨rfl, .inr rfl, HF.out⟩
  · have HF := Lib.hid hc
    clear hc
    go_enter Try.func62, Try.ntmps62
    go_wp2_with fail
    obtain ⟨j, hj, -⟩ := Option.map_eq_some_iff.1 info57
    rw [Lib.run_neq_ptr_same W _ Try.underlying55 hj]
    go_wp2_with fail
    go_end0
    exact ⟨rfl, .inl rfl, HF.out⟩
open Go.Lib in
theorem append_str_where {P : Program} {w w' : World} {t u ty e : TypeId} {i : TypeInfo} {v v' : Value} {base n : Nat} {xs : List Value} {s : ByteArray} (ht : P.underlying t = some (.slice e)) (hu : P.underlying u = some .string) (hi : P.info? e = some i) (hz : i.zero = some (.int .u8 0))
    (hsize : i.size = 1) (hby : i.bytes = 1) (hown : w.ownsRowF base e 1 v n xs) (h63 : n + s.size ≤ maxLen) (hbytes : n + s.size ≤ 140737488355328) (hr : (Builtin.append_ #[t, u] ty #[v, .string s]).run P w = .ok v' w') :
    ∀ k, v'.ownBlock = some k → v.ownBlock = some k ∨ w.heap.size ≤ k := by
  rcases hown.2 with ⟨rfl, rfl⟩ | ⟨g, cap, cur, fz, rfl, hbg, hg, hfz, hnc, hcm, hcs, htake⟩
  · obtain ⟨v2, w2, h1, h2, h3, h4⟩ := run_append_own_string (P := P) w w.heap.size t u ty e i ht hu hi hz hsize hby (.slice none 0 0) 0 xs ⟨hown.1, .inl ⟨rfl, rfl⟩⟩ s h63 hbytes (Nat.le_refl _)
    rw [hr] at h1
    injection h1 with e1 _
    subst e1
    intro k hk
    exact .inr (World.ownsRow.lt h2 k hk).1
  · have hxl : xs.length = n := by simpa using hown.1
    by_cases hroom : n + s.size ≤ cap
    · have hr2 := hr.symm.trans (run_append_room_stringF (P := P) w t u ty e i ht hu hi hsize g n cap cur fz hg (by simpa using hfz) s hroom (by simp only [Nat.mul_one] at hcs; omega))
      injection hr2 with e1 _
      subst e1
      intro k hk
      exact .inl hk
    · have hsmall : n + s.size ≤ 9223372036854775807 := by simp only [maxLen] at h63; omega
      have holds : ∀ j u, xs[j]? = some u → w.cell? ((⟨g, 0, none⟩ : Addr).add j) = some u := hown.cells (g := g) rfl
      have hr2 := hr.symm.trans (run_append_grow_string (P := P) w t u ty e i (.int .u8 0) ht hu hi hz ⟨g, 0, none⟩ n cap xs (by rw [hsize]; simpa using hxl) holds s (by omega) (by omega) (by rw [hby]; exact growslice_fits (by omega) (by omega)))
      injection hr2 with e1 _
      subst e1
      intro k hk
      simp only [Value.ownBlock, Option.some.injEq] at hk
      exact .inr (by omega)
open Go.Lib in
/-- The operation, with where the row lies then. -/
theorem wpList_appendS {P : Program} {w : World} {ops : Array Oper} {rest : List Oper} {o : Oper} {a : Act} {Q : Exit → Act → World → Prop} (hgd : o.guard = none) (sl x : Operand) (t u : TypeId)
    (ho : o.op = .call { callee := .builtin .append, args := #[sl, x], argTypes := #[t, u] })
    (base : Nat) (e : TypeId) (i : TypeInfo) (ht : P.underlying t = some (.slice e)) (hu : P.underlying u = some .string) (hi : P.info? e = some i) (hz : i.zero = some (.int .u8 0))
    (hsize : i.size = 1) (hby : i.bytes = 1)
    (v : Value) (n : Nat) (xs : List Value) (hs : a.eval sl = v) (hown : w.ownsRowF base e 1 v n xs) (s : ByteArray) (hx : a.eval x = .string s)
    (h63 : n + s.size ≤ maxLen) (hbytes : n + s.size ≤ 140737488355328) (hbase : base ≤ w.heap.size)
    (h : ∀ v' w', w'.ownsRowF base e 1 v' (n + s.size) (xs ++ strCells s) → w.grownBy w' v.ownBlock → (∀ k, v'.ownBlock = some k → v.ownBlock = some k ∨ w.heap.size ≤ k) → wpList P ops Q rest (a.put o.dst v') w') : wpList P ops Q (o :: rest) a w := by
  refine wpList_plain hgd fun K hK => ?_
  obtain ⟨v', w', hr, h2, h3, h4⟩ := run_append_own_stringF (P := P) w base t u o.type e i ht hu hi hz hsize hby v n xs hown s h63 hbytes hbase
  have hwh := append_str_where ht hu hi hz hsize hby hown h63 hbytes hr
  unfold Oper.wp execOp
  simp only [ho, resolve, invoke, builtin, Sem.run_bind, Sem.run_pure, Result.andThen_ok, List.map_toArray, List.map_cons, List.map_nil, hs, hx, hr]
  exact hK _ _ (h v' w' h2 h3 hwh)
theorem info5u : (Try.prog.info? 5).map (fun i => (i.zero, i.size, i.bytes)) = some (some (.int .u8 0), 1, 1) := by kernel_rfl
set_option maxRecDepth 100000 in
theorem write_any {B P : Nat} {v lv : Value} {s : Bs} {W : World} (x : Bs) (h : PkAt B P v lv s W) (hl : s.length + x.length ≤ 100000000000000) :
    Calls Try.prog 48 #[.pointer (some ⟨P, 0, none⟩), strV x] W fun e w' => (∃ n, e = .returned (.tuple #[n, .nilIface])) ∧ ∃ v', PkAt B P v' lv (s ++ x) w' ∧ PkTo P v v' W w' := by
  have HC := Lib.hid (check_any h)
  have H := Lib.hid h
  clear h
  have hi5 := info5u
  obtain ⟨i0, hi, hz, hs, hb⟩ := info_parts hi5
  clear hi5
  go_enter Try.func48, Try.ntmps48
  go_wp2_with fail
  refine HC.out.mono ?_
  rintro _ V ⟨rfl, hV, hVP⟩
  have hrow : V.ownsRowF B 5 1 v s.length (Lib.byteCells s) := by
    rcases hV with rfl | rfl
    · exact H.out.row
    · obtain ⟨r1, r2⟩ := H.out.row
      refine ⟨r1, ?_⟩
      rcases r2 with h0 | ⟨g, cap, cur, fz, rfl, h1, h2, h3⟩
      · exact .inl h0
      · exact .inr ⟨g, cap, cur, fz, rfl, h1, (setCell_other W P 0 g _ fun e => H.out.ne (by rw [← e]; rfl)).trans h2, h3⟩
  have hsz : V.heap.size = W.heap.size := by
    rcases hV with rfl | rfl
    · rfl
    · exact setCell_size _ _ _
  have hto : PkTo P v v W V := by
    rcases hV with rfl | rfl
    · exact PkTo.refl _ _ _
    · exact ⟨rfl, rfl, rfl, by rw [setCell_size]; exact Nat.le_refl _, fun k hk h1 _ => setCell_other W P 0 k _ h1, fun _ h => .inl h⟩
  have HTO := Lib.hid hto
  have HP := Lib.hid hVP
  have HSZ := Lib.hid hsz
  have hBV : B ≤ V.heap.size := by have := H.out.base; have := H.out.lt; omega
  have c1 : V.cell? ⟨P, 1, none⟩ = some v := by simp [World.cell?, hVP]
  clear hV hVP hto hsz HC
  go_wp2_with (at_builtin; refine wpList_appendS rfl _ _ 22 9 rfl B 5 i0 Try.underlying22 Try.underlying9 hi hz hs hb _ _ _ rfl hrow ⟨x.toArray⟩ rfl ?c3 ?c4 ?c5 ?_)
  case c3 => have : (⟨x.toArray⟩ : ByteArray).size = x.length := rfl; unfold maxLen; omega
  case c4 => have : (⟨x.toArray⟩ : ByteArray).size = x.length := rfl; omega
  case c5 => exact hBV
  intro v' w2 hrow2 hg2 hown2
  have hlP : P < V.heap.size := has_box HP.out
  have hPw : w2.heap[P]? = some (.cells #[.pointer (some ⟨P, 0, none⟩), v, lv] 59 (0, 0)) := (hg2.block P hlP fun e => H.out.ne e.symm).trans HP.out
  have d0 : w2.cell? ⟨P, 0, none⟩ = some (.pointer (some ⟨P, 0, none⟩)) := by simp [World.cell?, hPw]
  have d1 : w2.cell? ⟨P, 1, none⟩ = some v := by simp [World.cell?, hPw]
  have f1 : w2.frozen? ⟨P, 1, none⟩ = false := Lib.frozen_of_heap hPw 1
  have hne2 : v'.ownBlock ≠ some P := fun e => by
    rcases hown2 P e with h1 | h1
    · exact H.out.ne h1
    · omega
  have hrow3 : (w2.setCell ⟨P, 1, none⟩ v').ownsRowF B 5 1 v' (s ++ x).length (Lib.byteCells (s ++ x)) := by
    have e1 : (s ++ x).length = s.length + (⟨x.toArray⟩ : ByteArray).size := by rw [List.length_append]; rfl
    have e2 : Lib.byteCells (s ++ x) = Lib.byteCells s ++ Lib.strCells ⟨x.toArray⟩ := by rw [str_cells]; simp [Lib.byteCells]
    rw [e1, e2]
    obtain ⟨r1, r2⟩ := hrow2
    refine ⟨r1, ?_⟩
    rcases r2 with h0 | ⟨g, cap, cur, fz, rfl, h1, h2, h3⟩
    · exact .inl h0
    · exact .inr ⟨g, cap, cur, fz, rfl, h1, (setCell_other w2 P 1 g _ fun e => hne2 (by rw [← e]; rfl)).trans h2, h3⟩
  have hfin : PkAt B P v' lv (s ++ x) (w2.setCell ⟨P, 1, none⟩ v') := ⟨⟨_, .inr rfl, setCell_block hPw 1 v'⟩, hrow3, hne2, H.out.base⟩
  have hto2 : PkTo P v v' V (w2.setCell ⟨P, 1, none⟩ v') := ⟨hg2.os, hg2.tape, hg2.output, by rw [setCell_size]; exact hg2.size, fun k hk h1 h2 => (setCell_other w2 P 1 k v' h1).trans (hg2.block k hk fun e => h2 e.symm), hown2⟩
  have HFIN := Lib.hid (And.intro hfin (HTO.out.trans hto2))
  obtain ⟨ao, n', cap, rfl⟩ : ∃ ao n' cap, v' = .slice ao n' cap := by
    rcases hrow3.2 with ⟨hv, _⟩ | ⟨g, cap, cur, fz, hv, _⟩
    · exact ⟨_, _, _, hv⟩
    · exact ⟨_, _, _, hv⟩
  clear hfin hto2 hrow3 hne2 hPw hown2 hg2 hrow2 hrow c1 HTO HP HSZ H hlP
  go_wp2_with fail
  exact bodyPost_ret (v := .tuple #[.int .i64 (x.length : Int), .nilIface]) (by simp [results, Try.results48, go_sem]) rfl ⟨⟨_, rfl⟩, _, HFIN.out⟩
set_option maxHeartbeats 1000000 in
set_option maxRecDepth 100000 in
/-- A packer's whole text; it says it no more than once. -/
theorem said_any {B P : Nat} {v lv : Value} {s : Bs} {W : World} (h : PkAt B P v lv s W) (h0 : s ≠ []) :
    Calls Try.prog 31 #[.pointer (some ⟨P, 0, none⟩)] W fun e w' => e = .returned (strV s) ∧ Below B W w' := by
  obtain ⟨p, hp, hbk⟩ := h.cells
  have hown := h.row
  have hl0 : s.length ≠ 0 := by simpa using h0
  obtain ⟨g, cap, cur, fz, rfl, hbg, hg, hfz, hnc, hcm, hcs, htake⟩ : ∃ g cap cur fz, v = .slice (some ⟨g, 0, none⟩) s.length cap ∧ B ≤ g ∧ W.heap[g]? = some (.cells cur 5 fz) ∧ fz.2 ≤ s.length * 1 ∧ s.length ≤ cap ∧ cap ≤ maxLen ∧ cur.size = cap * 1 ∧ cur.toList.take (s.length * 1) = Lib.byteCells s := by
    rcases hown.2 with ⟨_, hz⟩ | ⟨g, cap, cur, fz, hv, r⟩
    · exact absurd hz hl0
    · exact ⟨g, cap, cur, fz, hv, r⟩
  have c1 : W.drew.cell? ⟨P, 1, none⟩ = some (.slice (some ⟨g, 0, none⟩) s.length cap) := by
    have : W.drew.heap[P]? = some (.cells #[p, .slice (some ⟨g, 0, none⟩) s.length cap, lv] 59 (0, 0)) := hbk
    rw [Lib.cell_of_heap this]; rfl
  have hSD : (Builtin.unsafeSliceData_ #[22] 88 #[.slice (some ⟨g, 0, none⟩) s.length cap]).run Try.prog W.drew = .ok (.pointer (some ⟨g, 0, none⟩)) W.drew :=
    Lib.run_unsafeSliceData_row _ _ _ _ _ _ (by omega)
  have hUS : (Builtin.unsafeString_ #[88, 3] 9 #[.pointer (some ⟨g, 0, none⟩), .int .i64 s.length]).run Try.prog W.drew = .ok (.string ⟨s.toArray⟩) (W.drew.freeze ⟨g, 0, none⟩ s.length) := by
    refine Lib.run_unsafeString_row W.drew 88 3 9 5 Try.underlying88 (by kernel_rfl) g cur.size (by have hg' : W.drew.heap[g]? = some (.cells cur 5 fz) := hg; simp [World.shape?, hg']) s h0 (by omega) (by unfold maxLen at hcm; omega) ?_
    intro j x hx
    have := hown.cells (g := g) rfl j (.int .u8 x.toNat) (by simp [Lib.byteCells, hx])
    exact this
  have HB : Hid (Below B W (W.drew.freeze ⟨g, 0, none⟩ s.length)) := Lib.hid (Lib.below_freeze (Below.drew (Below.refl B W)) (p := ⟨g, 0, none⟩) hbg _)
  clear hown hl0 hbg hg hfz hnc hcm hcs htake hbk hp h h0
  have mixed := mixed
  go_enter Try.func31, Try.ntmps31
  go_wp2
  go_region_o
  all_goals
    go_wp2
    go_ret
    exact ⟨rfl, HB.out⟩
end Go.Proofs.Ytmlefodnbbkilaa

/- Walks: files behind a directory. -/
import Derived.Test.YtmlefodnbbkilaaMk1
import Derived.Test.YtmlefodnbbkilaaNa6
import Derived.Deep.RegionHeld3
import Derived.StillTail
namespace Go.Proofs.Ytmlefodnbbkilaa
open Go.RowKit

/-- A row that grew: what else there was stands as it stood. -/
structure Gr (W W' : World) (v v' : Value) : Prop where
  grown : W.grownBy W' v.ownBlock
  own : ∀ b, v'.ownBlock = some b → v.ownBlock = some b ∨ W.heap.size ≤ b
theorem Gr.refl (W : World) (v : Value) : Gr W W v v := ⟨World.grownBy.refl _ _, fun _ h => .inl h⟩
theorem Gr.trans {W W1 W2 : World} {u v x : Value} (h : Gr W W1 u v) (h2 : Gr W1 W2 v x) : Gr W W2 u x := by
  refine ⟨⟨h2.grown.os.trans h.grown.os, h2.grown.tape.trans h.grown.tape, h2.grown.output.trans h.grown.output, Nat.le_trans h.grown.size h2.grown.size, fun b hb hn => ?_⟩, fun b hb => ?_⟩
  · refine (h2.grown.block b (Nat.lt_of_lt_of_le hb h.grown.size) fun e => ?_).trans (h.grown.block b hb hn)
    rcases h.own b e.symm with h3 | h3
    · exact hn h3.symm
    · omega
  · have := h.grown.size
    rcases h2.own b hb with h3 | h3
    · exact h.own b h3
    · exact .inr (by omega)
theorem Gr.kept {W W' : World} {v v' : Value} (h : Gr W W' v v') {b : Nat} {o : Obj} (hb : W.heap[b]? = some o) (hn : ∀ k, v.ownBlock = some k → k ≠ b) : W'.heap[b]? = some o ∧ ∀ k, v'.ownBlock = some k → k ≠ b := by
  have hl := (Array.getElem?_eq_some_iff.1 hb).1
  refine ⟨(h.grown.block b hl fun e => hn b e.symm rfl).trans hb, fun k hk => ?_⟩
  rcases h.own k hk with h1 | h1
  · exact hn k h1
  · omega
/-- More was laid, then the row grew. -/
theorem Gr.of {W W1 W2 : World} {v v' : Value} (hb : Below W.heap.size W W1) (hg : W1.grownBy W2 v.ownBlock) (ho : ∀ b, v'.ownBlock = some b → v.ownBlock = some b ∨ W1.heap.size ≤ b) : Gr W W2 v v' := by
  have := hb.size
  refine ⟨⟨hg.os.trans hb.os, hg.tape.trans hb.tape, hg.output.trans hb.output, by have := hg.size; omega, fun b h1 h2 => (hg.block b (by omega) h2).trans (hb.block b h1)⟩, fun b h => ?_⟩
  rcases ho b h with h1 | h1
  · exact .inl h1
  · exact .inr (by omega)
abbrev NR (w W : World) (v : Value) (l : List Nd) : Prop := XR 37 3 encNd w W v l
theorem info37 : (Try.prog.info? 37).map (fun i => (i.zero, i.size, i.bytes)) = some (some (.agg #[strV [], .int .i64 0, strV []]), 3, 40) := by kernel_rfl
/-- The names, as they lie. -/
def nmA : Array Value := #[strV [97], strV [98, 46, 99], strV [98, 105, 110], strV [108, 105, 98], strV [120, 32, 121], strV [122]]
theorem nmA_at {W : World} {g : Nat} (h : W.heap[g]? = some (.cells nmA 9)) : ∀ k, k < 6 → W.cell? ⟨g, k, none⟩ = some (strV (nmK k))
  | 0, _ => by simp [World.cell?, h]; rfl
  | 1, _ => by simp [World.cell?, h]; rfl
  | 2, _ => by simp [World.cell?, h]; rfl
  | 3, _ => by simp [World.cell?, h]; rfl
  | 4, _ => by simp [World.cell?, h]; rfl
  | 5, _ => by simp [World.cell?, h]; rfl
  | k + 6, h => by omega
theorem box3 {W : World} {b t : Nat} {x y z : Value} (h : W.heap[b]? = some (.cells #[x, y, z] t)) : W.cell? ⟨b, 0, none⟩ = some x ∧ W.cell? ⟨b, 1, none⟩ = some y ∧ W.cell? ⟨b, 2, none⟩ = some z ∧ W.frozen? ⟨b, 0, none⟩ = false := by
  simp [World.cell?, World.frozen?, h]
theorem box3_set {W : World} {b t : Nat} {x y z : Value} (h : W.heap[b]? = some (.cells #[x, y, z] t)) (u : Value) : (W.setCell ⟨b, 0, none⟩ u).heap[b]? = some (.cells #[u, y, z] t) := setCell_block h 0 u
theorem path_join (path : Bs) (hp : path ≠ []) (nm : Bs) : joinP path nm = path ++ [47] ++ nm := by
  unfold joinP
  rw [if_neg (by simpa using hp)]
  simp

set_option maxRecDepth 100000 in
set_option maxHeartbeats 1000000 in
theorem dir2_any {W0 W : World} {v nv tv : Value} {L0 M0 : List Nd} {path ns : Bs} {tx : List Bs} {deep k0 : Nat} (h : NR W0 W v (L0 ++ M0)) (hn : BIn W0 nv ns) (hnl : ns.length ≤ 9223372036854775807) (ht : SIn W0 tv tx) (htl : tx.length ≤ 8) (htx : ∀ t ∈ tx, t.length ≤ 300)
    (hp : path.length ≤ 20) (hd : deep < 64) (hk : k0 ≤ 6) (hP : Part deep path k0 M0) (hL : Lit4 M0) (hlen : (L0 ++ M0).length ≤ 16) :
    Calls Try.prog 47 #[v, strV path, nv, tv, .int .i64 k0] W fun e w' => ∃ v' M, e = .returned v' ∧ NR W0 w' v' (L0 ++ M) ∧ Gr W w' v v' ∧ Part deep path 6 M ∧ Lit4 M ∧ (L0 ++ M).length ≤ 16 := by
  obtain ⟨A, uc, rfl⟩ := h.form
  obtain ⟨B, bc, rfl⟩ := hn.form
  have HN := Lib.hid hn
  have HT := Lib.hid ht
  have HTX := Lib.hid htx
  have HPT := Lib.hid hP
  have HLT := Lib.hid hL
  have hbel : Below W.heap.size W (W.alloc (.cells nmA 9)) := (Below.refl _ W).alloc (Nat.le_refl _) _
  have HR := Lib.hid (h.on hbel)
  have HG0 : Hid (Gr W (W.alloc (.cells nmA 9)) (.slice A (L0 ++ M0).length uc) (.slice A (L0 ++ M0).length uc)) := Lib.hid (Gr.of hbel (World.grownBy.refl _ _) fun b hb => .inl hb)
  have HNM : Hid ((W.alloc (.cells nmA 9)).heap[W.heap.size]? = some (.cells nmA 9)) := Lib.hid (new_at W _)
  have HNO : Hid (∀ k, (Value.slice A (L0 ++ M0).length uc).ownBlock = some k → k ≠ W.heap.size) := Lib.hid fun k hk => by have := h.lt k hk; omega
  have HBEL := Lib.hid hbel
  clear h hn ht htx hP hL hbel
  go_enter Try.func47, Try.ntmps47
  go_wp2_with fail
  rename_i K hK
  have HKK := Lib.hid hK
  clear hK
  go_loopw [12, 0] (fun z u wr => ∃ (i : Nat) (M : List Nd), z = .int .i64 i ∧ i ≤ ns.length ∧ i ≤ 6 ∧ Hid (NR W0 wr u (L0 ++ M)) ∧ Hid (Gr W wr (.slice A (L0 ++ M0).length uc) u) ∧ Hid (wr.heap[W.heap.size]? = some (.cells nmA 9)) ∧ Hid (∀ k, u.ownBlock = some k → k ≠ W.heap.size) ∧ Hid (Part deep path (k0 + i) M) ∧ k0 + i ≤ 6 ∧ Hid (Lit4 M) ∧ (L0 ++ M).length ≤ 16) (fun z _ _ => 6 - (intOf z).toNat)
  case atStart => exact ⟨0, M0, by simp, by omega, by omega, HR, HG0, HNM, HNO, by simpa using HPT, by omega, HLT, hlen⟩
  case round =>
    clear HR HG0 HNM HNO HPT HLT HBEL hlen
    obtain ⟨i, M, rfl, hi, hi6, HR, HG, HNM, HNO, HPT, hk6, HLT, hlen⟩ := hrel
    obtain ⟨L, hL⟩ : ∃ L, L0 ++ M = L := ⟨_, rfl⟩
    rw [hL] at HR hlen
    have HLL := Lib.hid hL
    clear hL
    obtain ⟨A2, c2, rfl⟩ := HR.out.form
    by_cases h1 : i < ns.length
    case neg =>
      have hd1 : decide ((i : Int) < (ns.length : Int)) = false := by simp; omega
      go_wp2_with fail
      refine HKK.out _ _ ?_
      go_wp2_with fail
      exact bodyPost_ret (v := .slice A2 L.length c2) (by simp [results, Try.results47, go_sem]) rfl ⟨_, M, rfl, by rw [HLL.out]; exact HR.out, HG.out, HPT.out.mono hk6, HLT.out, by rw [HLL.out]; exact hlen⟩
    have hd1 : decide ((i : Int) < (ns.length : Int)) = true := by simp; omega
    by_cases h2 : k0 + i < 6
    case neg =>
      have hd2 : decide ((k0 : Int) + (i : Int) < 6) = false := by simp; omega
      go_wp2_with fail
      refine HKK.out _ _ ?_
      go_wp2_with fail
      exact bodyPost_ret (v := .slice A2 L.length c2) (by simp [results, Try.results47, go_sem]) rfl ⟨_, M, rfl, by rw [HLL.out]; exact HR.out, HG.out, HPT.out.mono hk6, HLT.out, by rw [HLL.out]; exact hlen⟩
    have hd2 : decide ((k0 : Int) + (i : Int) < 6) = true := by simp; omega
    by_cases h3 : L.length < 16
    case neg =>
      have hd3 : decide ((L.length : Int) < 16) = false := by simp; omega
      go_wp2_with fail
      refine HKK.out _ _ ?_
      go_wp2_with fail
      exact bodyPost_ret (v := .slice A2 L.length c2) (by simp [results, Try.results47, go_sem]) rfl ⟨_, M, rfl, by rw [HLL.out]; exact HR.out, HG.out, HPT.out.mono hk6, HLT.out, by rw [HLL.out]; exact hlen⟩
    have hd3 : decide ((L.length : Int) < 16) = true := by simp; omega
    obtain ⟨b, off, rfl, hb, hy⟩ := bin_at (HN.out.on HR.out.below) i h1
    obtain ⟨m, hm, hm2⟩ : ∃ m : Nat, (ns.getD i 0).toNat = m ∧ m ≤ 255 := ⟨_, rfl, by have := (ns.getD i 0).toNat_lt; omega⟩
    rw [hm] at hy
    have hx := nmA_at HNM.out (k0 + i) h2
    have HTA : Hid (∀ U, Below W0.heap.size W0 U → Calls Try.prog 27 #[tv, .int .i64 m] U fun e w' => e = .returned (strV (textN tx m)) ∧ w' = U) := Lib.hid fun U hU => text_any m (HT.out.on hU) (by omega) hm2
    have hw1 : IntKind.i64.wrap ((k0 : Int) + (i : Int)) = ((k0 + i : Nat) : Int) := by rw [IntWalk.i64_in _ (by omega)]; rfl
    have i1 : (0 : Int) ≤ (k0 : Int) + (i : Int) := by omega
    have i2 : (k0 : Int) + (i : Int) < 6 := by omega
    have i3 : ((k0 : Int) + (i : Int)).toNat = k0 + i := by omega
    have hw2 : IntKind.i64.wrap (m : Int) = (m : Int) := IntWalk.i64_in _ (by omega)
    have hst : has wr W.heap.size := has_box HNM.out
    have HBW := Lib.hid HR.out.below
    have HBA : Hid (Below W0.heap.size W0 (wr.alloc (.cells #[.string ⟨#[]⟩, .int .i64 0, .string ⟨#[]⟩] 37)).drew) := Lib.hid (HBW.out.alloc HBW.out.size _).drew
    clear hm
    go_wp2_with fail
    go_region_held3 (fun w' => w'.cell? ⟨W.heap.size, k0 + i, none⟩ = some (strV (nmK (k0 + i))) ∧ w'.cell? ⟨b, off + i, none⟩ = some (.int .u8 m)) (first | exact ⟨hx, hy⟩ | go_keep)
      (first
        | (go_at_call 27; with_reducible refine (HTA.out _ HBW.out.drew).mono ?_; rintro _ U ⟨rfl, rfl⟩)
        | (go_at_call 27; with_reducible refine (HTA.out _ HBA.out).mono ?_; rintro _ U ⟨rfl, rfl⟩))
    all_goals
      obtain ⟨d, hd⟩ : ∃ d, textN tx m = d := ⟨_, rfl⟩
      have hdl : d.length ≤ 300 := by rw [← hd]; exact textN_len _ _ HTX.out
      obtain ⟨nm, hnm⟩ : ∃ nm, nmK (k0 + i) = nm := ⟨_, rfl⟩
      have hnl : nm.length ≤ 3 := by rw [← hnm]; exact (nmK_ok _ h2).2
      rw [hd, hnm]
      obtain ⟨w1, hw⟩ : ∃ w1, (wr.alloc (.cells #[strV nm, .int .i64 1, strV d] 37)).drew = w1 := ⟨_, rfl⟩
      have hbx : w1.heap[wr.heap.size]? = some (.cells #[strV nm, .int .i64 1, strV d] 37) := by rw [← hw]; exact new_at wr _
      have hbl : Below wr.heap.size wr w1 := by rw [← hw]; exact ((Below.refl _ wr).alloc (Nat.le_refl _) _).drew
      rw [hw]
      have HNK := Lib.hid hnm
      clear hw hd hnm hx hy HBA HTA HBW
      have HN1 : Hid (w1.heap[W.heap.size]? = some (.cells nmA 9)) := Lib.hid (keeps_below HNM.out hbl)
      by_cases hpt : path = []
      · subst hpt
        obtain ⟨c0, c1, c2', -⟩ := box3 hbx
        have HR5 := Lib.hid (HR.out.on (hbl.alloc hbl.size (.cells #[strV nm, .int .i64 1, strV d] 37)))
        have HNEW := Lib.hid (news_new w1 37 (flatX encNd [(nm, 1, d)]))
        have HONE := Lib.hid (encNd_ok.cells [(nm, 1, d)])
        clear hbx
        go_wp2_with (at_builtin; go_loud (refine wpList_appendAt rfl _ _ 25 37 rfl Try.underlying25 _ 3 40 info37 rfl (.slice A2 L.length c2) L.length (flatX encNd L) (flatX encNd [(nm, 1, d)]) 1 rfl HR5.out.row ⟨w1.heap.size, 0, none⟩ _ rfl HNEW.out rfl HONE.out (by omega) (.inl (by omega)) (by omega) (by omega) ?_); intro v2 w2 hrow1 hg1 hown1 hnl1; clear hnl1)
        have hP : nm = joinP [] (nmK (k0 + i)) := by rw [HNK.out]; rfl
        have hGr := Gr.of (hbl.alloc hbl.size (.cells #[strV (nm), .int .i64 1, strV d] 37)) hg1 hown1
        have hKp := hGr.kept HNM.out HNO.out
        have HU : Hid (NR W0 w2 v2 (L0 ++ (M ++ [(joinP [] (nmK (k0 + i)), 1, d)]))) := Lib.hid (by
          have := HR5.out.app [(nm, 1, d)] hg1 hrow1 hown1
          rw [← hP, ← List.append_assoc, HLL.out]
          exact this)
        have HG2 := Lib.hid (HG.out.trans hGr)
        have HK1 := Lib.hid hKp.1
        have HK2 := Lib.hid hKp.2
        have HPT2 := Lib.hid (HPT.out.leaf h2 hd (file_may (joinP [] (nmK (k0 + i))) d 1 (.inl rfl) (by omega)))
        have HLT2 : Hid (Lit4 (M ++ [(joinP [] (nmK (k0 + i)), 1, d)])) := Lib.hid (HLT.out.app (Lit4.one (by have := join_len [] (nmK (k0 + i)); rw [HNK.out] at this ⊢; omega) (by omega)))
        have hln : (L0 ++ (M ++ [(joinP [] (nmK (k0 + i)), 1, d)])).length ≤ 16 := by rw [← List.append_assoc, HLL.out]; simp; omega
        clear hrow1 hg1 hown1 hGr hKp
        go_roundw
        case rel => exact ⟨i + 1, M ++ [(joinP [] (nmK (k0 + i)), 1, d)], by go_num, by omega, by omega, HU, HG2, HK1, HK2, HPT2, by omega, HLT2, hln⟩
        case measure => simp [intOf]; omega
      · have hpe : List.isEmpty path = false := by simpa using hpt
        have hx1 := nmA_at HN1.out (k0 + i) h2
        rw [HNK.out] at hx1
        obtain ⟨c0, c1, c2', hfz⟩ := box3 hbx
        have hbx2 := box3_set hbx (strV (path ++ 47 :: nm))
        have hbl2 : Below wr.heap.size wr (w1.setCell ⟨wr.heap.size, 0, none⟩ (strV (path ++ 47 :: nm))) := hbl.setCell (Nat.le_refl _) _
        obtain ⟨w2, hw2⟩ : ∃ w2, w1.setCell ⟨wr.heap.size, 0, none⟩ (strV (path ++ 47 :: nm)) = w2 := ⟨_, rfl⟩
        rw [hw2] at hbx2 hbl2
        obtain ⟨d0, d1, d2, -⟩ := box3 hbx2
        have HR5 := Lib.hid (HR.out.on (hbl2.alloc hbl2.size (.cells #[strV (path ++ 47 :: nm), .int .i64 1, strV d] 37)))
        have HNEW := Lib.hid (news_new w2 37 (flatX encNd [(path ++ 47 :: nm, 1, d)]))
        have HONE := Lib.hid (encNd_ok.cells [(path ++ 47 :: nm, 1, d)])
        clear hbx hbx2
        go_wp2_with (at_builtin; go_loud (refine wpList_appendAt rfl _ _ 25 37 rfl Try.underlying25 _ 3 40 info37 rfl (.slice A2 L.length c2) L.length (flatX encNd L) (flatX encNd [(path ++ 47 :: nm, 1, d)]) 1 rfl HR5.out.row ⟨w2.heap.size, 0, none⟩ _ rfl HNEW.out rfl HONE.out (by omega) (.inl (by omega)) (by omega) (by omega) ?_); intro v2 w3 hrow1 hg1 hown1 hnl1; clear hnl1)
        have hP : path ++ 47 :: nm = joinP path (nmK (k0 + i)) := by rw [HNK.out]; rw [path_join path hpt]; simp
        have hGr := Gr.of (hbl2.alloc hbl2.size (.cells #[strV (path ++ 47 :: nm), .int .i64 1, strV d] 37)) hg1 hown1
        have hKp := hGr.kept HNM.out HNO.out
        have HU : Hid (NR W0 w3 v2 (L0 ++ (M ++ [(joinP path (nmK (k0 + i)), 1, d)]))) := Lib.hid (by
          have := HR5.out.app [(path ++ 47 :: nm, 1, d)] hg1 hrow1 hown1
          rw [← hP, ← List.append_assoc, HLL.out]
          exact this)
        have HG2 := Lib.hid (HG.out.trans hGr)
        have HK1 := Lib.hid hKp.1
        have HK2 := Lib.hid hKp.2
        have HPT2 := Lib.hid (HPT.out.leaf h2 hd (file_may (joinP path (nmK (k0 + i))) d 1 (.inl rfl) (by omega)))
        have HLT2 : Hid (Lit4 (M ++ [(joinP path (nmK (k0 + i)), 1, d)])) := Lib.hid (HLT.out.app (Lit4.one (by have := join_len path (nmK (k0 + i)); rw [HNK.out] at this ⊢; omega) (by omega)))
        have hln : (L0 ++ (M ++ [(joinP path (nmK (k0 + i)), 1, d)])).length ≤ 16 := by rw [← List.append_assoc, HLL.out]; simp; omega
        clear hrow1 hg1 hown1 hGr hKp
        go_roundw
        case rel => exact ⟨i + 1, M ++ [(joinP path (nmK (k0 + i)), 1, d)], by go_num, by omega, by omega, HU, HG2, HK1, HK2, HPT2, by omega, HLT2, hln⟩
        case measure => simp [intOf]; omega
end Go.Proofs.Ytmlefodnbbkilaa

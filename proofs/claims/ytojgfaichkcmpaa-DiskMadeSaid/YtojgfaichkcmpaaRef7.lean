/- Walks: a new disk of the document's; both disks side by side. -/
import Derived.Deep.RegionLaw
import Derived.Test.YtojgfaichkcmpaaRef6
namespace Go.Proofs.Ytojgfaichkcmpaa
open Go.RowKit

/-- The document's disk, of the call's own. -/
structure MineR (w W : World) (q : Nat) (fv nv : Value) (S : DS) : Prop where
  disk : RefAt W q fv nv S
  below : Below w.heap.size w W
  hq : w.heap.size ≤ q
  hf : ∀ k, fv.ownBlock = some k → w.heap.size ≤ k
  hl : ∀ k, nv.ownBlock = some k → w.heap.size ≤ k
section
variable {w W W' : World} {q : Nat} {fv nv fv' nv' : Value} {S T : DS}
theorem MineR.on (h : MineR w W q fv nv S) (hb : Below W.heap.size W W') : MineR w W' q fv nv S := ⟨h.disk.below hb, h.below.trans (hb.mono h.below.size), h.hq, h.hf, h.hl⟩
theorem MineR.changed (h : MineR w W q fv nv S) (hc : ChangedR W W' q fv nv fv' nv') (hd : RefAt W' q fv' nv' T) : MineR w W' q fv' nv' T := by
  refine ⟨hd, h.below.trans ⟨hc.os, hc.tape, hc.output, hc.size, fun k hk => ?_⟩, h.hq, fun k hk => ?_, fun k hk => ?_⟩
  · have := h.below.size
    exact hc.block k (by omega) (by have := h.hq; omega) (fun e => by have := h.hf k e; omega) (fun e => by have := h.hl k e; omega)
  · rcases hc.ownf k hk with h1 | h1
    · exact h.hf k h1
    · have := h.below.size
      omega
  · rcases hc.own k hk with h1 | h1
    · exact h.hl k h1
    · have := h.below.size
      omega
end
theorem step_append_mine {W : World} {ops : Array Oper} {o : Oper} {a : Act} {K : Act → World → Prop} {Q : Exit → Act → World → Prop} {E : Prop} (hgd : o.guard = none) (s x : Operand) (t e : TypeId)
    (ho : o.op = .call { callee := .builtin .append, args := #[s, x], argTypes := #[t, t] }) (ht : Try.prog.underlying t = some (.slice e)) (z : Value) (sz bs : Nat) (hinfo : (Try.prog.info? e).map (fun i => (i.zero, i.size, i.bytes)) = some (some z, sz, bs)) (hzs : z.cells.size = sz)
    (v : Value) (n : Nat) (xs news : List Value) (m : Nat) (hs : a.eval s = v) (hrow : W.ownsRow 0 e sz v n xs) (c k : Nat) (hk : k = W.heap.size) (hx : a.eval x = .slice (some ⟨k, 0, none⟩) m c) (hl : news.length = m * sz) (hone : ∀ u ∈ news, u.oneCell' = true)
    (hsz : 0 < sz) (hm : 0 < m) (hmax : n + m ≤ 1000000000) (hby : (n + m) * bs ≤ 140737488355328)
    (h : ∀ v' w', w'.ownsRow 0 e sz v' (n + m) (xs ++ news) → (W.alloc (.cells news.toArray e)).grownBy w' v.ownBlock → (∀ k, v'.ownBlock = some k → v.ownBlock = some k ∨ W.heap.size ≤ k) → K (a.put o.dst v') w') :
    if Region.wanted o (yielded ops a.tmps) = true then Oper.wp Try.prog o a (W.alloc (.cells news.toArray e)) K Q else E := by
  have hw : Region.wanted o (yielded ops a.tmps) = true := by simp [Region.wanted, hgd]
  rw [if_pos hw]
  subst hk
  cases hi : Try.prog.info? e with
  | none => rw [hi] at hinfo; cases hinfo
  | some i0 =>
    rw [hi] at hinfo
    simp only [Option.map_some, Option.some.injEq, Prod.mk.injEq] at hinfo
    have hr := World.ownsRow.alloc hrow (.cells news.toArray e)
    have hnews : ∀ j u, news[j]? = some u → (W.alloc (.cells news.toArray e)).cell? ((⟨W.heap.size, 0, none⟩ : Addr).add j) = some u := by
      intro j u hj
      rw [show (⟨W.heap.size, 0, none⟩ : Addr).add j = ⟨W.heap.size, j, none⟩ by unfold Addr.add; split <;> simp_all]
      simp only [World.cell?, new_at]
      simpa using hj
    obtain ⟨v', w', hrun, h2, h3, _⟩ := run_append_own (P := Try.prog) (W.alloc (.cells news.toArray e)) 0 t o.type e i0 z sz bs ht hi hinfo.1 hinfo.2.1 hinfo.2.2 hzs hsz v n xs hr ⟨W.heap.size, 0, none⟩ m c news hl hnews hone (by unfold maxLen; omega) (by omega) (by omega)
    have hwh := append_where ht hi hinfo.1 hinfo.2.1 hinfo.2.2 hr hl hnews hone (by omega) (by omega) (by omega) hrun
    unfold Oper.wp execOp
    simp only [ho, resolve, invoke, builtin, Sem.run_bind, Sem.run_pure, Result.andThen_ok, List.map_toArray, List.map_cons, List.map_nil, hs, hx, hrun]
    refine h v' w' h2 h3 fun k hk => ?_
    rcases hwh k hk with h4 | h4
    · exact .inl h4
    · exact .inr (by rw [h4]; simp)
def newS (k : Nat) : DS := { firm := List.replicate k zeroS, loose := [], down := false, fuse := -1 }
theorem newS_all (n : Nat) : newS n = DS.new n := rfl
theorem newS_length (n : Nat) : (newS n).firm.length = n := by simp [newS]
set_option maxRecDepth 100000 in
theorem newR_any (n : Nat) (W : World) (hn : n ≤ 4096) :
    Calls Try.prog 28 #[.int .i64 (n : Int)] W fun e w' => ∃ q fv, e = .returned (ptr q) ∧ MineR W w' q fv (.slice none 0 0) (DS.new n) := by
  have hb0 := new_at W (.cells #[.slice none 0 0, .slice none 0 0, .bool false, .int .i64 (-1)] 70)
  have h0 : MineR W (W.alloc (.cells #[.slice none 0 0, .slice none 0 0, .bool false, .int .i64 (-1)] 70)) W.heap.size (.slice none 0 0) (.slice none 0 0) (newS 0) :=
    ⟨⟨hb0, World.ownsRow_nil _ 0 9 1, World.ownsRow_nil _ 0 89 2, by simp [newS], by simp [newS], by simp [newS], by simp [newS], by simp [newS]⟩, (Below.refl _ W).alloc (Nat.le_refl _) _, Nat.le_refl _, (fun k hk => by cases hk), (fun k hk => by cases hk)⟩
  clear hb0
  go_enter Try.func28, Try.ntmps28
  go_wp2_with fail
  obtain ⟨q, hq⟩ : ∃ q, W.heap.size = q := ⟨_, rfl⟩
  rw [hq] at h0
  rw [hq]
  clear hq
  go_loopw [4] (fun v wr => ∃ k : Nat, k ≤ n ∧ v = .int .i64 k ∧ ∃ fv, Hid (MineR W wr q fv (.slice none 0 0) (newS k))) (fun v _ => n - (intOf v).toNat)
  case atStart => exact ⟨0, by omega, rfl, _, h0⟩
  case round =>
    clear h0
    obtain ⟨k, hk, rfl, fv, HD⟩ := hrel
    by_cases hlt : k < n
    · have hd : decide ((k : Int) < (n : Int)) = true := by simp; omega
      have hM := HD.out.on ((Below.refl _ wr).drew)
      obtain ⟨c0, c1, c2, c3, hf⟩ := HD.out.disk.cells
      have q1 : has wr q := HD.out.disk.lt
      have hmk := make_bytes 64 (by omega) wr.drew
      rw [show ((64 : Nat) : Int) = 64 from rfl, show List.replicate 64 (0 : UInt8) = zeroS from rfl] at hmk
      have hconv := block_str (wr.drew.alloc (.cells (u8s zeroS).toArray 5)) wr.drew.heap.size 64 64 zeroS rfl (fr := (0, 0)) (new_at wr.drew _)
      replace hmk : (Instr.makeSlice 31 (.int .i64 64) (.int .i64 64)).run Try.prog wr.drew = .ok (.slice (some ⟨wr.heap.size, 0, none⟩) 64 64) (wr.alloc (.cells (u8s zeroS).toArray 5)).drew := hmk
      replace hconv : (convert 31 9 (.slice (some ⟨wr.heap.size, 0, none⟩) 64 64)).run Try.prog (wr.alloc (.cells (u8s zeroS).toArray 5)).drew = .ok (strV zeroS) (wr.alloc (.cells (u8s zeroS).toArray 5)).drew := hconv
      have h2 : MineR W (wr.alloc (.cells (u8s zeroS).toArray 5)).drew q fv (.slice none 0 0) (newS k) := hM.on ((Below.refl _ wr.drew).alloc (Nat.le_refl _) (.cells (u8s zeroS).toArray 5))
      have hone : ∀ u ∈ [strV zeroS], u.oneCell' = true := by
        intro u hu
        simp at hu
        rcases hu with rfl
        rfl
      have HONE := Lib.hid hone
      have H2 := Lib.hid h2
      clear hone h2 hM HD
      have hlen := newS_length k
      have HLEN := Lib.hid hlen
      clear hlen
      go_wp2_with fail
      go_region_law (refine step_append_mine (W := (wr.alloc (.cells (u8s zeroS).toArray 5)).drew) rfl _ _ 38 9 rfl Try.underlying38 _ 1 16 info9' rfl fv (newS k).firm.length (strL (newS k).firm) [strV zeroS] 1 rfl H2.out.disk.hf _ (wr.heap.size + 1) (by simp) rfl rfl HONE.out (by omega) (by omega) (by rw [HLEN.out]; omega) (by rw [HLEN.out]; omega) ?_; intro v' w1 hrow1 hg1 hown1; obtain ⟨A1, z1, rfl⟩ := ownsRow_form hrow1; have hk1 : w1.heap[q]? = _ := ((hg1.block q (by have := H2.out.disk.lt; simp at this ⊢; omega) (fun e => H2.out.disk.fq e.symm)).trans (Below.heap_alloc _ _ _ H2.out.disk.lt)).trans H2.out.disk.hp; obtain ⟨d0, d1, d2, d3, d4⟩ := cells4 hk1; have HROW := Lib.hid hrow1; have HG := Lib.hid hg1; have HO := Lib.hid hown1; clear hrow1 hg1 hown1 hk1 c0 c1 c2 c3 hf)
      all_goals (
        go_wp2_with fail
        have hfin := H2.out.disk.grownF (l := (newS (k + 1)).firm) HG.out (by rw [show strL (newS (k + 1)).firm = strL (newS k).firm ++ [strV zeroS] by simp [strL, newS, List.replicate_succ']]; exact HROW.out) (by simp [newS]) (by simp [newS]; omega) HO.out (by simp [newS]) (fun x hx => by
          rw [List.eq_of_mem_replicate hx]
          rfl)
        have HM := Lib.hid (H2.out.changed hfin.2 hfin.1)
        clear hfin
        go_roundw
        case rel => exact ⟨k + 1, by omega, by go_num, _, HM.out⟩
        case measure => simp [intOf]; omega)
    · obtain rfl : k = n := by omega
      have hd : decide ((k : Int) < (k : Int)) = false := by simp
      go_wp2_with fail
      rw [newS_all] at HD
      exact bodyPost_ret (v := ptr q) (by simp [results, Try.results28, go_sem]) rfl ⟨_, _, rfl, HD.out⟩
end Go.Proofs.Ytojgfaichkcmpaa

/- The document's disk in memory. -/
import Derived.Laws.OwnMore
import Derived.Test.YtojgfaichkcmpaaKeep1
namespace Go.Proofs.Ytojgfaichkcmpaa
open Go.RowKit

def strL (l : List (List UInt8)) : List Value := l.map fun s => strV s
theorem strL_get {l : List (List UInt8)} {j : Nat} (h : j < l.length) : (strL l)[j]? = some (strV (l.getD j [])) := by simp [strL, h]
structure RefAt (W : World) (q : Nat) (fv nv : Value) (S : DS) : Prop where
  hp : W.heap[q]? = some (.cells #[fv, nv, .bool S.down, .int .i64 S.fuse] 70)
  hf : W.ownsRow 0 9 1 fv S.firm.length (strL S.firm)
  hl : W.ownsRow 0 89 2 nv S.loose.length (loosV S.loose)
  hn : S.firm.length ≤ 100000
  hm : S.loose.length ≤ 1000000
  hfu : -1 ≤ S.fuse ∧ S.fuse ≤ 9223372036854775807
  hb : ∀ x ∈ S.loose, x.1 < S.firm.length
  hs : (∀ s ∈ S.firm, s.length = 64) ∧ ∀ x ∈ S.loose, x.2.length = 64
/-- What a change of it leaves. -/
structure ChangedR (W W' : World) (q : Nat) (fv nv fv' nv' : Value) : Prop where
  os : W'.os = W.os
  tape : W'.tape = W.tape
  output : W'.output = W.output
  size : W.heap.size ≤ W'.heap.size
  block : ∀ k, k < W.heap.size → k ≠ q → fv.ownBlock ≠ some k → nv.ownBlock ≠ some k → W'.heap[k]? = W.heap[k]?
  ownf : ∀ k, fv'.ownBlock = some k → fv.ownBlock = some k ∨ W.heap.size ≤ k
  own : ∀ k, nv'.ownBlock = some k → nv.ownBlock = some k ∨ W.heap.size ≤ k
section
variable {W W' A B C : World} {q : Nat} {fv nv fv' nv' fv2 nv2 : Value} {S T : DS}
theorem ChangedR.refl (W : World) (q : Nat) (fv nv : Value) : ChangedR W W q fv nv fv nv := ⟨rfl, rfl, rfl, Nat.le_refl _, fun _ _ _ _ _ => rfl, fun _ h => .inl h, fun _ h => .inl h⟩
theorem ChangedR.trans (h : ChangedR A B q fv nv fv' nv') (k : ChangedR B C q fv' nv' fv2 nv2) : ChangedR A C q fv nv fv2 nv2 := by
  have e1 : ∀ b, b < A.heap.size → fv.ownBlock ≠ some b → fv'.ownBlock ≠ some b := fun b hb h1 e => (h.ownf b e).elim h1 (fun h2 => by omega)
  have e2 : ∀ b, b < A.heap.size → nv.ownBlock ≠ some b → nv'.ownBlock ≠ some b := fun b hb h1 e => (h.own b e).elim h1 (fun h2 => by omega)
  exact ⟨k.os.trans h.os, k.tape.trans h.tape, k.output.trans h.output, Nat.le_trans h.size k.size, fun b hb h1 h2 h3 => (k.block b (Nat.lt_of_lt_of_le hb h.size) h1 (e1 b hb h2) (e2 b hb h3)).trans (h.block b hb h1 h2 h3),
    fun b hb => (k.ownf b hb).elim (fun h4 => h.ownf b h4) (fun h4 => .inr (Nat.le_trans h.size h4)), fun b hb => (k.own b hb).elim (fun h4 => h.own b h4) (fun h4 => .inr (Nat.le_trans h.size h4))⟩
theorem ChangedR.below (h : ChangedR A B q fv nv fv' nv') (k : Below B.heap.size B C) : ChangedR A C q fv nv fv' nv' :=
  h.trans ⟨k.os, k.tape, k.output, k.size, fun b hb _ _ _ => k.block b hb, fun _ hb => .inl hb, fun _ hb => .inl hb⟩
theorem RefAt.lt (h : RefAt W q fv nv S) : q < W.heap.size := (Array.getElem?_eq_some_iff.1 h.hp).1
theorem RefAt.fq (h : RefAt W q fv nv S) : fv.ownBlock ≠ some q := fun e => by
  obtain ⟨cur, h1⟩ := ownsRow_elem h.hf e
  rw [h.hp] at h1
  simp at h1
theorem RefAt.lq (h : RefAt W q fv nv S) : nv.ownBlock ≠ some q := fun e => by
  obtain ⟨cur, h1⟩ := ownsRow_elem h.hl e
  rw [h.hp] at h1
  simp at h1
theorem RefAt.fl (h : RefAt W q fv nv S) : ∀ k, fv.ownBlock = some k → nv.ownBlock ≠ some k := fun k e1 e2 => by
  obtain ⟨cur, h1⟩ := ownsRow_elem h.hf e1
  obtain ⟨cu, h2⟩ := ownsRow_elem h.hl e2
  rw [h1] at h2
  simp at h2
theorem RefAt.own_lt (h : RefAt W q fv nv S) : (∀ k, fv.ownBlock = some k → k < W.heap.size) ∧ ∀ k, nv.ownBlock = some k → k < W.heap.size :=
  ⟨fun _ hk => (World.ownsRow.lt h.hf _ hk).2, fun _ hk => (World.ownsRow.lt h.hl _ hk).2⟩
theorem RefAt.below (h : RefAt W q fv nv S) (hb : Below W.heap.size W W') : RefAt W' q fv nv S :=
  ⟨(hb.block q h.lt).trans h.hp, ownsRow_same h.hf fun g hg => hb.block g (h.own_lt.1 g hg), ownsRow_same h.hl fun g hg => hb.block g (h.own_lt.2 g hg), h.hn, h.hm, h.hfu, h.hb, h.hs⟩
/-- What the walks ask of its block. -/
theorem RefAt.cells (h : RefAt W q fv nv S) : W.cell? ⟨q, 0, none⟩ = some fv ∧ W.cell? ⟨q, 1, none⟩ = some nv ∧ W.cell? ⟨q, 2, none⟩ = some (.bool S.down) ∧ W.cell? ⟨q, 3, none⟩ = some (.int .i64 S.fuse) ∧ (∀ j, W.frozen? ⟨q, j, none⟩ = false) := cells4 h.hp
theorem RefAt.sector (h : RefAt W q fv nv S) (j : Nat) (hj : j < S.firm.length) : ∃ g c, fv = .slice (some ⟨g, 0, none⟩) S.firm.length c ∧ W.cell? ⟨g, j, none⟩ = some (strV (S.firm.getD j [])) ∧ W.frozen? ⟨g, j, none⟩ = false ∧ has W g := by
  have hf := h.hf
  rcases h.hf.2 with ⟨_, h0⟩ | ⟨g, cap, cur, hv, _, hg, _⟩
  · omega
  · rw [hv] at hf
    exact ⟨g, cap, hv, (hf.cellAt j (by omega)).trans (strL_get hj), hf.frozenAt j, (Array.getElem?_eq_some_iff.1 hg).1⟩
theorem RefAt.loose_at (h : RefAt W q fv nv S) (k : Nat) (hk : k < S.loose.length) :
    ∃ g c, nv = .slice (some ⟨g, 0, none⟩) S.loose.length c ∧ has W g ∧ W.cell? ⟨g, k * 2, none⟩ = some (.int .i64 ((S.loose.getD k (0, [])).1 : Int)) ∧ W.cell? ⟨g, k * 2 + 1, none⟩ = some (strV (S.loose.getD k (0, [])).2) := by
  obtain ⟨h1, h2⟩ := loosV_get S.loose k hk
  have hrow := h.hl
  rcases h.hl.2 with ⟨hv, h0⟩ | ⟨g, cap, cur, hv, _, hg, _⟩
  · omega
  · rw [hv] at hrow
    exact ⟨g, cap, hv, (Array.getElem?_eq_some_iff.1 hg).1, (hrow.cellAt _ (by omega)).trans h1, (hrow.cellAt _ (by omega)).trans h2⟩
/-- Its own block turned. -/
theorem RefAt.turn (h : RefAt W q fv nv S) (j : Nat) (v : Value) (T : DS) (hfirm : T.firm = S.firm) (hloose : T.loose = S.loose) (hfu : -1 ≤ T.fuse ∧ T.fuse ≤ 9223372036854775807)
    (hc : (#[fv, nv, .bool S.down, .int .i64 S.fuse] : Array Value).setIfInBounds j v = #[fv, nv, .bool T.down, .int .i64 T.fuse]) :
    RefAt (W.setCell ⟨q, j, none⟩ v) q fv nv T ∧ ChangedR W (W.setCell ⟨q, j, none⟩ v) q fv nv fv nv := by
  refine ⟨⟨?_, ?_, ?_, hfirm ▸ h.hn, hloose ▸ h.hm, hfu, by rw [hloose, hfirm]; exact h.hb, by rw [hloose, hfirm]; exact h.hs⟩, ⟨rfl, rfl, rfl, by rw [setCell_size]; omega, fun k _ hk _ _ => setCell_other W q j k v hk, fun k hk => .inl hk, fun k hk => .inl hk⟩⟩
  · rw [setCell_block h.hp, hc]
  · rw [hfirm]
    exact ownsRow_same h.hf fun g hg => setCell_other W q j g v (fun e => h.fq (e ▸ hg))
  · rw [hloose]
    exact ownsRow_same h.hl fun g hg => setCell_other W q j g v (fun e => h.lq (e ▸ hg))
/-- No loose writes any more. -/
theorem RefAt.emptied (h : RefAt W q fv nv S) : RefAt (W.setCell ⟨q, 1, none⟩ (.slice none 0 0)) q fv (.slice none 0 0) { S with loose := [] } ∧ ChangedR W (W.setCell ⟨q, 1, none⟩ (.slice none 0 0)) q fv nv fv (.slice none 0 0) := by
  refine ⟨⟨?_, ?_, World.ownsRow_nil _ 0 89 2, h.hn, by simp, h.hfu, by simp, h.hs.1, by simp⟩, ⟨rfl, rfl, rfl, by rw [setCell_size]; omega, fun k _ hk _ _ => setCell_other W q 1 k _ hk, fun k hk => .inl hk, fun k hk => by cases hk⟩⟩
  · rw [setCell_block h.hp]
    rfl
  · exact ownsRow_same h.hf fun g hg => setCell_other W q 1 g _ (fun e => h.fq (e ▸ hg))
/-- A sector put. -/
theorem RefAt.put {g c : Nat} (h : RefAt W q fv nv S) (hv : fv = .slice (some ⟨g, 0, none⟩) S.firm.length c) (j : Nat) (s : List UInt8) (hs : s.length = 64) :
    RefAt (W.setCell ⟨g, j, none⟩ (strV s)) q fv nv { S with firm := S.firm.set j s } ∧ ChangedR W (W.setCell ⟨g, j, none⟩ (strV s)) q fv nv fv nv := by
  have hf := h.hf
  have ho : fv.ownBlock = some g := by rw [hv]; rfl
  rw [hv] at hf
  obtain ⟨h1, h2⟩ := hf.stored j (strV s)
  refine ⟨⟨?_, ?_, ?_, ?_, h.hm, h.hfu, ?_, fun t ht => (List.mem_or_eq_of_mem_set ht).elim (h.hs.1 t) fun e => by rw [e]; exact hs, h.hs.2⟩, ⟨rfl, rfl, rfl, by rw [setCell_size]; omega, fun k _ _ hk _ => setCell_other W g j k _ (fun e => hk (by rw [e]; exact ho)), fun k hk => .inl hk, fun k hk => .inl hk⟩⟩
  · rw [setCell_other W g j q _ (fun e => h.fq (by rw [e]; exact ho)), h.hp]
  · simp only [List.length_set]
    rw [hv, show strL (S.firm.set j s) = (strL S.firm).set j (strV s) by simp [strL]]
    exact h1
  · exact ownsRow_same h.hl fun k hk => setCell_other W g j k _ (fun e => h.fl g ho (e ▸ hk))
  · simp only [List.length_set]; exact h.hn
  · intro x hx
    simp only [List.length_set]
    exact h.hb x hx
/-- A loose write more. -/
theorem RefAt.grownL {o : Obj} {l : List (Nat × List UInt8)} {m : Nat} (h : RefAt W q fv nv S) (hg : (W.alloc o).grownBy B nv.ownBlock) (hrow : B.ownsRow 0 89 2 nv' m (loosV l)) (hml : m = l.length) (hl : l.length ≤ 1000000) (hown : ∀ k, nv'.ownBlock = some k → nv.ownBlock = some k ∨ W.heap.size ≤ k)
    (hlb : ∀ x ∈ l, x.1 < S.firm.length) (hls : ∀ x ∈ l, x.2.length = 64) : RefAt (B.setCell ⟨q, 1, none⟩ nv') q fv nv' { S with loose := l } ∧ ChangedR W (B.setCell ⟨q, 1, none⟩ nv') q fv nv fv nv' := by
  subst hml
  have hk : ∀ k, k < W.heap.size → nv.ownBlock ≠ some k → B.heap[k]? = W.heap[k]? := fun k hk hne => (hg.block k (by simp; omega) (fun e => hne e.symm)).trans (Below.heap_alloc _ _ _ hk)
  have hp1 : B.heap[q]? = _ := (hk q h.lt h.lq).trans h.hp
  have hvq : nv'.ownBlock ≠ some q := fun e => by
    obtain ⟨cur, h1⟩ := ownsRow_elem hrow e
    rw [hp1] at h1
    simp at h1
  refine ⟨⟨setCell_block hp1 1 nv', ?_, ownsRow_same hrow fun g hg => setCell_other B q 1 g _ (fun e => hvq (e ▸ hg)), h.hn, hl, h.hfu, hlb, h.hs.1, hls⟩, ⟨hg.os, hg.tape, hg.output, ?_, fun k hk1 h1 _ h3 => (setCell_other B q 1 k _ h1).trans (hk k hk1 h3), fun k hk => .inl hk, hown⟩⟩
  · exact ownsRow_same h.hf fun g hg => (setCell_other B q 1 g _ (fun e => h.fq (e ▸ hg))).trans (hk g (h.own_lt.1 g hg) (h.fl g hg))
  · have := hg.size
    rw [setCell_size]
    simp at this
    omega
/-- A sector more. -/
theorem RefAt.grownF {o : Obj} {l : List (List UInt8)} {m : Nat} (h : RefAt W q fv nv S) (hg : (W.alloc o).grownBy B fv.ownBlock) (hrow : B.ownsRow 0 9 1 fv' m (strL l)) (hml : m = l.length) (hl : l.length ≤ 100000) (hown : ∀ k, fv'.ownBlock = some k → fv.ownBlock = some k ∨ W.heap.size ≤ k)
    (hlb : S.firm.length ≤ l.length) (hls : ∀ x ∈ l, x.length = 64) : RefAt (B.setCell ⟨q, 0, none⟩ fv') q fv' nv { S with firm := l } ∧ ChangedR W (B.setCell ⟨q, 0, none⟩ fv') q fv nv fv' nv := by
  subst hml
  have hk : ∀ k, k < W.heap.size → fv.ownBlock ≠ some k → B.heap[k]? = W.heap[k]? := fun k hk hne => (hg.block k (by simp; omega) (fun e => hne e.symm)).trans (Below.heap_alloc _ _ _ hk)
  have hp1 : B.heap[q]? = _ := (hk q h.lt h.fq).trans h.hp
  have hvq : fv'.ownBlock ≠ some q := fun e => by
    obtain ⟨cur, h1⟩ := ownsRow_elem hrow e
    rw [hp1] at h1
    simp at h1
  refine ⟨⟨setCell_block hp1 0 fv', ownsRow_same hrow fun g hg => setCell_other B q 0 g _ (fun e => hvq (e ▸ hg)), ?_, hl, h.hm, h.hfu, fun x hx => Nat.lt_of_lt_of_le (h.hb x hx) hlb, hls, h.hs.2⟩, ⟨hg.os, hg.tape, hg.output, ?_, fun k hk1 h1 h2 _ => (setCell_other B q 0 k _ h1).trans (hk k hk1 h2), hown, fun k hk => .inl hk⟩⟩
  · exact ownsRow_same h.hl fun g hg => (setCell_other B q 0 g _ (fun e => h.lq (e ▸ hg))).trans (hk g (h.own_lt.2 g hg) (fun e => h.fl g e hg))
  · have := hg.size
    rw [setCell_size]
    simp at this
    omega
end
theorem wpList_appendOwn {W : World} {ops : Array Oper} {rest : List Oper} {o : Oper} {a : Act} {Q : Exit → Act → World → Prop} (hgd : o.guard = none) (s x : Operand) (t e : TypeId)
    (ho : o.op = .call { callee := .builtin .append, args := #[s, x], argTypes := #[t, t] }) (ht : Try.prog.underlying t = some (.slice e)) (z : Value) (sz bs : Nat) (hinfo : (Try.prog.info? e).map (fun i => (i.zero, i.size, i.bytes)) = some (some z, sz, bs)) (hzs : z.cells.size = sz)
    (v : Value) (n : Nat) (xs news : List Value) (m : Nat) (hs : a.eval s = v) (hrow : W.ownsRow 0 e sz v n xs) (c k : Nat) (hk : k = W.heap.size) (hx : a.eval x = .slice (some ⟨k, 0, none⟩) m c) (hl : news.length = m * sz) (hone : ∀ u ∈ news, u.oneCell' = true)
    (hsz : 0 < sz) (hm : 0 < m) (hmax : n + m ≤ 1000000000) (hby : (n + m) * bs ≤ 140737488355328)
    (h : ∀ v' w', w'.ownsRow 0 e sz v' (n + m) (xs ++ news) → (W.alloc (.cells news.toArray e)).grownBy w' v.ownBlock → (∀ k, v'.ownBlock = some k → v.ownBlock = some k ∨ W.heap.size ≤ k) → wpList Try.prog ops Q rest (a.put o.dst v') w') :
    wpList Try.prog ops Q (o :: rest) a (W.alloc (.cells news.toArray e)) := by
  subst hk
  cases hi : Try.prog.info? e with
  | none => rw [hi] at hinfo; cases hinfo
  | some i0 =>
    rw [hi] at hinfo
    simp only [Option.map_some, Option.some.injEq, Prod.mk.injEq] at hinfo
    have hr := World.ownsRow.alloc hrow (.cells news.toArray e)
    have hnews : ∀ j u, news[j]? = some u → (W.alloc (.cells news.toArray e)).cell? ((⟨W.heap.size, 0, none⟩ : Addr).add j) = some u := by
      intro j u hj
      rw [show (⟨W.heap.size, 0, none⟩ : Addr).add j = ⟨W.heap.size, j, none⟩ by unfold Addr.add; split <;> simp_all]
      simp only [World.cell?, new_at]
      simpa using hj
    obtain ⟨v', w', hrun, h2, h3, _⟩ := run_append_own (P := Try.prog) (W.alloc (.cells news.toArray e)) 0 t o.type e i0 z sz bs ht hi hinfo.1 hinfo.2.1 hinfo.2.2 hzs hsz v n xs hr ⟨W.heap.size, 0, none⟩ m c news hl hnews hone (by unfold maxLen; omega) (by omega) (by omega)
    have hwh := append_where ht hi hinfo.1 hinfo.2.1 hinfo.2.2 hr hl hnews hone (by omega) (by omega) (by omega) hrun
    refine wpList_plain hgd fun _ hK => ?_
    unfold Oper.wp execOp
    simp only [ho, resolve, invoke, builtin, Sem.run_bind, Sem.run_pure, Result.andThen_ok, List.map_toArray, List.map_cons, List.map_nil, hs, hx, hrun]
    refine hK _ _ (h v' w' h2 h3 fun k hk => ?_)
    rcases hwh k hk with h4 | h4
    · exact .inl h4
    · exact .inr (by rw [h4]; simp)
theorem info89 : (Try.prog.info? 89).map (fun i => (i.zero, i.size, i.bytes)) = some (some (.agg #[.int .i64 0, .string ⟨#[]⟩]), 2, 24) := by kernel_rfl
theorem info9' : (Try.prog.info? 9).map (fun i => (i.zero, i.size, i.bytes)) = some (some (.string ⟨#[]⟩), 1, 16) := by kernel_rfl
end Go.Proofs.Ytojgfaichkcmpaa

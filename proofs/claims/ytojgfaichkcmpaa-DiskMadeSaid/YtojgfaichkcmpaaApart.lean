/- Several disks, rows that come in, rows of numbers beside disks. -/
import Derived.Test.YtojgfaichkcmpaaDiskP
namespace Go.Proofs.Ytojgfaichkcmpaa
open Go.RowKit

/-- Two disks lie apart. -/
structure Apart (p f : Nat) (lv : Value) (q g : Nat) (mv : Value) : Prop where
  pq : p ≠ q
  fg : f ≠ g
  own : ∀ k, lv.ownBlock = some k → mv.ownBlock ≠ some k
theorem Apart.symm {p f : Nat} {lv : Value} {q g : Nat} {mv : Value} (h : Apart p f lv q g mv) : Apart q g mv p f lv := ⟨h.pq.symm, h.fg.symm, fun k h1 h2 => h.own k h2 h1⟩
theorem DiskAt.own_lt {W : World} {p f : Nat} {lv : Value} {S : DS} (h : DiskAt W p f lv S) {k : Nat} (hk : lv.ownBlock = some k) : k < W.heap.size := by
  obtain ⟨cur, h1⟩ := ownsRow_elem h.hl hk
  exact (Array.getElem?_eq_some_iff.1 h1).1
/-- Another disk's change. -/
theorem Mine.other {w W W' : World} {p f : Nat} {lv lv' : Value} {S : DS} {q g : Nat} {mv : Value} {T : DS} (h : Mine w W q g mv T) (ha : Mine w W p f lv S) (hp : Apart p f lv q g mv) (hc : Changed W W' p f lv lv') (hb : Below w.heap.size w W') :
    Mine w W' q g mv T ∧ Apart p f lv' q g mv := by
  have hd := h.disk
  have hk : ∀ k, k = q ∨ k = g ∨ mv.ownBlock = some k → W'.heap[k]? = W.heap[k]? := by
    intro k hk
    have hlt : k < W.heap.size := by
      rcases hk with rfl | rfl | hk
      · exact hd.lt.1
      · exact hd.lt.2
      · exact hd.own_lt hk
    refine hc.block k hlt ?_ ?_ ?_
    · rintro rfl
      rcases hk with rfl | rfl | hk
      · exact hp.pq rfl
      · have h1 := ha.disk.hp
        rw [hd.hf] at h1
        simp at h1
      · obtain ⟨cur, h1⟩ := ownsRow_elem hd.hl hk
        rw [ha.disk.hp] at h1
        simp at h1
    · rintro rfl
      rcases hk with rfl | rfl | hk
      · have h1 := ha.disk.hf
        rw [hd.hp] at h1
        simp at h1
      · exact hp.fg rfl
      · obtain ⟨cur, h1⟩ := ownsRow_elem hd.hl hk
        rw [ha.disk.hf] at h1
        simp at h1
    · intro hl
      obtain ⟨cur, h1⟩ := ownsRow_elem ha.disk.hl hl
      rcases hk with rfl | rfl | hk
      · rw [hd.hp] at h1
        simp at h1
      · rw [hd.hf] at h1
        simp at h1
      · exact hp.own k hl hk
  refine ⟨⟨⟨(hk q (.inl rfl)).trans hd.hp, (hk g (.inr (.inl rfl))).trans hd.hf, ownsRow_same hd.hl fun k h1 => hk k (.inr (.inr h1)), hd.hn, hd.hm, hd.hfu, hd.hb, hd.hs⟩, hb, h.hp, h.hf, h.hl⟩, hp.pq, hp.fg, fun k h1 h2 => ?_⟩
  rcases hc.own k h1 with h3 | h3
  · exact hp.own k h3 h2
  · have := hd.own_lt h2
    omega
/-- A new disk lies apart. -/
theorem Mine.fresh {w W : World} {q g : Nat} {mv : Value} {T : DS} (h : Mine w W q g mv T) {p f : Nat} (hp : W.heap.size ≤ p) (hf : W.heap.size ≤ f) : Apart p f (.slice none 0 0) q g mv :=
  ⟨fun e => by have := h.disk.lt.1; omega, fun e => by have := h.disk.lt.2; omega, fun k hk => by cases hk⟩
/-- A row of numbers appended to: a disk lies as it lay. -/
theorem Mine.grown {w W w' : World} {p f : Nat} {lv : Value} {S : DS} {v : Value} {l : List Int} {o : Obj} (h : Mine w W p f lv S) (hr : rowI W w.heap.size v l) (hg : (W.alloc o).grownBy w' v.ownBlock) : Mine w w' p f lv S := by
  have hd := h.disk
  have hk : ∀ k, k < W.heap.size → v.ownBlock ≠ some k → w'.heap[k]? = W.heap[k]? := fun k hk hne => (hg.block k (by simp; omega) (fun e => hne e.symm)).trans (Below.heap_alloc _ _ _ hk)
  have ho : ∀ k, v.ownBlock = some k → (∃ cur, W.heap[k]? = some (.cells cur 3 (0, 0))) ∧ w.heap.size ≤ k := fun k hk => ⟨ownsRow_elem hr hk, (World.ownsRow.lt hr k hk).1⟩
  refine ⟨⟨(hk p hd.lt.1 fun e => ?_).trans hd.hp, (hk f hd.lt.2 fun e => ?_).trans hd.hf, ownsRow_same hd.hl fun k h1 => hk k (hd.own_lt h1) fun e => ?_, hd.hn, hd.hm, hd.hfu, hd.hb, hd.hs⟩, h.below.trans ⟨hg.os, hg.tape, hg.output, ?_, fun k hk' => hk k (by have := h.below.size; omega) fun e => ?_⟩, h.hp, h.hf, h.hl⟩
  · obtain ⟨cur, h1⟩ := (ho p e).1
    rw [hd.hp] at h1
    simp at h1
  · obtain ⟨cur, h1⟩ := (ho f e).1
    rw [hd.hf] at h1
    simp at h1
  · obtain ⟨cur, h2⟩ := (ho k e).1
    obtain ⟨cu, h3⟩ := ownsRow_elem hd.hl h1
    rw [h3] at h2
    simp at h2
  · have := hg.size
    simp at this
    omega
  · have := (ho k e).2
    omega
theorem wpList_appendG {W : World} {ops : Array Oper} {rest : List Oper} {o : Oper} {a : Act} {Q : Exit → Act → World → Prop} (hgd : o.guard = none) (s x : Operand)
    (ho : o.op = .call { callee := .builtin .append, args := #[s, x], argTypes := #[34, 34] }) (base : Nat) (v : Value) (l news : List Int) (hs : a.eval s = v)
    (hrow : rowI W base v l) (n m c : Nat) (hn : n = W.heap.size) (hx : a.eval x = .slice (some ⟨n, 0, none⟩) m c) (hm : news.length = m) (hlen : l.length + m ≤ 1000000) (hbase : base ≤ W.heap.size)
    (h : ∀ v' w', rowI w' base v' (l ++ news) → (W.alloc (.cells (i64s news).toArray 3)).grownBy w' v.ownBlock → wpList Try.prog ops Q rest (a.put o.dst v') w') : wpList Try.prog ops Q (o :: rest) a (W.alloc (.cells (i64s news).toArray 3)) := by
  subst hm hn
  have hinfo := info3
  cases hi : Try.prog.info? 3 with
  | none => rw [hi] at hinfo; cases hinfo
  | some i =>
    rw [hi] at hinfo
    simp only [Option.map_some, Option.some.injEq, Prod.mk.injEq] at hinfo
    have hr := rowI_alloc hrow (.cells (i64s news).toArray 3)
    refine wpList_append_own _ hgd s x 34 ho base 3 i (.int .i64 0) 1 8 Try.underlying34 hi hinfo.1 hinfo.2.1 hinfo.2.2 rfl (by omega) v l.length (i64s l) hs hr ⟨W.heap.size, 0, none⟩ news.length c (i64s news) hx (by simp [i64s]) (fun j u hj => by
      rw [addr_add]
      simp only [World.cell?, new_at]
      simpa using hj) (i64s_one news) (by unfold maxLen; omega) (by omega) (by simp; omega) ?_
    intro v' w' h1 h2 _
    refine h v' w' ?_ h2
    unfold rowI
    rw [List.length_append, show i64s (l ++ news) = i64s l ++ i64s news by simp [i64s]]
    exact h1

/-- Bytes that came in. -/
def U8s (w : World) (v : Value) (l : List UInt8) : Prop :=
  (l = [] ∧ ∃ a c, v = .slice a 0 c) ∨ ∃ b off c, v = .slice (some ⟨b, off, none⟩) l.length c ∧ b < w.heap.size ∧ l.length ≤ maxLen ∧ ∀ j, j < l.length → w.cell? ⟨b, off + j, none⟩ = some (.int .u8 ((l.getD j 0).toNat : Int))
theorem U8s.form {w : World} {v : Value} {l : List UInt8} (h : U8s w v l) : (∃ a c, v = .slice a l.length c) ∧ l.length ≤ maxLen := by
  rcases h with ⟨rfl, a, c, rfl⟩ | ⟨b, off, c, rfl, _, h2, _⟩
  · exact ⟨⟨_, _, rfl⟩, by simp⟩
  · exact ⟨⟨_, _, rfl⟩, h2⟩
theorem U8s.at {w W : World} {v : Value} {l : List UInt8} (h : U8s w v l) (hb : Below w.heap.size w W) (j : Nat) (hj : j < l.length) :
    ∃ b off c, v = .slice (some ⟨b, off, none⟩) l.length c ∧ W.cell? ⟨b, off + j, none⟩ = some (.int .u8 ((l.getD j 0).toNat : Int)) ∧ has W b := by
  rcases h with ⟨rfl, _⟩ | ⟨b, off, c, rfl, h1, _, h3⟩
  · simp at hj
  · exact ⟨b, off, c, rfl, (hb.cell (p := ⟨b, off + j, none⟩) h1).trans (h3 j hj), by have := hb.size; unfold has; omega⟩
/-- Out of a row that was read. -/
theorem U8s.of {w : World} {x : Addr} {len cap : Nat} {zs : List Int} (hl : len ≤ cap) (hm : cap ≤ maxLen) (hz : zs.length = cap) (hcell : ∀ i, i < zs.length → w.cell? (x.add i) = some (.int .u8 (zs.getD i 0))) (hw : ∀ n ∈ zs, (Lit.int .u8 n).wf = true) :
    ∃ l, U8s w (.slice (some x) len cap) l ∧ l.length = len := by
  refine ⟨(zs.take len).map fun n => UInt8.ofNat n.toNat, ?_, by simp; omega⟩
  rcases Nat.eq_zero_or_pos len with rfl | h0
  · exact .inl ⟨by simp, _, _, rfl⟩
  · obtain ⟨b, off, spot⟩ := x
    have hc := hcell 0 (by omega)
    have hspot : spot = none := by simpa [Addr.add] using World.cell?_spot hc
    subst hspot
    have hlen : ((zs.take len).map fun n => UInt8.ofNat n.toNat).length = len := by simp; omega
    refine .inr ⟨b, off, cap, by rw [hlen], ?_, by rw [hlen]; omega, fun j hj => ?_⟩
    · have := World.block_lt_of_cell? _ _ hc
      simpa [Addr.add] using this
    · rw [hlen] at hj
      have hj' : j < zs.length := by omega
      have h2 := hcell j hj'
      have e : (⟨b, off, none⟩ : Addr).add j = ⟨b, off + j, none⟩ := by simp [Addr.add]
      rw [e] at h2
      rw [h2]
      have hwf := hw (zs.getD j 0) (by rw [List.getD_eq_getElem?_getD, List.getElem?_eq_getElem hj']; exact List.getElem_mem _)
      simp [Lit.wf, IntKind.min, IntKind.max, IntKind.signed, IntKind.bits] at hwf
      have e2 : ((zs.take len).map fun n => UInt8.ofNat n.toNat).getD j 0 = UInt8.ofNat (zs.getD j 0).toNat := by
        simp [hj, hj']
      rw [e2, UInt8.toNat_ofNat']
      congr 2
      simp [hj'] at hwf ⊢
      omega
end Go.Proofs.Ytojgfaichkcmpaa

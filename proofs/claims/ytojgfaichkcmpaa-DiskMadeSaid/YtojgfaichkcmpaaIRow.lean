/- Rows of numbers that a call made itself and appends to; a disk of the call's own. -/
import Derived.Test.YtojgfaichkcmpaaAwake1
namespace Go.Proofs.Ytojgfaichkcmpaa
open Go.RowKit

def i64s (l : List Int) : List Value := l.map fun x => .int .i64 x
theorem i64s_one (l : List Int) : ∀ u ∈ i64s l, u.oneCell' = true := by
  intro u hu
  obtain ⟨b, _, rfl⟩ := List.mem_map.1 hu
  rfl
/-- A row of numbers of the call's own. -/
def rowI (w : World) (base : Nat) (v : Value) (l : List Int) : Prop := w.ownsRow base 3 1 v l.length (i64s l)
theorem rowI_nil (w : World) (base : Nat) : rowI w base (.slice none 0 0) [] := World.ownsRow_nil w base 3 1
theorem rowI_alloc {w : World} {base : Nat} {v : Value} {l : List Int} (h : rowI w base v l) (o : Obj) : rowI (w.alloc o) base v l := World.ownsRow.alloc h o
theorem rowI_below {w w' : World} {base : Nat} {v : Value} {l : List Int} (h : rowI w base v l) (hg : w.grownBy w' v.ownBlock) (hb : base ≤ w.heap.size) : Below base w w' :=
  ⟨hg.os, hg.tape, hg.output, hg.size, fun k hk => hg.block k (Nat.lt_of_lt_of_le hk hb) (fun he => by
    have := (World.ownsRow.lt h k he.symm).1
    omega)⟩
theorem info3 : (Try.prog.info? 3).map (fun i => (i.zero, i.size, i.bytes)) = some (some (.int .i64 0), 1, 8) := by kernel_rfl
theorem wpList_appendI {W : World} {ops : Array Oper} {rest : List Oper} {o : Oper} {a : Act} {Q : Exit → Act → World → Prop} (hgd : o.guard = none) (s x : Operand)
    (ho : o.op = .call { callee := .builtin .append, args := #[s, x], argTypes := #[34, 34] }) (base : Nat) (v : Value) (l news : List Int) (hs : a.eval s = v)
    (hrow : rowI W base v l) (n m c : Nat) (hn : n = W.heap.size) (hx : a.eval x = .slice (some ⟨n, 0, none⟩) m c) (hm : news.length = m) (hlen : l.length + m ≤ 1000000) (hbase : base ≤ W.heap.size)
    (h : ∀ v' w', rowI w' base v' (l ++ news) → Below base W w' → wpList Try.prog ops Q rest (a.put o.dst v') w') : wpList Try.prog ops Q (o :: rest) a (W.alloc (.cells (i64s news).toArray 3)) := by
  subst hm hn
  have hinfo := info3
  cases hi : Try.prog.info? 3 with
  | none => rw [hi] at hinfo; cases hinfo
  | some i =>
    rw [hi] at hinfo
    simp only [Option.map_some, Option.some.injEq, Prod.mk.injEq] at hinfo
    have hr := rowI_alloc hrow (.cells (i64s news).toArray 3)
    refine wpList_append_own _ hgd s x 34 ho base 3 i (.int .i64 0) 1 8 Try.underlying34 hi hinfo.1 hinfo.2.1 hinfo.2.2 rfl (by omega) v l.length (i64s l) hs hr ⟨W.heap.size, 0, none⟩ news.length c (i64s news) hx (by simp [i64s]) (fun j u hj => by
      rw [addr_add]
      simp only [World.cell?, new_at]
      simpa using hj) (i64s_one news) (by unfold maxLen; omega) (by omega) (by simp; omega) ?_
    intro v' w' h1 h2 _
    refine h v' w' ?_ (((Below.refl base W).alloc hbase _).trans (rowI_below hr h2 (by simp; omega)))
    unfold rowI
    rw [List.length_append, show i64s (l ++ news) = i64s l ++ i64s news by simp [i64s]]
    exact h1
theorem rowI_ints {w : World} {base : Nat} {v : Value} {l : List Int} (h : rowI w base v l) (hl : l.length ≤ 1000000) : Ints w v l := by
  have h0 := h
  obtain ⟨h1, h2⟩ := h
  rcases h2 with ⟨rfl, hn0⟩ | ⟨g, cap, cur, rfl, hb, hh, hn, hc, hcs, ht⟩
  · have : l = [] := List.eq_nil_of_length_eq_zero hn0
    subst this
    exact .inl ⟨_, rfl, rfl⟩
  · refine .inr ⟨g, cap, cur, _, rfl, hh, hl, fun j hj => ?_⟩
    have hcell := World.ownsRow.cells h0 (g := g) rfl j (.int .i64 (l.getD j 0)) (by simp [i64s, hj])
    rw [addr_add] at hcell
    simpa [World.cell?, hh] using hcell
theorem rowI_kept {w w' : World} {base : Nat} {v : Value} {l : List Int} (h : rowI w base v l) (hb : Below w.heap.size w w') : rowI w' base v l := ownsRow_same h fun g hg => by
  obtain ⟨cur, h1⟩ := ownsRow_elem h hg
  exact hb.block g (Array.getElem?_eq_some_iff.1 h1).1
theorem rowI_changed {w w' : World} {base : Nat} {v : Value} {l : List Int} (h : rowI w base v l) {p f : Nat} {lv lv' : Value} {S : DS} (hd : DiskAt w p f lv S) (hc : Changed w w' p f lv lv') : rowI w' base v l := ownsRow_same h fun g hg => by
  obtain ⟨cur, h1⟩ := ownsRow_elem h hg
  refine hc.block g (Array.getElem?_eq_some_iff.1 h1).1 ?_ ?_ ?_
  · rintro rfl
    rw [hd.hp] at h1
    simp at h1
  · rintro rfl
    rw [hd.hf] at h1
    simp at h1
  · intro e
    obtain ⟨cu, h5⟩ := ownsRow_elem hd.hl e
    rw [h5] at h1
    simp at h1

/-- A disk of the call's own. -/
structure Mine (w : World) (W : World) (p f : Nat) (lv : Value) (S : DS) : Prop where
  disk : DiskAt W p f lv S
  below : Below w.heap.size w W
  hp : w.heap.size ≤ p
  hf : w.heap.size ≤ f
  hl : ∀ k, lv.ownBlock = some k → w.heap.size ≤ k
theorem Mine.on {w W W' : World} {p f : Nat} {lv : Value} {S : DS} (h : Mine w W p f lv S) (hb : Below W.heap.size W W') : Mine w W' p f lv S :=
  ⟨h.disk.below hb, h.below.trans (hb.mono h.below.size), h.hp, h.hf, h.hl⟩
theorem Mine.changed {w W W' : World} {p f : Nat} {lv lv' : Value} {S T : DS} (h : Mine w W p f lv S) (hc : Changed W W' p f lv lv') (hd : DiskAt W' p f lv' T) : Mine w W' p f lv' T := by
  refine ⟨hd, h.below.trans ⟨hc.os, hc.tape, hc.output, hc.size, fun k hk => ?_⟩, h.hp, h.hf, fun k hk => ?_⟩
  · have := h.below.size
    exact hc.block k (by omega) (by have := h.hp; omega) (by have := h.hf; omega) (fun e => by have := h.hl k e; omega)
  · rcases hc.own k hk with h1 | h1
    · exact h.hl k h1
    · have := h.below.size
      omega
theorem new_m (n : Nat) (w W : World) (hb : Below w.heap.size w W) (h1 : 32 ≤ n) (hn : n ≤ 4096) :
    Calls Try.prog 9 #[.int .i64 (n : Int)] W fun e w' => ∃ p f, e = .returned (.tuple #[ptr p, .int .i64 0]) ∧ Mine w w' p f (.slice none 0 0) (DS.new n) ∧ W.heap.size ≤ p ∧ W.heap.size ≤ f ∧ Below W.heap.size W w' :=
  (new_any n W h1 hn).mono fun _ _ ⟨p, f, h2, h3, h4, h5, h6⟩ => ⟨p, f, h2, ⟨h5, hb.trans (h6.mono hb.size), Nat.le_trans hb.size h3, Nat.le_trans hb.size h4, fun k hk => by cases hk⟩, h3, h4, h6⟩
theorem write_m {w W : World} {p f : Nat} {lv : Value} {S : DS} (h : Mine w W p f lv S) (i : Int) (s : List UInt8) (T : DS) (c : Int) (hw : S.write i s = (T, c)) (hm : S.loose.length < 1000000) :
    Calls Try.prog 11 #[ptr p, .int .i64 i, strV s] W fun e w' => e = .returned (.int .i64 c) ∧ ∃ lv', Mine w w' p f lv' T ∧ Changed W w' p f lv lv' :=
  (write_any h.disk i s hm).mono fun _ _ ⟨h1, lv', h2, h3⟩ => by rw [hw] at h1 h2; exact ⟨h1, lv', h.changed h3 h2, h3⟩
theorem flush_m {w W : World} {p f : Nat} {lv : Value} {S : DS} (h : Mine w W p f lv S) (T : DS) (c : Int) (hw : S.flush = (T, c)) :
    Calls Try.prog 13 #[ptr p] W fun e w' => e = .returned (.int .i64 c) ∧ ∃ lv', Mine w w' p f lv' T ∧ Changed W w' p f lv lv' :=
  (flush_any h.disk).mono fun _ _ ⟨h1, lv', h2, h3⟩ => by rw [hw] at h1 h2; exact ⟨h1, lv', h.changed h3 h2, h3⟩
theorem turn_m {w W : World} {p f : Nat} {lv : Value} {S : DS} (h : Mine w W p f lv S) (i k b : Int) (T : DS) (c : Int) (hw : S.turned i k b = (T, c)) :
    Calls Try.prog 21 #[ptr p, .int .i64 i, .int .i64 k, .int .i64 b] W fun e w' => e = .returned (.int .i64 c) ∧ ∃ lv', Mine w w' p f lv' T ∧ Changed W w' p f lv lv' :=
  (turn_any h.disk i k b).mono fun _ _ ⟨h1, lv', h2, h3⟩ => by rw [hw] at h1 h2; exact ⟨h1, lv', h.changed h3 h2, h3⟩
theorem fuse_m {w W : World} {p f : Nat} {lv : Value} {S : DS} (h : Mine w W p f lv S) (n : Int) (hn : n ≤ 9223372036854775807) :
    Calls Try.prog 14 #[ptr p, .int .i64 n] W fun e w' => (∃ v, e = .returned v) ∧ Mine w w' p f lv { S with fuse := max (-1) n } ∧ Changed W w' p f lv lv :=
  (fuse_any h.disk n hn).mono fun _ _ ⟨h1, h2, h3⟩ => ⟨h1, h.changed h3 h2, h3⟩
theorem crash_m {w W : World} {p f : Nat} {lv : Value} {S : DS} (h : Mine w W p f lv S) (v : Value) (zs : List Int) (hz : Ints W v zs) :
    Calls Try.prog 16 #[ptr p, v] W fun e w' => (∃ r, e = .returned r) ∧ ∃ lv', Mine w w' p f lv' (S.crash zs) ∧ Changed W w' p f lv lv' :=
  (crash_any h.disk v zs hz).mono fun _ _ ⟨h1, lv', h2, h3⟩ => ⟨h1, lv', h.changed h3 h2, h3⟩
theorem read_m {w W : World} {p f : Nat} {lv : Value} {S : DS} (h : Mine w W p f lv S) (i : Int) (s : List UInt8) (c : Int) (hr : S.read i = (s, c)) :
    Calls Try.prog 15 #[ptr p, .int .i64 i] W fun e w' => e = .returned (.tuple #[strV s, .int .i64 c]) ∧ Below W.heap.size W w' ∧ Mine w w' p f lv S :=
  (read_any h.disk i).mono fun _ _ ⟨h1, h2⟩ => by rw [hr] at h1; exact ⟨h1, h2, h.on h2⟩
theorem sector_m {w W : World} {p f : Nat} {lv : Value} {S : DS} (h : Mine w W p f lv S) (l : List UInt8) :
    Calls Try.prog 12 #[strV l] W fun e w' => e = .returned (strV (secN l)) ∧ Below W.heap.size W w' ∧ Mine w w' p f lv S :=
  (sector_any l W).mono fun _ _ ⟨h1, h2⟩ => ⟨h1, h2, h.on h2⟩
end Go.Proofs.Ytojgfaichkcmpaa

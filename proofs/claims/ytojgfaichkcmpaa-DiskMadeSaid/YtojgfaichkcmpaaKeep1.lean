/- A row of texts of the call's own beside a disk; a loop's end cut off; bytes that came in, by place. -/
import Derived.Test.YtojgfaichkcmpaaApart
namespace Go.Proofs.Ytojgfaichkcmpaa
open Go.RowKit

/-- A disk, and a row of texts of the call's own. -/
structure Kp (w W : World) (p f : Nat) (lv : Value) (S : DS) (g : Nat) (F : List (List UInt8)) : Prop where
  mine : Mine w W p f lv S
  row : W.heap[g]? = some (.cells (strsV F) 9)
  hg : w.heap.size ≤ g
  fg : f ≠ g
section
variable {w W W' : World} {p f : Nat} {lv : Value} {S : DS} {g : Nat} {F : List (List UInt8)}
theorem Kp.lt (h : Kp w W p f lv S g F) : g < W.heap.size := (Array.getElem?_eq_some_iff.1 h.row).1
theorem Kp.pg (h : Kp w W p f lv S g F) : p ≠ g := fun e => by
  have h1 := h.mine.disk.hp
  rw [e, h.row] at h1
  simp at h1
theorem Kp.lg (h : Kp w W p f lv S g F) : lv.ownBlock ≠ some g := fun e => by
  obtain ⟨cur, h1⟩ := ownsRow_elem h.mine.disk.hl e
  rw [h.row] at h1
  simp at h1
theorem Kp.on (h : Kp w W p f lv S g F) (hb : Below W.heap.size W W') : Kp w W' p f lv S g F := ⟨h.mine.on hb, (hb.block g h.lt).trans h.row, h.hg, h.fg⟩
theorem Kp.at {lv' : Value} {S' : DS} (h : Kp w W p f lv S g F) (hm : Mine w W' p f lv' S') (hc : Changed W W' p f lv lv') : Kp w W' p f lv' S' g F :=
  ⟨hm, (hc.block g h.lt (Ne.symm h.pg) (Ne.symm h.fg) h.lg).trans h.row, h.hg, h.fg⟩
theorem rowI_ne {v : Value} {l : List Int} {base : Nat} (hr : rowI W base v l) (hg : W.heap[g]? = some (.cells (strsV F) 9)) : v.ownBlock ≠ some g := fun e => by
  obtain ⟨cur, h1⟩ := ownsRow_elem hr e
  rw [hg] at h1
  simp at h1
theorem Kp.grown {v : Value} {l : List Int} {o : Obj} (h : Kp w W p f lv S g F) (hr : rowI W w.heap.size v l) (hgr : (W.alloc o).grownBy W' v.ownBlock) : Kp w W' p f lv S g F :=
  ⟨h.mine.grown hr hgr, ((hgr.block g (by have := h.lt; simp; omega) (fun e => rowI_ne hr h.row e.symm)).trans (Below.heap_alloc _ _ _ h.lt)).trans h.row, h.hg, h.fg⟩
theorem Kp.cell (h : Kp w W p f lv S g F) (j : Nat) (hj : j < F.length) : W.cell? ⟨g, j, none⟩ = some (strV (F.getD j [])) ∧ W.frozen? ⟨g, j, none⟩ = false ∧ has W g := by
  refine ⟨?_, ?_, h.lt⟩
  · simp only [World.cell?, h.row]
    exact strsV_get hj
  · simp [World.frozen?, h.row]
theorem Kp.put (h : Kp w W p f lv S g F) (j : Nat) (s : List UInt8) : Kp w (W.setCell ⟨g, j, none⟩ (strV s)) p f lv S g (F.set j s) := by
  have hd := h.mine.disk
  refine ⟨⟨⟨(setCell_other W g j p _ h.pg).trans hd.hp, (setCell_other W g j f _ h.fg).trans hd.hf, ownsRow_same hd.hl fun k h1 => setCell_other W g j k _ (fun e => h.lg (e ▸ h1)), hd.hn, hd.hm, hd.hfu, hd.hb, hd.hs⟩, h.mine.below.trans ⟨rfl, rfl, rfl, by rw [setCell_size]; exact Nat.le_refl _, fun k hk => setCell_other W g j k _ (fun e => by have := h.hg; omega)⟩, h.mine.hp, h.mine.hf, h.mine.hl⟩, ?_, h.hg, h.fg⟩
  rw [setCell_block h.row, strsV_set]
theorem rowI_put {v : Value} {l : List Int} {base : Nat} (hr : rowI W base v l) (hg : W.heap[g]? = some (.cells (strsV F) 9)) (j : Nat) (s : List UInt8) : rowI (W.setCell ⟨g, j, none⟩ (strV s)) base v l :=
  ownsRow_same hr fun k h1 => setCell_other W g j k _ (fun e => rowI_ne hr hg (e ▸ h1))
end
/-- A byte that came in, by its place. -/
theorem U8s.spot {w : World} {A : Option Addr} {c : Nat} {l : List UInt8} (h : U8s w (.slice A l.length c) l) (i : Nat) (h1 : i < l.length) :
    ∃ b o, A = some ⟨b, o, none⟩ ∧ ∀ {X : World}, Below w.heap.size w X → X.cell? ⟨b, o + i, none⟩ = some (.int .u8 ((l.getD i 0).toNat : Int)) ∧ has X b := by
  obtain ⟨b0, o0, c0, hv, -, -⟩ := h.at (Below.refl _ _) i h1
  obtain ⟨rfl, -, -⟩ := by simpa only [Value.slice.injEq] using hv
  refine ⟨b0, o0, rfl, fun {X} hX => ?_⟩
  obtain ⟨b1, o1, c1, hv1, hc1, hh1⟩ := h.at hX i h1
  obtain ⟨he, -, -⟩ := by simpa only [Value.slice.injEq] using hv1
  simp only [Option.some.injEq, Addr.mk.injEq] at he
  obtain ⟨rfl, rfl, -⟩ := he
  exact ⟨hc1, hh1⟩
theorem u8_rem (y : UInt8) (m : Nat) (_ : 0 < m) : (wrap64 (y.toNat : Int)).tmod (m : Int) = ((y.toNat % m : Nat) : Int) := by
  have hy256 := y.toNat_lt
  rw [show wrap64 (y.toNat : Int) = (y.toNat : Int) by unfold wrap64; omega, Int.tmod_eq_emod_of_nonneg (by omega)]
  omega
/-- What follows a loop, cut off. -/
theorem loop_k {P : Program} {c rest : Code} {n : Nat} {Q : Exit → Act → World → Prop} {a : Act} {w : World}
    (h : ∀ K : Act → World → Prop, (∀ a w, rest.wp P Q a w → K a w) → (Code.loop c).wp P (Exit.inBlock n (Exit.then K Q)) a w) : (Code.loop c).wp P (Exit.inBlock n (Exit.then (rest.wp P Q) Q)) a w := h _ fun _ _ h => h
/-- Slots that count for nothing. -/
theorem any_slot {P : Program} {c : Code} {Q : Exit → Act → World → Prop} {l : List Value} {w : World} {d} (k : Nat) (h : ∀ v, c.wp P Q ⟨(l.set k v).toArray, d⟩ w) : c.wp P Q ⟨l.toArray, d⟩ w := by
  have := h (l.getD k undef)
  rcases Nat.lt_or_ge k l.length with hk | hk
  · rwa [List.getD_eq_getElem?_getD, List.getElem?_eq_getElem hk, Option.getD_some, List.set_getElem_self] at this
  · rwa [List.set_eq_of_length_le hk] at this
theorem any_slots {P : Program} {c : Code} {Q : Exit → Act → World → Prop} {l : List Value} {w : World} {d} (k : Nat) (h : ∀ v1 v2 v3 v4, c.wp P Q ⟨((((l.set k v1).set (k + 1) v2).set (k + 2) v3).set (k + 3) v4).toArray, d⟩ w) : c.wp P Q ⟨l.toArray, d⟩ w :=
  any_slot k fun v1 => any_slot (k + 1) fun v2 => any_slot (k + 2) fun v3 => any_slot (k + 3) fun v4 => h v1 v2 v3 v4
structure Boxed (p : Prop) : Prop where
  out : p
theorem cut_at {G X : Prop} (h : Boxed G → X) (g : G) : X := h ⟨g⟩

theorem rowI_form {w : World} {base : Nat} {v : Value} {l : List Int} (h : rowI w base v l) : ∃ A c, v = .slice A l.length c := by
  rcases h.2 with ⟨rfl, h0⟩ | ⟨g, cap, cur, rfl, _⟩
  · exact ⟨none, 0, by rw [h0]⟩
  · exact ⟨_, _, rfl⟩
theorem rowI_at {w : World} {base : Nat} {A : Option Addr} {n c : Nat} {l : List Int} (h : rowI w base (.slice A n c) l) (k : Nat) (hk : k < l.length) : ∃ g, A = some ⟨g, 0, none⟩ ∧ w.cell? ⟨g, k, none⟩ = some (.int .i64 (l.getD k 0)) ∧ has w g := by
  have h0 := h
  rcases h.2 with ⟨_, hn⟩ | ⟨g, cap, cur, hv, _, hh, _⟩
  · omega
  · obtain ⟨rfl, -, -⟩ := by simpa only [Value.slice.injEq] using hv
    refine ⟨g, rfl, ?_, (Array.getElem?_eq_some_iff.1 hh).1⟩
    have := World.ownsRow.cells h0 (g := g) rfl k (.int .i64 (l.getD k 0)) (by simp [i64s, hk])
    rwa [addr_add] at this
/-- Writes that are loose, by number. -/
def ld (K : Nat → Nat) (T : Nat → List UInt8) (i : Nat) : List (Nat × List UInt8) := (List.range i).map fun j => (K j, T j)
def ldS (F : List (List UInt8)) (K : Nat → Nat) (T : Nat → List UInt8) (i : Nat) : DS := { calm F with loose := ld K T i }
theorem ld_length (K : Nat → Nat) (T : Nat → List UInt8) (i : Nat) : (ld K T i).length = i := by simp [ld]
theorem ld_succ (K : Nat → Nat) (T : Nat → List UInt8) (i : Nat) : ld K T (i + 1) = ld K T i ++ [(K i, T i)] := by simp [ld, List.range_succ]
theorem ld_zero (F : List (List UInt8)) (K : Nat → Nat) (T : Nat → List UInt8) : ldS F K T 0 = calm F := rfl
theorem ld_write (F : List (List UInt8)) (K : Nat → Nat) (T : Nat → List UInt8) (i : Nat) (h1 : K i < F.length) (h2 : (T i).length = 64) : (ldS F K T i).write (K i : Int) (T i) = (ldS F K T (i + 1), 0) := by
  unfold DS.write
  rw [if_neg (by simp [ldS, calm]), if_neg (by simp [ldS, calm, h1, h2]), if_neg (by simp [ldS, calm])]
  simp only [ldS, ld_succ, calm, Int.toNat_natCast]
  rfl
theorem ld_put (F : List (List UInt8)) (K : Nat → Nat) (T : Nat → List UInt8) (i : Nat) : putAll F (ld K T (i + 1)) = (putAll F (ld K T i)).set (K i) (T i) := by rw [ld_succ, putAll_snoc]
theorem ld_flush (F : List (List UInt8)) (K : Nat → Nat) (T : Nat → List UInt8) (i : Nat) : (ldS F K T i).flush = (calm (putAll F (ld K T i)), 0) := flush_calm _ rfl rfl
/-- Those of them that are kept, put. -/
def keptF (F : List (List UInt8)) (zs : List Int) (K : Nat → Nat) (T : Nat → List UInt8) (i : Nat) : List (List UInt8) := putAll F (keptN zs 0 (ld K T i))
theorem keptF_length (F : List (List UInt8)) (zs : List Int) (K : Nat → Nat) (T : Nat → List UInt8) (i : Nat) : (keptF F zs K T i).length = F.length := putAll_length _ _
theorem keptF_succ (F : List (List UInt8)) (zs : List Int) (K : Nat → Nat) (T : Nat → List UInt8) (i : Nat) : keptF F zs K T (i + 1) = if zs.contains (i : Int) then (keptF F zs K T i).set (K i) (T i) else keptF F zs K T i := by
  unfold keptF
  rw [ld_succ, keptN_snoc, ld_length, Nat.zero_add]
  split
  · rw [putAll_snoc]
  · rw [List.append_nil]
theorem ld_crash (F : List (List UInt8)) (zs : List Int) (K : Nat → Nat) (T : Nat → List UInt8) (i : Nat) : (ldS F K T i).crash zs = calm (keptF F zs K T i) := crash_calm _ _
/-- What the inner loop made so far. -/
def upTo (F : List (List UInt8)) (zs : List Int) (i x : Nat) (s : List UInt8) (k : Nat) : List (List UInt8) := if (zs.take k).contains (i : Int) then F.set x s else F
theorem upTo_succ (F : List (List UInt8)) (zs : List Int) (i x : Nat) (s : List UInt8) (k : Nat) (hk : k < zs.length) : upTo F zs i x s (k + 1) = if zs.getD k 0 = (i : Int) then (upTo F zs i x s k).set x s else upTo F zs i x s k := by
  have e : zs[k] = zs.getD k 0 := by simp [hk]
  unfold upTo
  rw [List.take_succ_eq_append_getElem hk, e]
  generalize zs.getD k 0 = z
  simp only [List.contains_eq_mem, List.mem_append, List.mem_singleton]
  by_cases h1 : z = (i : Int)
  · subst h1
    simp
    split <;> simp
  · simp [h1, Ne.symm h1]
theorem keptF_zero (F : List (List UInt8)) (zs : List Int) (K : Nat → Nat) (T : Nat → List UInt8) : keptF F zs K T 0 = F := rfl
theorem upTo_zero (F : List (List UInt8)) (zs : List Int) (i x : Nat) (s : List UInt8) : upTo F zs i x s 0 = F := by simp [upTo]
theorem upTo_all (F : List (List UInt8)) (zs : List Int) (K : Nat → Nat) (T : Nat → List UInt8) (i : Nat) : upTo (keptF F zs K T i) zs i (K i) (T i) zs.length = keptF F zs K T (i + 1) := by
  rw [keptF_succ, upTo, List.take_length]
theorem upTo_length (F : List (List UInt8)) (zs : List Int) (i x : Nat) (s : List UInt8) (k : Nat) : (upTo F zs i x s k).length = F.length := by
  unfold upTo
  split <;> simp
end Go.Proofs.Ytojgfaichkcmpaa

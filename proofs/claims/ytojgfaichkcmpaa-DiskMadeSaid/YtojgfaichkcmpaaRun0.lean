/- Both disks side by side; what is asked of them, as it comes in. -/
import Derived.Test.YtojgfaichkcmpaaRef7
namespace Go.Proofs.Ytojgfaichkcmpaa
open Go.RowKit

/-- A block of another kind lies as it lay. -/
theorem Changed.keeps {W W' : World} {p f : Nat} {lv lv' : Value} {S : DS} (hd : DiskAt W p f lv S) (hc : Changed W W' p f lv lv') {X : Nat} {cs : Array Value} {e : TypeId} {fr : Nat × Nat} (hX : W.heap[X]? = some (.cells cs e fr)) (h1 : e ≠ 51) (h2 : e ≠ 9) (h3 : e ≠ 54) : W'.heap[X]? = some (.cells cs e fr) := by
  refine (hc.block X (Array.getElem?_eq_some_iff.1 hX).1 ?_ ?_ ?_).trans hX
  · rintro rfl
    rw [hd.hp] at hX
    simp at hX
    exact h1 hX.2.1.symm
  · rintro rfl
    rw [hd.hf] at hX
    simp at hX
    exact h2 hX.2.1.symm
  · intro e
    obtain ⟨cur, h5⟩ := ownsRow_elem hd.hl e
    rw [h5] at hX
    simp at hX
    exact h3 hX.2.1.symm
theorem ChangedR.keeps {W W' : World} {q : Nat} {fv nv fv' nv' : Value} {S : DS} (hd : RefAt W q fv nv S) (hc : ChangedR W W' q fv nv fv' nv') {X : Nat} {cs : Array Value} {e : TypeId} {fr : Nat × Nat} (hX : W.heap[X]? = some (.cells cs e fr)) (h1 : e ≠ 70) (h2 : e ≠ 9) (h3 : e ≠ 89) : W'.heap[X]? = some (.cells cs e fr) := by
  refine (hc.block X (Array.getElem?_eq_some_iff.1 hX).1 ?_ ?_ ?_).trans hX
  · rintro rfl
    rw [hd.hp] at hX
    simp at hX
    exact h1 hX.2.1.symm
  · intro e
    obtain ⟨cur, h5⟩ := ownsRow_elem hd.hf e
    rw [h5] at hX
    simp at hX
    exact h2 hX.2.1.symm
  · intro e
    obtain ⟨cur, h5⟩ := ownsRow_elem hd.hl e
    rw [h5] at hX
    simp at hX
    exact h3 hX.2.1.symm
structure Both (w W : World) (p f : Nat) (lv : Value) (S : DS) (q : Nat) (fv nv : Value) (T : DS) : Prop where
  a : Mine w W p f lv S
  r : MineR w W q fv nv T
  ff : fv.ownBlock ≠ some f
section
variable {w W W' : World} {p f : Nat} {lv lv' : Value} {S S' T T' : DS} {q : Nat} {fv nv nv' : Value}
theorem Both.on (h : Both w W p f lv S q fv nv T) (hb : Below W.heap.size W W') : Both w W' p f lv S q fv nv T := ⟨h.a.on hb, h.r.on hb, h.ff⟩
theorem Both.pq (h : Both w W p f lv S q fv nv T) : p ≠ q ∧ f ≠ q ∧ lv.ownBlock ≠ some q ∧ fv.ownBlock ≠ some p ∧ (∀ k, fv.ownBlock = some k → lv.ownBlock ≠ some k) ∧ nv.ownBlock ≠ some p ∧ nv.ownBlock ≠ some f ∧ (∀ k, nv.ownBlock = some k → lv.ownBlock ≠ some k) := by
  have hd := h.a.disk
  have hr := h.r.disk
  refine ⟨fun e => ?_, fun e => ?_, fun e => ?_, fun e => ?_, fun k e1 e2 => ?_, fun e => ?_, fun e => ?_, fun k e1 e2 => ?_⟩
  · have h1 := hd.hp
    rw [e, hr.hp] at h1
    simp at h1
  · have h1 := hd.hf
    rw [e, hr.hp] at h1
    simp at h1
  · obtain ⟨cur, h1⟩ := ownsRow_elem hd.hl e
    rw [hr.hp] at h1
    simp at h1
  · obtain ⟨cur, h1⟩ := ownsRow_elem hr.hf e
    rw [hd.hp] at h1
    simp at h1
  · obtain ⟨cur, h1⟩ := ownsRow_elem hr.hf e1
    obtain ⟨cu, h2⟩ := ownsRow_elem hd.hl e2
    rw [h1] at h2
    simp at h2
  · obtain ⟨cur, h1⟩ := ownsRow_elem hr.hl e
    rw [hd.hp] at h1
    simp at h1
  · obtain ⟨cur, h1⟩ := ownsRow_elem hr.hl e
    rw [hd.hf] at h1
    simp at h1
  · obtain ⟨cur, h1⟩ := ownsRow_elem hr.hl e1
    obtain ⟨cu, h2⟩ := ownsRow_elem hd.hl e2
    rw [h1] at h2
    simp at h2
theorem Both.atA (h : Both w W p f lv S q fv nv T) (hm : Mine w W' p f lv' S') (hc : Changed W W' p f lv lv') : Both w W' p f lv' S' q fv nv T := by
  obtain ⟨k1, k2, k3, k4, k5, k6, k7, k8⟩ := h.pq
  have hr := h.r.disk
  refine ⟨hm, ⟨⟨(hc.block q hr.lt (Ne.symm k1) (Ne.symm k2) k3).trans hr.hp, ownsRow_same hr.hf fun g hg => hc.block g (hr.own_lt.1 g hg) (fun e => k4 (e ▸ hg)) (fun e => h.ff (e ▸ hg)) (k5 g hg), ownsRow_same hr.hl fun g hg => hc.block g (hr.own_lt.2 g hg) (fun e => k6 (e ▸ hg)) (fun e => k7 (e ▸ hg)) (k8 g hg), hr.hn, hr.hm, hr.hfu, hr.hb, hr.hs⟩, hm.below, h.r.hq, h.r.hf, h.r.hl⟩, h.ff⟩
theorem Both.atR (h : Both w W p f lv S q fv nv T) (hd : RefAt W' q fv nv' T') (hc : ChangedR W W' q fv nv fv nv') : Both w W' p f lv S q fv nv' T' := by
  obtain ⟨k1, k2, k3, k4, k5, k6, k7, k8⟩ := h.pq
  have hm := h.r.changed hc hd
  have ha := h.a.disk
  exact ⟨⟨⟨(hc.block p ha.lt.1 k1 k4 k6).trans ha.hp, (hc.block f ha.lt.2 k2 h.ff k7).trans ha.hf, ownsRow_same ha.hl fun g hg => hc.block g (ha.own_lt hg) (fun e => k3 (e ▸ hg)) (fun e => k5 g e hg) (fun e => k8 g e hg), ha.hn, ha.hm, ha.hfu, ha.hb, ha.hs⟩, hm.below, h.a.hp, h.a.hf, h.a.hl⟩, hm, h.ff⟩
end
theorem cells5 {W : World} {p : Nat} {a b c d x : Value} {e : TypeId} (h : W.heap[p]? = some (.cells #[a, b, c, d, x] e)) :
    W.cell? ⟨p, 0, none⟩ = some a ∧ W.cell? ⟨p, 1, none⟩ = some b ∧ W.cell? ⟨p, 2, none⟩ = some c ∧ W.cell? ⟨p, 3, none⟩ = some d ∧ W.cell? ⟨p, 4, none⟩ = some x := by
  refine ⟨?_, ?_, ?_, ?_, ?_⟩ <;> simp [World.cell?, h]
theorem keeps_below {W W' : World} {X : Nat} {o : Obj} (hX : W.heap[X]? = some o) (hb : Below W.heap.size W W') : W'.heap[X]? = some o := (hb.block X (Array.getElem?_eq_some_iff.1 hX).1).trans hX
/-- Something asked. -/
structure AskN where
  do_ : Int
  at_ : Int
  n : Int
  s : List UInt8
  lv : Value
  zs : List Int
def AskN.cells (x : AskN) : List Value := [.int .i64 x.do_, .int .i64 x.at_, .int .i64 x.n, strV x.s, x.lv]
def AsksW (w : World) (v : Value) (l : List AskN) : Prop :=
  (l = [] ∧ ∃ a c, v = .slice a 0 c) ∨ ∃ b off c, v = .slice (some ⟨b, off, none⟩) l.length c ∧ b < w.heap.size ∧ ∀ j x, l[j]? = some x → IntsW w x.lv x.zs ∧ x.n ≤ 9223372036854775807 ∧ ∀ k u, x.cells[k]? = some u → w.cell? ⟨b, off + j * 5 + k, none⟩ = some u
theorem AsksW.form {w : World} {v : Value} {l : List AskN} (h : AsksW w v l) : ∃ a c, v = .slice a l.length c := by
  rcases h with ⟨rfl, a, c, rfl⟩ | ⟨b, off, c, rfl, _⟩
  · exact ⟨_, _, rfl⟩
  · exact ⟨_, _, rfl⟩
theorem AsksW.spot {w : World} {A : Option Addr} {n c : Nat} {l : List AskN} (h : AsksW w (.slice A n c) l) (i : Nat) (x : AskN) (hi : l[i]? = some x) :
    ∃ b o, A = some ⟨b, o, none⟩ ∧ IntsW w x.lv x.zs ∧ x.n ≤ 9223372036854775807 ∧ ∀ {X : World}, Below w.heap.size w X → X.cell? ⟨b, o + i * 5, none⟩ = some (.int .i64 x.do_) ∧ X.cell? ⟨b, o + i * 5 + 1, none⟩ = some (.int .i64 x.at_) ∧ X.cell? ⟨b, o + i * 5 + 2, none⟩ = some (.int .i64 x.n) ∧ X.cell? ⟨b, o + i * 5 + 3, none⟩ = some (strV x.s) ∧ X.cell? ⟨b, o + i * 5 + 4, none⟩ = some x.lv ∧ has X b := by
  rcases h with ⟨rfl, _⟩ | ⟨b, off, c', hv, h1, h3⟩
  · simp at hi
  · obtain ⟨rfl, -, -⟩ := by simpa only [Value.slice.injEq] using hv
    obtain ⟨h4, h5, h6⟩ := h3 i x hi
    exact ⟨b, off, rfl, h4, h5, fun {X} hX => ⟨(hX.cell (p := ⟨b, off + i * 5, none⟩) h1).trans (h6 0 _ rfl), (hX.cell (p := ⟨b, off + i * 5 + 1, none⟩) h1).trans (h6 1 _ rfl), (hX.cell (p := ⟨b, off + i * 5 + 2, none⟩) h1).trans (h6 2 _ rfl), (hX.cell (p := ⟨b, off + i * 5 + 3, none⟩) h1).trans (h6 3 _ rfl), (hX.cell (p := ⟨b, off + i * 5 + 4, none⟩) h1).trans (h6 4 _ rfl), by have := hX.size; unfold has; omega⟩⟩
theorem write_more (S : DS) (i : Int) (s : List UInt8) : (S.write i s).1.loose.length ≤ S.loose.length + 1 ∧ (S.write i s).1.firm.length = S.firm.length := by
  unfold DS.write
  split
  · simp
  · split
    · simp
    · split <;> simp
theorem flush_more (S : DS) : S.flush.1.loose.length ≤ S.loose.length ∧ S.flush.1.firm.length = S.firm.length := by
  unfold DS.flush
  split <;> simp [putAll_length]
theorem crash_more (S : DS) (zs : List Int) : (S.crash zs).loose.length ≤ S.loose.length ∧ (S.crash zs).firm.length = S.firm.length := by
  unfold DS.crash
  simp [putAll_length]
theorem turned_more (S : DS) (i k b : Int) : (S.turned i k b).1.loose.length = S.loose.length ∧ (S.turned i k b).1.firm.length = S.firm.length := by
  unfold DS.turned
  split
  · simp
  · split <;> simp
end Go.Proofs.Ytojgfaichkcmpaa

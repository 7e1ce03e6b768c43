/- No program in it: rows of bytes that a call made itself and appends to. -/
import Derived.Test.YtmlefodnbbkilaaPlus
import Derived.Below
import Derived.WalkKit
import Derived.Laws.AppendOwn
import Derived.Laws.OwnMore
import Derived.Laws.IdiomStrings
import Derived.Laws.BytesString
import Derived.Lib.ConvBytes
import Derived.Lib.Hide
import Derived.Outline
namespace Go.Proofs.Ytmlefodnbbkilaa
open Go.RowKit

/-- A string of bytes. -/
abbrev strV (l : List UInt8) : Value := .string ⟨l.toArray⟩
/-- Bytes as cells. -/
def u8s (l : List UInt8) : List Value := l.map fun b => .int .u8 (b.toNat : Int)
theorem u8s_length (l : List UInt8) : (u8s l).length = l.length := by simp [u8s]
theorem u8s_append (l m : List UInt8) : u8s (l ++ m) = u8s l ++ u8s m := by simp [u8s]
theorem u8s_one (l : List UInt8) : ∀ u ∈ u8s l, u.oneCell' = true := by
  intro u hu
  obtain ⟨b, _, rfl⟩ := List.mem_map.1 hu
  rfl
theorem u8s_get (l : List UInt8) (j : Nat) (h : j < l.length) : (u8s l)[j]? = some (.int .u8 (l[j].toNat : Int)) := by simp [u8s, h]

/-- A row of bytes of the call's own. -/
def rowB (w : World) (base e : Nat) (v : Value) (l : List UInt8) : Prop := w.ownsRow base e 1 v l.length (u8s l)
theorem rowB_nil (w : World) (base e : Nat) : rowB w base e (.slice none 0 0) [] := World.ownsRow_nil w base e 1
theorem rowB_own {w : World} {base e : Nat} {v : Value} {l : List UInt8} (h : rowB w base e v l) : w.ownsRow base e 1 v l.length (u8s l) := h
theorem rowB_of {w : World} {base e : Nat} {v : Value} {l m : List UInt8} (h : w.ownsRow base e 1 v (l.length + m.length) (u8s l ++ u8s m)) : rowB w base e v (l ++ m) := by
  unfold rowB
  rw [List.length_append, u8s_append]
  exact h
theorem rowB_drew {w : World} {base e : Nat} {v : Value} {l : List UInt8} (h : rowB w base e v l) : rowB w.drew base e v l := h
theorem rowB_alloc {w : World} {base e : Nat} {v : Value} {l : List UInt8} (h : rowB w base e v l) (o : Obj) : rowB (w.alloc o) base e v l := World.ownsRow.alloc h o
theorem rowB_plus {w : World} {base e : Nat} {v : Value} {l : List UInt8} (h : rowB w base e v l) (x : Ext) : rowB (plus w x) base e v l :=
  World.ownsRow.kept h (row := none) (by
    have hb := below_plus w x
    exact ⟨hb.os, hb.tape, hb.output, hb.size, fun k hk _ => hb.block k hk⟩) (by cases v.ownBlock <;> simp)
/-- Such a row as a string. -/
theorem rowB_str {P : Program} {w : World} {base e src dst : Nat} {v : Value} {l : List UInt8} (hs : P.underlying src = some (.slice e)) (he : P.underlying e = some (.int .u8)) (hd : P.underlying dst = some .string) (h : rowB w base e v l) :
    (convert src dst v).run P w = .ok (strV l) w := by
  have h0 := h
  obtain ⟨h1, h2⟩ := h
  rcases h2 with ⟨rfl, hn0⟩ | ⟨g, cap, cur, rfl, hb, hh, hn, hc, hcs, ht⟩
  · have hl : l = [] := List.eq_nil_of_length_eq_zero hn0
    subst hl
    rw [run_convert_bytes_string w src dst e none 0 0 hs he hd]
    simp [Conv.bytesToString, Sem.run_pure]
    rfl
  · have hcell := World.ownsRow.cells h0 (g := g) rfl
    exact run_convert_bytes_back w src dst e ⟨g, 0, none⟩ cap l hs he hd fun j hj => hcell j _ (u8s_get l j hj)
theorem idx_str {P : Program} (t : TypeId) (l : List UInt8) (k : IntKind) (x : Nat) (hx : x < l.length) (w : World) (h : P.underlying t = some .string) :
    (Instr.index t (.string ⟨l.toArray⟩) (.int k (x : Int))).run P w = .ok (.int .u8 ((l.getD x 0).toNat : Int)) w := by
  rw [run_index_string (P := P) w t _ k x h]
  have hx' : x < (⟨l.toArray⟩ : ByteArray).size := hx
  simp [hx']
  rw [List.getElem?_eq_getElem hx]
  rfl

theorem addr_add (g j : Nat) : (⟨g, 0, none⟩ : Addr).add j = ⟨g, j, none⟩ := by unfold Addr.add; split <;> simp_all
theorem cells_new (W : World) (l : List UInt8) (e : TypeId) (j : Nat) (u : Value) (h : (u8s l)[j]? = some u) : (W.alloc (.cells (u8s l).toArray e)).cell? ((⟨W.heap.size, 0, none⟩ : Addr).add j) = some u := by
  rw [addr_add]
  simp [World.cell?, World.alloc, -World.alloc_eq]
  exact h
theorem rowB_below {w w' : World} {base e : Nat} {v : Value} {l : List UInt8} (h : rowB w base e v l) (hg : w.grownBy w' v.ownBlock) (hb : base ≤ w.heap.size) : Below base w w' :=
  ⟨hg.os, hg.tape, hg.output, hg.size, fun k hk => hg.block k (Nat.lt_of_lt_of_le hk hb) (fun he => by
    have := (World.ownsRow.lt h k he.symm).1
    omega)⟩
/-- What append leaves of a row of bytes. -/
theorem wpList_appendB {P : Program} {W : World} {ops : Array Oper} {rest : List Oper} {o : Oper} {a : Act} {Q : Exit → Act → World → Prop} (hgd : o.guard = none) (s x : Operand) (t e : TypeId)
    (ho : o.op = .call { callee := .builtin .append, args := #[s, x], argTypes := #[t, t] }) (ht : P.underlying t = some (.slice e))
    (hinfo : (P.info? e).map (fun i => (i.zero, i.size, i.bytes)) = some (some (.int .u8 0), 1, 1)) (base : Nat) (v : Value) (l news : List UInt8) (hs : a.eval s = v)
    (hrow : rowB W base e v l) (n m c : Nat) (hn : n = W.heap.size) (hx : a.eval x = .slice (some ⟨n, 0, none⟩) m c) (hm : news.length = m) (hlen : l.length + m ≤ 1000000000) (hbase : base ≤ W.heap.size)
    (h : ∀ v' w', rowB w' base e v' (l ++ news) → Below base W w' → wpList P ops Q rest (a.put o.dst v') w') : wpList P ops Q (o :: rest) a (W.alloc (.cells (u8s news).toArray e)) := by
  subst hm hn
  cases hi : P.info? e with
  | none => rw [hi] at hinfo; cases hinfo
  | some i =>
    rw [hi] at hinfo
    simp only [Option.map_some, Option.some.injEq, Prod.mk.injEq] at hinfo
    have hr := rowB_alloc hrow (.cells (u8s news).toArray e)
    refine wpList_append_own _ hgd s x t ho base e i (.int .u8 0) 1 1 ht hi hinfo.1 hinfo.2.1 hinfo.2.2 rfl (by omega) v l.length (u8s l) hs hr ⟨W.heap.size, 0, none⟩ news.length c (u8s news) hx (by simp [u8s]) (cells_new W news e) (u8s_one news) (by unfold maxLen; omega) (by omega) (by simp; omega) ?_
    intro v' w' h1 h2 _
    exact h v' w' (rowB_of h1) (((Below.refl base W).alloc hbase _).trans (rowB_below hr h2 (by simp; omega)))
end Go.Proofs.Ytmlefodnbbkilaa

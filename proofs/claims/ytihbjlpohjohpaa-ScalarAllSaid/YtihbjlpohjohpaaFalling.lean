/- Walks: the bits of a field's number, the highest first, as a function to range over. -/
import Derived.RangeFuncNested
import Derived.RangeFuncBound
import Derived.RangeFuncCalls
import Derived.RangeFuncLeaves
import Derived.RangeFuncFrom
import Derived.Shelf.Abstract
import Derived.Shelf.RegionOpen
import Derived.WalkKit
import Derived.OwnWalkIn
import Derived.TacticsInMore
import Derived.LoopNIn
import Derived.LoopIn
import Derived.Test.YtihbjlpohjohpaaAddNum
namespace Go.Proofs.Ytihbjlpohjohpaa
open Go.RowKit Go.Shelf

attribute [local go_sem] Oper.semAt_some

/-- The bits that have come, k of them. -/
def fall (e k : Nat) : List Bool := (List.range k).map fun j => decide (e / 2 ^ (255 - j) % 2 = 1)
theorem fall_succ (e k : Nat) : fall e (k + 1) = fall e k ++ [decide (e / 2 ^ (255 - k) % 2 = 1)] := by simp [fall, List.range_succ]
theorem fall_length (e k : Nat) : (fall e k).length = k := by simp [fall]

theorem fall_bit (e i : Nat) : decide (0 < bits BinOp.and IntKind.u64 (((nw e (i / 64) : Nat) : Int) / 2 ^ (i % 64)) 1) = decide (e / 2 ^ i % 2 = 1) := by
  have h1 : ((nw e (i / 64) : Nat) : Int) / 2 ^ (i % 64) = ((nw e (i / 64) / 2 ^ (i % 64) : Nat) : Int) := by simp
  have h2 : nw e (i / 64) / 2 ^ (i % 64) < 18446744073709551616 := Nat.lt_of_le_of_lt (Nat.div_le_self _ _) (nw_lt' _ _)
  rw [h1, show (1 : Int) = ((1 : Nat) : Int) from rfl, bits_and_u64_nat _ 1 h2 (by omega), Nat.and_one_is_mod]
  have h3 : nw e (i / 64) / 2 ^ (i % 64) % 2 = e / 2 ^ i % 2 := by
    unfold nw
    have hB : B = 2 ^ (i % 64) * 2 * 2 ^ (63 - i % 64) := by
      rw [← Nat.pow_succ, ← Nat.pow_add, show i % 64 + 1 + (63 - i % 64) = 64 by omega]
      rfl
    rw [show e / B ^ (i / 64) % B / 2 ^ (i % 64) % 2 = e / B ^ (i / 64) / 2 ^ (i % 64) % 2 by
      rw [hB, Nat.mul_assoc, Nat.mod_mul_right_div_self, Nat.mod_mul_right_mod]]
    rw [Nat.div_div_eq_div_mul, show B ^ (i / 64) = 2 ^ (64 * (i / 64)) by rw [Nat.pow_mul]; rfl, ← Nat.pow_add, show 64 * (i / 64) + i % 64 = i by omega]
  rw [h3]
  congr 1
  refine propext ⟨fun h => ?_, fun h => ?_⟩ <;> omega

/-- One block is as it was. -/
def KpAt (b : Nat) (W W' : World) : Prop := W'.heap[b]? = W.heap[b]?

set_option maxRecDepth 100000 in
set_option maxHeartbeats 2000000 in
theorem falling1_in (F : Fence) (n : Nat) (h68 : F.fn 68) (hro : F.round = none) (hn : 1 ≤ n) (l bx e : Nat) (J Jx : List Bool → World → Prop)
    (hY : ∀ pre x W, J pre W → pre.length < 256 → YieldAt F (n - 1) Try.prog l #[.bool x] W fun r W' =>
      (r = .returned (.bool true) ∧ J (pre ++ [x]) W' ∧ KpAt bx W W') ∨ (r = .returned (.bool false) ∧ Jx (pre ++ [x]) W'))
    (W : World) (hb : W.heap[bx]? = some (.cells (wordsOf e) 24)) (h0 : J [] W) :
    CallsIn F n Try.prog 68 #[.func (.yield l) #[] #[], .pointer (some ⟨bx, 0, none⟩)] W fun r W' => (∃ v, r = .returned v) ∧
      ((∃ ys, ys = fall e 256 ∧ J ys W') ∨ (∃ pre, True ∧ Jx pre W')) := by
  refine callsIn_of_wp Try.func68 rfl h68 ?_ hro
  simp only [Try.ntmps68, List.size_toArray, List.length_cons, List.length_nil, Nat.reduceAdd, Nat.reduceSub, Array.replicate_succ, Array.replicate_zero, List.push_toArray, List.append_toArray, List.nil_append, List.cons_append]
  gi_wp2
  gi_loopw [3] (fun p wr => ∃ k : Nat, k ≤ 256 ∧ p = .int .i64 (255 - (k : Int)) ∧ wr.heap[bx]? = some (.cells (wordsOf e) 24) ∧ J (fall e k) wr)
    (fun p _ => (1 + intOf p).toNat)
  case atStart =>
    exact ⟨0, by omega, rfl, hb, h0⟩
  case round =>
    obtain ⟨k, hk, rfl, hbx, hJs⟩ := hrel
    by_cases h256 : k < 256
    · obtain ⟨fn, tmps, assign, body, hy, hR⟩ := hY (fall e k) (decide (e / 2 ^ (255 - k) % 2 = 1)) wr hJs (by rw [fall_length]; omega)
      have hcell : wr.cell? ⟨bx, (255 - k) / 64, none⟩ = some (.int .u64 ((nw e ((255 - k) / 64) : Nat) : Int)) := by
        simp only [World.cell?, hbx]
        exact word_get e ((255 - k) / 64) (by omega)
      have hbit := fall_bit e (255 - k)
      gi_wp2
      refine hR.mono ?_
      rintro r W3 (⟨rfl, hJ3, hk3⟩ | ⟨rfl, hJx3⟩)
      · have hb3 : W3.heap[bx]? = some (.cells (wordsOf e) 24) := hk3.trans hbx
        gi_wp2
        go_roundw
        case rel => exact ⟨k + 1, by omega, by go_num, hb3, by rw [fall_succ]; exact hJ3⟩
        case measure => simp [intOf]; omega
      · gi_wp2
        refine bodyPost_ret (results_none rfl _ _ _) rfl ?_
        exact ⟨⟨_, rfl⟩, .inr ⟨_, trivial, hJx3⟩⟩
    · obtain rfl : k = 256 := by omega
      gi_wp2
      go_end0
      exact ⟨⟨_, rfl⟩, .inl ⟨_, rfl, hJs⟩⟩
theorem falling_in (F : Fence) (n : Nat) (h63 : F.fn 63) (hro : F.round = none) (e : Nat) (w : World) :
    CallsIn F n Try.prog 63 #[numV e] w fun r w' => r = .returned (.func (.func 68) #[] #[.pointer (some ⟨w.heap.size, 0, none⟩)]) ∧ w' = w.alloc (.cells (wordsOf e) 24) := by
  refine callsIn_of_wp Try.func63 rfl h63 ?_ hro
  simp only [Try.ntmps63, List.size_toArray, List.length_cons, List.length_nil, Nat.reduceAdd, Nat.reduceSub, Array.replicate_succ, Array.replicate_zero, List.push_toArray, List.append_toArray, List.nil_append, List.cons_append]
  gi_wp2
  go_ret
  exact ⟨rfl, rfl⟩

theorem falling_stops (F : Fence) (n : Nat) (h68 : F.fn 68) (hro : F.round = none) (hn : 1 ≤ n) (bx e : Nat) (w : World) (hb : w.heap[bx]? = some (.cells (wordsOf e) 24)) :
    SeqStopsK F n Try.prog 68 #[.pointer (some ⟨bx, 0, none⟩)] (fun x : Bool => #[Value.bool x]) (KpAt bx) (fun ys => ys = fall e 256) (fun _ => True) 256 w := fun l J Jx W hW _ _ hY h0 =>
  falling1_in F n h68 hro hn l bx e J Jx hY W ((hW.block bx (Array.getElem?_eq_some_iff.1 hb).1).trans hb) h0
theorem kpAt_t {b : Nat} {A C D : World} (h : KpAt b A C) (k : KpAt b C D) : KpAt b A D := Eq.trans k h
theorem kpAt_b {b B : Nat} (hb : b < B) (W : World) (l : Nat) (o o' : Obj) (hl : B ≤ l) (_ : W.heap[l]? = some o) (_ : o.isCells = false) (_ : o.isWalk = false) : KpAt b W (W.putObj l o') :=
  World.putObj_heap_other (by omega)

/-! ### The caller's world: a base that is known, with new blocks -/
theorem keeps_plus (W : World) (x : Ext) : KeepsOthers W (plus W x) := ⟨by rw [size_plus]; omega, fun k o hk _ => (heap_plus x (Array.getElem?_eq_some_iff.1 hk).1).trans hk⟩
theorem kpAt_plus {b : Nat} (W : World) (x : Ext) (hb : b < W.heap.size) : KpAt b W (plus W x) := heap_plus x hb
/-- A base with new blocks stays one behind the turn of a block beyond it. -/
theorem ownFrom_plus {β : Type} {B : Nat} (base : β → World) (hs : ∀ s, (base s).heap.size ≤ B) : OwnFrom B (fun (s : β) (W : World) => ∃ x : Ext, W = plus (base s) x) := by
  rintro s W W' row ⟨x, rfl⟩ hg hr
  refine plus_of_below ?_
  exact (below_plus (base s) x).trans ⟨hg.os, hg.tape, hg.output, hg.size, fun k hk => hg.block k (by rw [size_plus]; omega) (fun e => by have := (hr k e.symm).1; have := hs s; omega)⟩

end Go.Proofs.Ytihbjlpohjohpaa

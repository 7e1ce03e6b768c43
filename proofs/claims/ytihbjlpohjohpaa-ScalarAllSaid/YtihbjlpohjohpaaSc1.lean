/- Walks: the scalar's order, and the bits of a number of 512 bits, the highest first, as a function to range over. -/
import Derived.Test.YtihbjlpohjohpaaPower
namespace Go.Proofs.Ytihbjlpohjohpaa
open Go.RowKit Go.Shelf

attribute [local go_sem] Oper.semAt_some

/-- The order. -/
def ordN : Nat := 7237005577332262213973186563042994240857116359379907606001950938285454250989
theorem ordN_lt : ordN < B ^ 4 := by decide +kernel
theorem ordN_pos : 0 < ordN := by decide +kernel

set_option maxRecDepth 100000 in
theorem order_any (w : World) : Ret Try.prog 66 #[] w (numV ordN) := by
  refine Ret.of ?_
  go_enter Try.func66, Try.ntmps66
  go_wp2_with fail
  refine bodyPost_ret (v := numV ordN) (by simp [results, Try.results66, go_sem]; exact ⟨by decide +kernel, by decide +kernel, by decide +kernel, by decide +kernel⟩) rfl ⟨rfl, ?_⟩
  repeat (first | exact Below.refl _ _ | refine Below.setCell ?_ (by first | (simp; done) | (simp; omega) | (simp [size_plus]; done) | (simp [size_plus]; omega)) _ | refine Below.alloc ?_ (by first | (simp; done) | (simp; omega) | (simp [size_plus]; done) | (simp [size_plus]; omega)) _ | refine Below.drew ?_ | refine Below.plus ?_ (by first | (simp; done) | (simp; omega) | (simp [size_plus]; done) | (simp [size_plus]; omega)) _)
set_option maxRecDepth 100000 in
theorem orderR_any (w : World) : Ret Try.prog 35 #[] w (numV ordN) := by
  refine Ret.of ?_
  go_enter Try.func35, Try.ntmps35
  go_wp2_with fail
  refine bodyPost_ret (v := numV ordN) (by simp [results, Try.results35, go_sem]; exact ⟨by decide +kernel, by decide +kernel, by decide +kernel, by decide +kernel⟩) rfl ⟨rfl, ?_⟩
  repeat (first | exact Below.refl _ _ | refine Below.setCell ?_ (by first | (simp; done) | (simp; omega) | (simp [size_plus]; done) | (simp [size_plus]; omega)) _ | refine Below.alloc ?_ (by first | (simp; done) | (simp; omega) | (simp [size_plus]; done) | (simp [size_plus]; omega)) _ | refine Below.drew ?_ | refine Below.plus ?_ (by first | (simp; done) | (simp; omega) | (simp [size_plus]; done) | (simp [size_plus]; omega)) _)

/-- Eight words of a number. -/
abbrev words8 (n : Nat) : Array Value := #[.int .u64 (nw n 0), .int .u64 (nw n 1), .int .u64 (nw n 2), .int .u64 (nw n 3), .int .u64 (nw n 4), .int .u64 (nw n 5), .int .u64 (nw n 6), .int .u64 (nw n 7)]
theorem word8_get (a k : Nat) (hk : k < 8) : (words8 a)[k]? = some (.int .u64 ((nw a k : Nat) : Int)) := by
  match k, hk with
  | 0, _ | 1, _ | 2, _ | 3, _ | 4, _ | 5, _ | 6, _ | 7, _ => rfl

/-- The bits that have come, k of them. -/
def falls (e k : Nat) : List Bool := (List.range k).map fun j => decide (e / 2 ^ (511 - j) % 2 = 1)
theorem falls_succ (e k : Nat) : falls e (k + 1) = falls e k ++ [decide (e / 2 ^ (511 - k) % 2 = 1)] := by simp [falls, List.range_succ]
theorem falls_length (e k : Nat) : (falls e k).length = k := by simp [falls]

theorem falls_bit (e i : Nat) : bits BinOp.and IntKind.u64 (((nw e (i / 64) : Nat) : Int) / 2 ^ (i % 64)) 1 = (((decide (e / 2 ^ i % 2 = 1)).toNat : Nat) : Int) := by
  have h1 : ((nw e (i / 64) : Nat) : Int) / 2 ^ (i % 64) = ((nw e (i / 64) / 2 ^ (i % 64) : Nat) : Int) := by simp
  have h2 : nw e (i / 64) / 2 ^ (i % 64) < 18446744073709551616 := Nat.lt_of_le_of_lt (Nat.div_le_self _ _) (nw_lt' _ _)
  rw [h1, show (1 : Int) = ((1 : Nat) : Int) from rfl, bits_and_u64_nat _ 1 h2 (by omega), Nat.and_one_is_mod]
  have h3 : nw e (i / 64) / 2 ^ (i % 64) % 2 = e / 2 ^ i % 2 := by
    unfold nw
    have hB : B = 2 ^ (i % 64) * 2 * 2 ^ (63 - i % 64) := by
      rw [← Nat.pow_succ, ← Nat.pow_add, show i % 64 + 1 + (63 - i % 64) = 64 by omega]
      rfl
    rw [show e / B ^ (i / 64) % B / 2 ^ (i % 64) % 2 = e / B ^ (i / 64) / 2 ^ (i % 64) % 2 by
      rw [hB, Nat.mul_assoc, Nat.mod_mul_right_div_self, Nat.mod_mul_right_mod]]
    rw [Nat.div_div_eq_div_mul, show B ^ (i / 64) = 2 ^ (64 * (i / 64)) by rw [Nat.pow_mul]; rfl, ← Nat.pow_add, show 64 * (i / 64) + i % 64 = i by omega]
  rw [h3]
  by_cases h : e / 2 ^ i % 2 = 1
  · simp [h]
  · have : e / 2 ^ i % 2 = 0 := by omega
    simp [this]

/-- Two blocks are as they were. -/
def KpTwo (b c : Nat) (W W' : World) : Prop := W'.heap[b]? = W.heap[b]? ∧ W'.heap[c]? = W.heap[c]?

set_option maxRecDepth 100000 in
set_option maxHeartbeats 2000000 in
theorem falls1_in (F : Fence) (n : Nat) (h69 : F.fn 69) (hro : F.round = none) (hn : 1 ≤ n) (l bx bp e : Nat) (J Jx : List Bool → World → Prop)
    (hY : ∀ pre (x : Bool) W, J pre W → pre.length < 512 → YieldAt F (n - 1) Try.prog l #[.int .u64 ((x.toNat : Nat) : Int)] W fun r W' =>
      (r = .returned (.bool true) ∧ J (pre ++ [x]) W' ∧ KpTwo bx bp W W') ∨ (r = .returned (.bool false) ∧ Jx (pre ++ [x]) W'))
    (W : World) (hb : W.heap[bx]? = some (.cells #[.pointer (some ⟨bp, 0, none⟩)] 65)) (hbp : W.heap[bp]? = some (.cells (words8 e) 66)) (h0 : J [] W) :
    CallsIn F n Try.prog 69 #[.func (.yield l) #[] #[], .pointer (some ⟨bx, 0, none⟩)] W fun r W' => (∃ v, r = .returned v) ∧
      ((∃ ys, ys = falls e 512 ∧ J ys W') ∨ (∃ pre, True ∧ Jx pre W')) := by
  refine callsIn_of_wp Try.func69 rfl h69 ?_ hro
  simp only [Try.ntmps69, List.size_toArray, List.length_cons, List.length_nil, Nat.reduceAdd, Nat.reduceSub, Array.replicate_succ, Array.replicate_zero, List.push_toArray, List.append_toArray, List.nil_append, List.cons_append]
  gi_wp2
  gi_loopw [3] (fun p wr => ∃ k : Nat, k ≤ 512 ∧ p = .int .i64 (511 - (k : Int)) ∧ wr.heap[bx]? = some (.cells #[.pointer (some ⟨bp, 0, none⟩)] 65) ∧ wr.heap[bp]? = some (.cells (words8 e) 66) ∧ J (falls e k) wr)
    (fun p _ => (1 + intOf p).toNat)
  case atStart =>
    exact ⟨0, by omega, rfl, hb, hbp, h0⟩
  case round =>
    obtain ⟨k, hk, rfl, hbx, hbq, hJs⟩ := hrel
    by_cases h512 : k < 512
    · have hbit := falls_bit e (511 - k)
      obtain ⟨bx', hbv⟩ : ∃ bx' : Bool, decide (e / 2 ^ (511 - k) % 2 = 1) = bx' := ⟨_, rfl⟩
      rw [hbv] at hbit
      have HB := Lib.hid hbv
      clear hbv
      obtain ⟨fn, tmps, assign, body, hy, hR⟩ := hY (falls e k) bx' wr hJs (by rw [falls_length]; omega)
      generalize hbn : bx'.toNat = bn at *
      clear hbn
      have hcellp : wr.cell? ⟨bx, 0, none⟩ = some (.pointer (some ⟨bp, 0, none⟩)) := by
        simp only [World.cell?, hbx]
        rfl
      have hcell : wr.cell? ⟨bp, (511 - k) / 64, none⟩ = some (.int .u64 ((nw e ((511 - k) / 64) : Nat) : Int)) := by
        simp only [World.cell?, hbq]
        exact word8_get e ((511 - k) / 64) (by omega)
      gi_wp2
      refine hR.mono ?_
      rintro r W3 (⟨rfl, hJ3, hk3, hk4⟩ | ⟨rfl, hJx3⟩)
      · have hb3 := hk3.trans hbx
        have hb4 := hk4.trans hbq
        gi_wp2
        go_roundw
        case rel => exact ⟨k + 1, by omega, by go_num, hb3, hb4, by rw [falls_succ, HB.out]; exact hJ3⟩
        case measure => simp [intOf]; omega
      · gi_wp2
        refine bodyPost_ret (results_none rfl _ _ _) rfl ?_
        exact ⟨⟨_, rfl⟩, .inr ⟨_, trivial, hJx3⟩⟩
    · obtain rfl : k = 512 := by omega
      gi_wp2
      go_end0
      exact ⟨⟨_, rfl⟩, .inl ⟨_, rfl, hJs⟩⟩
theorem falls_in (F : Fence) (n : Nat) (h67 : F.fn 67) (hro : F.round = none) (p : Option Addr) (w : World) :
    CallsIn F n Try.prog 67 #[.pointer p] w fun r w' => r = .returned (.func (.func 69) #[] #[.pointer (some ⟨w.heap.size, 0, none⟩)]) ∧ w' = w.alloc (.cells #[.pointer p] 65) := by
  refine callsIn_of_wp Try.func67 rfl h67 ?_ hro
  simp only [Try.ntmps67, List.size_toArray, List.length_cons, List.length_nil, Nat.reduceAdd, Nat.reduceSub, Array.replicate_succ, Array.replicate_zero, List.push_toArray, List.append_toArray, List.nil_append, List.cons_append]
  gi_wp2
  go_ret
  exact ⟨rfl, rfl⟩

theorem falls_stops (F : Fence) (n : Nat) (h69 : F.fn 69) (hro : F.round = none) (hn : 1 ≤ n) (bx bp e : Nat) (w : World) (hb : w.heap[bx]? = some (.cells #[.pointer (some ⟨bp, 0, none⟩)] 65)) (hbp : w.heap[bp]? = some (.cells (words8 e) 66)) :
    SeqStopsK F n Try.prog 69 #[.pointer (some ⟨bx, 0, none⟩)] (fun x : Bool => #[Value.int .u64 ((x.toNat : Nat) : Int)]) (KpTwo bx bp) (fun ys => ys = falls e 512) (fun _ => True) 512 w := fun l J Jx W hW _ _ hY h0 =>
  falls1_in F n h69 hro hn l bx bp e J Jx hY W ((hW.block bx (Array.getElem?_eq_some_iff.1 hb).1).trans hb) ((hW.block bp (Array.getElem?_eq_some_iff.1 hbp).1).trans hbp) h0
theorem kpTwo_t {b c : Nat} {A C D : World} (h : KpTwo b c A C) (k : KpTwo b c C D) : KpTwo b c A D := ⟨k.1.trans h.1, k.2.trans h.2⟩
theorem kpTwo_b {b c B : Nat} (hb : b < B) (hc : c < B) (W : World) (l : Nat) (o o' : Obj) (hl : B ≤ l) (_ : W.heap[l]? = some o) (_ : o.isCells = false) (_ : o.isWalk = false) : KpTwo b c W (W.putObj l o') :=
  ⟨World.putObj_heap_other (by omega), World.putObj_heap_other (by omega)⟩
theorem kpTwo_plus {b c : Nat} (W : World) (x : Ext) (hb : b < W.heap.size) (hc : c < W.heap.size) : KpTwo b c W (plus W x) := ⟨heap_plus x hb, heap_plus x hc⟩
end Go.Proofs.Ytihbjlpohjohpaa

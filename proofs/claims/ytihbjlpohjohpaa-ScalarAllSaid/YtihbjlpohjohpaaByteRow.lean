/- Rows of bytes, strings as lists of bytes, numbers as bytes, the lowest first. -/
import Derived.Test.YtihbjlpohjohpaaPlus
import Derived.Test.YtihbjlpohjohpaaChecked
import Derived.WalkKit
import Derived.Laws.MakeOwn
import Derived.Laws.IdiomStrings
import Derived.Lib.ConvBytes
namespace Go.Proofs.Ytihbjlpohjohpaa
open Go.RowKit

/-- A row's cells. -/
def cells8 (l : List UInt8) : Array Value := (l.map fun b => Value.int .u8 (b.toNat : Int)).toArray
theorem cells8_size (l : List UInt8) : (cells8 l).size = l.length := by simp [cells8]
theorem cells8_get {l : List UInt8} {j : Nat} (h : j < l.length) : (cells8 l)[j]? = some (.int .u8 ((l.getD j 0).toNat : Int)) := by
  simp [cells8, h]
theorem cells8_set (l : List UInt8) (j : Nat) (b : UInt8) : (cells8 l).setIfInBounds j (.int .u8 (b.toNat : Int)) = cells8 (l.set j b) := by
  simp [cells8]
/-- A string of bytes. -/
abbrev strV (l : List UInt8) : Value := .string ⟨l.toArray⟩

/-- The lowest n bytes of x. -/
def le (n x : Nat) : List UInt8 := (List.range n).map fun j => UInt8.ofNat (x / 256 ^ j)
theorem le_length (n x : Nat) : (le n x).length = n := by simp [le]
theorem le_succ (n x : Nat) : le (n + 1) x = le n x ++ [UInt8.ofNat (x / 256 ^ n)] := by simp [le, List.range_succ]
theorem le_cons (n x : Nat) : le (n + 1) x = UInt8.ofNat x :: le n (x / 256) := by
  simp [le, List.range_succ_eq_map, Function.comp_def, Nat.pow_succ', Nat.div_div_eq_div_mul]
theorem le_add (m n x : Nat) : le (m + n) x = le m x ++ le n (x / 256 ^ m) := by
  induction n with
  | zero => simp [le]
  | succ n ih => rw [← Nat.add_assoc, le_succ, ih, le_succ, List.append_assoc, Nat.div_div_eq_div_mul, ← Nat.pow_add]
/-- The number that bytes say. -/
def ofle : List UInt8 → Nat
  | [] => 0
  | b :: l => b.toNat + 256 * ofle l
theorem ofle_lt : ∀ l : List UInt8, ofle l < 256 ^ l.length
  | [] => by simp [ofle]
  | b :: l => by
    have h := ofle_lt l
    have hb := b.toNat_lt
    simp only [ofle, List.length_cons, Nat.pow_succ]
    omega
theorem ofle_le : ∀ n x : Nat, ofle (le n x) = x % 256 ^ n
  | 0, x => by simp [le, ofle, Nat.mod_one]
  | n + 1, x => by
    rw [le_cons, ofle, ofle_le n, Nat.pow_succ', Nat.mod_mul]
    simp
theorem le_ofle : ∀ l : List UInt8, le l.length (ofle l) = l
  | [] => by simp [le]
  | b :: l => by
    have hb := b.toNat_lt
    rw [List.length_cons, le_cons, ofle, show (b.toNat + 256 * ofle l) / 256 = ofle l by omega, le_ofle l]
    congr 1
    apply UInt8.toNat_inj.1
    simp
theorem le_inj {n x y : Nat} (h : le n x = le n y) : x % 256 ^ n = y % 256 ^ n := by rw [← ofle_le, ← ofle_le, h]
theorem le_mod (n x : Nat) : le n (x % 256 ^ n) = le n x := by
  have h := le_ofle (le n x)
  rw [le_length, ofle_le] at h
  exact h
theorem ofle_append : ∀ l m : List UInt8, ofle (l ++ m) = ofle l + 256 ^ l.length * ofle m
  | [], m => by simp [ofle]
  | b :: l, m => by
    rw [List.cons_append, ofle, ofle_append l m, ofle, List.length_cons, Nat.pow_succ', Nat.mul_add, Nat.mul_assoc]
    omega

/-- One more byte in a row that is half filled. -/
theorem le_set (n i x : Nat) (h : i < n) : (le i x ++ List.replicate (n - i) 0).set i (UInt8.ofNat (x / 256 ^ i)) = le (i + 1) x ++ List.replicate (n - (i + 1)) 0 := by
  obtain ⟨k, hk⟩ : ∃ k, n - i = k + 1 := ⟨n - i - 1, by omega⟩
  rw [show n - (i + 1) = k by omega, hk, le_succ, List.replicate_succ, List.set_append_right _ _ (by simp [le]), le_length]
  simp
theorem half_length (n i x : Nat) (h : i ≤ n) : (le i x ++ List.replicate (n - i) 0).length = n := by
  simp [le_length]; omega
theorem half_full (n x : Nat) : le n x ++ List.replicate (n - n) 0 = le n x := by simp

theorem made8 (n : Nat) : madeCells (Value.int .u8 0).cells (n * 1) = cells8 (List.replicate n 0) := by
  apply Array.ext
  · simp [madeCells, cells8]
  · intro i h1 h2
    simp [madeCells, cells8, Value.cells, Nat.mod_one]

theorem conv8 {P : Program} {src dst e : TypeId} (hs : P.underlying src = some (.slice e)) (he : P.underlying e = some (.int .u8)) (hd : P.underlying dst = some .string) (W : World) (b : Nat) (cap n : Nat) (l : List UInt8) (hn : n = l.length) {fr : Nat × Nat} (hb : W.heap[b]? = some (.cells (cells8 l) e fr)) :
    (convert src dst (.slice (some ⟨b, 0, none⟩) n cap)).run P W = .ok (strV l) W := by
  subst hn
  refine run_convert_bytes_back W src dst e ⟨b, 0, none⟩ cap l hs he hd fun j hj => ?_
  by_cases h0 : j = 0
  · subst h0
    simp [World.cell?, Addr.add, hb, cells8, hj]
  · simp [World.cell?, Addr.add, hb, cells8, hj, h0]

end Go.Proofs.Ytihbjlpohjohpaa

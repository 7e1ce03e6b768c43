/- Walks: bytes as so many, one over the other. -/
import Derived.Test.YtalanaongfnndaaDoorCod3
namespace Go.Proofs.YtalanaongfnndaaDoor
open Go.RowKit

theorem plus_same (U V : World) (x : Ext) (k : Nat) (hs : U.heap.size = V.heap.size) (hk : U.heap.size ≤ k) : (plus U x).heap[k]? = (plus V x).heap[k]? := by
  simp only [plus]
  rw [Array.getElem?_append, Array.getElem?_append, if_neg (by omega), if_neg (by omega), hs]
theorem xor_u8 (a b : UInt8) : bits BinOp.xor IntKind.u8 (a.toNat : Int) (b.toNat : Int) = (((a ^^^ b).toNat : Nat) : Int) := by
  have hx : a.toNat ^^^ b.toNat < 2 ^ 8 := Nat.xor_lt_two_pow a.toNat_lt b.toNat_lt
  have h1 : (BitVec.ofInt 8 (a.toNat : Int)).toNat = a.toNat := by
    rw [BitVec.ofInt_natCast, BitVec.toNat_ofNat]; exact Nat.mod_eq_of_lt a.toNat_lt
  have h2 : (BitVec.ofInt 8 (b.toNat : Int)).toNat = b.toNat := by
    rw [BitVec.ofInt_natCast, BitVec.toNat_ofNat]; exact Nat.mod_eq_of_lt b.toNat_lt
  show IntKind.u8.wrap ((BitVec.ofInt 8 (a.toNat : Int) ^^^ BitVec.ofInt 8 (b.toNat : Int)).toNat : Int) = _
  rw [BitVec.toNat_xor, h1, h2, IntKind.wrap_u8, UInt8.toNat_xor]
  omega

/-- Behind k bytes. -/
def foldS (l : List UInt8) (n : Nat) : Nat → List UInt8
  | 0 => List.replicate n 0
  | k + 1 => (foldS l n k).set (k % n) ((foldS l n k).getD (k % n) 0 ^^^ l.getD k 0)
theorem foldS_length (l : List UInt8) (n : Nat) : ∀ k, (foldS l n k).length = n
  | 0 => by simp [foldS]
  | k + 1 => by simp [foldS, foldS_length l n k]
/-- Bytes as so many. -/
def foldN (l : List UInt8) (n : Int) : List UInt8 := if n < 1 ∨ n > 64 then [] else foldS l n.toNat l.length

theorem make_bytes (n : Nat) (hn : n ≤ 1000) (w : World) : (Instr.makeSlice 22 (.int .i64 (n : Int)) (.int .i64 (n : Int))).run Tryd.prog w = .ok (.slice (some ⟨w.heap.size, 0, none⟩) n n) (w.alloc (.cells (u8s (List.replicate n 0)).toArray 5)) := by
  obtain ⟨i, hi, hz, hs, hb⟩ := info_8
  have h := run_make (P := Tryd.prog) w 22 5 i (.int .u8 0) Tryd.underlying22 hi hz .i64 .i64 n n (by omega) (by omega) (by rw [hb]; omega) (by omega)
  have hm : madeCells (Value.int IntKind.u8 0).cells (n * 1) = (u8s (List.replicate n 0)).toArray := by
    apply Array.ext'
    rw [Nat.mul_one]
    show (madeCells #[.int .u8 0] n).toList = _
    rw [toList_madeCells_one]
    simp [u8s]
  rw [hs, Int.toNat_natCast, hm] at h
  exact h
theorem u8s_at (l : List UInt8) (j : Nat) (h : j < l.length) : ((u8s l).toArray)[j]? = some (.int .u8 ((l.getD j 0).toNat : Int)) := by
  simp [u8s, h]
theorem u8s_put (l : List UInt8) (j : Nat) (b : UInt8) : ((u8s l).toArray).setIfInBounds j (.int .u8 (b.toNat : Int)) = (u8s (l.set j b)).toArray := by
  simp [u8s]
theorem heap_new (w : World) (o : Obj) : (w.alloc o).heap[w.heap.size]? = some o := by simp [World.alloc, -World.alloc_eq]
/-- Such a block as a string. -/
theorem block_str (W : World) (b cap n : Nat) (l : List UInt8) (hn : n = l.length) {fr : Nat × Nat} (hb : W.heap[b]? = some (.cells (u8s l).toArray 5 fr)) :
    (convert 22 9 (.slice (some ⟨b, 0, none⟩) n cap)).run Tryd.prog W = .ok (strV l) W := by
  subst hn
  refine run_convert_bytes_back W 22 9 5 ⟨b, 0, none⟩ cap l Tryd.underlying22 Tryd.underlying5 Tryd.underlying9 fun j hj => ?_
  rw [addr_add]
  simp only [World.cell?, hb]
  have := u8s_at l j hj
  simp [hj] at this ⊢
  exact this

set_option maxRecDepth 100000 in
theorem fold_any (l : List UInt8) (n : Int) (w : World) (hl : l.length ≤ 1000000) : Ret Tryd.prog 19 #[strV l, .int .i64 n] w (strV (foldN l n)) := by
  refine Ret.of ?_
  by_cases hn : n < 1 ∨ n > 64
  · rw [show foldN l n = [] by unfold foldN; rw [if_pos hn]]
    by_cases h1 : n < 1
    · have hd : decide (n < 1) = true := by simpa using h1
      go_enter Tryd.func19, Tryd.ntmps19
      go_wp2_with fail
      refine bodyPost_ret (v := strV []) (by simp [results, Tryd.results19, go_sem]) rfl ⟨rfl, ?_⟩
      exact Below.refl _ _
    · have hd : decide (n < 1) = false := by simpa using h1
      have hd2 : decide (64 < n) = true := by simp; omega
      go_enter Tryd.func19, Tryd.ntmps19
      go_wp2_with fail
      refine bodyPost_ret (v := strV []) (by simp [results, Tryd.results19, go_sem]) rfl ⟨rfl, ?_⟩
      exact Below.refl _ _
  · obtain ⟨m, rfl⟩ := Int.eq_ofNat_of_zero_le (show 0 ≤ n by omega)
    have hm1 : 1 ≤ m := by omega
    have hm64 : m ≤ 64 := by omega
    have hf : foldN l (m : Int) = foldS l m l.length := by unfold foldN; rw [if_neg hn]; rfl
    rw [hf]
    have hd : decide ((m : Int) < 1) = false := by simp; omega
    have hd2 : decide ((64 : Int) < (m : Int)) = false := by simp; omega
    have hmk := fun W => make_bytes m (by omega) W
    clear hf hn
    go_enter Tryd.func19, Tryd.ntmps19
    go_wp2_with fail
    obtain ⟨X, d, c, hx, hs, hcell⟩ := conv_bytes (w.alloc (.cells (u8s (List.replicate m 0)).toArray 5)) l (w.heap.size + 1) (by simp)
    rw [hx]
    clear hx hmk
    go_wp2_with fail
    have HC := Lib.hid hcell
    clear hcell
    go_loopw [19] (fun i wr => ∃ k : Nat, k ≤ l.length ∧ i = .int .i64 k ∧ wr = plus (w.alloc (.cells (u8s (foldS l m k)).toArray 5)) ⟨X, d⟩) (fun i _ => l.length - (intOf i).toNat)
    case atStart => exact ⟨0, by omega, rfl, rfl⟩
    case round =>
      obtain ⟨k, hk, rfl, rfl⟩ := hrel
      by_cases hlt : k < l.length
      · have hd : decide ((k : Int) < (l.length : Int)) = true := by simp; omega
        have hcl := HC.out (plus (w.alloc (.cells (u8s (foldS l m k)).toArray 5)) ⟨X, d⟩) (plus_same _ _ _ _ (by simp) (by simp)) k hlt
        obtain ⟨b, hbe⟩ : ∃ b, l.getD k 0 = b := ⟨_, rfl⟩
        rw [hbe] at hcl
        have HBE := Lib.hid hbe
        obtain ⟨r, hr⟩ : ∃ r, k % m = r := ⟨_, rfl⟩
        have hrm : r < m := by rw [← hr]; exact Nat.mod_lt _ (by omega)
        have hmod : (k : Int) % (m : Int) = (r : Int) := by rw [← hr]; simp
        have hlen := foldS_length l m k
        have hget := u8s_at (foldS l m k) r (by omega)
        have hS : foldS l m (k + 1) = (foldS l m k).set r ((foldS l m k).getD r 0 ^^^ b) := by rw [foldS, hr, hbe]
        obtain ⟨L, hLe⟩ : ∃ L, foldS l m k = L := ⟨_, rfl⟩
        rw [hLe] at hget hS hlen ⊢
        rw [hLe] at hcl
        obtain ⟨y, hy⟩ : ∃ y, L.getD r 0 = y := ⟨_, rfl⟩
        rw [hy] at hget hS
        have hxor := xor_u8 y b
        obtain ⟨u, hu⟩ : ∃ u, y ^^^ b = u := ⟨_, rfl⟩
        rw [hu] at hxor hS
        have hput := u8s_put L r u
        have HS := Lib.hid hS
        clear hbe hr hS hLe hy hu
        have hm0 : (0 : Int) < (m : Int) := by omega
        go_wp2_with fail
        go_roundw
        case rel => exact ⟨k + 1, by omega, by go_num, by rw [HS.out]⟩
        case measure => simp [intOf]; omega
      · obtain rfl : k = l.length := by omega
        clear hlt
        have hlen := foldS_length l m l.length
        have hc := block_str (plus (w.alloc (.cells (u8s (foldS l m l.length)).toArray 5)) ⟨X, d⟩) w.heap.size m m (foldS l m l.length) hlen.symm (fr := (0, 0)) (by rw [heap_plus _ (by unfold has; simp)]; exact heap_new w _)
        obtain ⟨L, hLe⟩ : ∃ L, foldS l m l.length = L := ⟨_, rfl⟩
        rw [hLe] at hc ⊢
        have HLE := Lib.hid hLe
        clear hlen hLe
        go_wp2_with fail
        refine bodyPost_ret (v := strV L) (by simp [results, Tryd.results19, go_sem]) rfl ⟨by rw [HLE.out], ?_⟩
        repeat (first | exact Below.refl _ _ | refine Below.setCell ?_ (by first | (simp; done) | (simp; omega) | (simp [size_plus]; done) | (simp [size_plus]; omega)) _ | refine Below.alloc ?_ (by first | (simp; done) | (simp; omega) | (simp [size_plus]; done) | (simp [size_plus]; omega)) _ | refine Below.drew ?_ | refine Below.plus ?_ (by first | (simp; done) | (simp; omega) | (simp [size_plus]; done) | (simp [size_plus]; omega)) _)
end Go.Proofs.YtalanaongfnndaaDoor

/- Walks: bytes by 32 letters, the lowest bits last. -/
import Derived.Test.YtalanaongfnndaaDoorRev
namespace Go.Proofs.YtalanaongfnndaaDoor
open Go.RowKit

/-- The number that bytes say, the lowest first. -/
def ofle : List UInt8 → Nat
  | [] => 0
  | b :: l => b.toNat + 256 * ofle l
theorem ofle_append : ∀ l m : List UInt8, ofle (l ++ m) = ofle l + 256 ^ l.length * ofle m
  | [], m => by simp [ofle]
  | b :: l, m => by
    rw [List.cons_append, ofle, ofle_append l m, ofle, List.length_cons, Nat.pow_succ', Nat.mul_add, Nat.mul_assoc]
    omega
theorem ofle_lt : ∀ l : List UInt8, ofle l < 256 ^ l.length
  | [] => by simp [ofle]
  | b :: l => by
    have h := ofle_lt l
    have hb := b.toNat_lt
    simp only [ofle, List.length_cons, Nat.pow_succ]
    omega
theorem ofle_take (l : List UInt8) (k : Nat) (h : k < l.length) : ofle (l.take (k + 1)) = ofle (l.take k) + (l.getD k 0).toNat * 2 ^ (8 * k) := by
  rw [List.take_succ_eq_append_getElem h, ofle_append, List.length_take, Nat.min_eq_left (by omega), show (256 : Nat) ^ k = 2 ^ (8 * k) by rw [Nat.pow_mul]]
  simp [h, ofle, Nat.mul_comm]
theorem ofle_take_lt (l : List UInt8) (k : Nat) : ofle (l.take k) < 2 ^ (8 * k) := by
  have h := ofle_lt (l.take k)
  have h2 : (256 : Nat) ^ (l.take k).length ≤ 256 ^ k := Nat.pow_le_pow_right (by omega) (by simp; omega)
  rw [show (256 : Nat) ^ k = 2 ^ (8 * k) by rw [Nat.pow_mul]] at h2
  omega

def t32L : List UInt8 := [48, 49, 50, 51, 52, 53, 54, 55, 56, 57, 97, 98, 99, 100, 102, 103, 104, 105, 106, 107, 108, 109, 110, 112, 113, 114, 115, 118, 119, 120, 121, 122]
/-- The letters of a number, m of them, the lowest first. -/
def let32 (n m : Nat) : List UInt8 := (List.range m).map fun j => t32L.getD (n / 2 ^ (5 * j) % 32) 0
theorem let32_length (n m : Nat) : (let32 n m).length = m := by simp [let32]
theorem let32_succ (n m : Nat) : let32 n (m + 1) = let32 n m ++ [t32L.getD (n / 2 ^ (5 * m) % 32) 0] := by simp [let32, List.range_succ]
theorem let32_more (n c k m : Nat) (h : 5 * m ≤ 8 * k) : let32 (n + c * 2 ^ (8 * k)) m = let32 n m := by
  unfold let32
  apply List.map_congr_left
  intro j hj
  have hj' : j < m := List.mem_range.1 hj
  have e : c * 2 ^ (8 * k) = 2 ^ (5 * j) * (32 * (c * 2 ^ (8 * k - 5 * j - 5))) := by
    have : (2 : Nat) ^ (8 * k) = 2 ^ (5 * j) * (2 ^ 5 * 2 ^ (8 * k - 5 * j - 5)) := by rw [← Nat.pow_add, ← Nat.pow_add]; congr 1; omega
    rw [this, show (2 : Nat) ^ 5 = 32 from rfl]
    ac_rfl
  rw [e, Nat.add_mul_div_left _ _ (Nat.pow_pos (by omega)), Nat.add_mul_mod_self_left]
/-- Bytes by 32 letters. -/
def b32N (l : List UInt8) : List UInt8 := (let32 (ofle l) ((8 * l.length + 4) / 5)).reverse

theorem join32 {n c k m h : Nat} (hm : 5 * m + h = 8 * k) (hn : n < 2 ^ (8 * k)) : (n / 2 ^ (5 * m)) ||| (c * 2 ^ h) = (n + c * 2 ^ (8 * k)) / 2 ^ (5 * m) := by
  have e : c * 2 ^ (8 * k) = 2 ^ (5 * m) * (c * 2 ^ h) := by
    rw [← hm, Nat.pow_add]
    ac_rfl
  rw [e, Nat.add_mul_div_left _ _ (Nat.pow_pos (by omega))]
  have hlt : n / 2 ^ (5 * m) < 2 ^ h := by
    apply Nat.div_lt_of_lt_mul
    rw [← Nat.pow_add, hm]
    exact hn
  rw [Nat.mul_comm c, Nat.or_comm, ← Nat.two_pow_add_eq_or_of_lt hlt, Nat.add_comm]

theorem wraps_i64 (n : Int) (h₀ : 0 ≤ n) (h₁ : n < 2 ^ 62) : IntKind.i64.wrap n = n := by rw [IntKind.wrap_i64]; omega
theorem shlSmall {b h : Nat} (hb : b < 256) (hh : h < 5) : wrap64 ((b : Int) * 2 ^ h) = ((b * 2 ^ h : Nat) : Int) := by
  unfold wrap64
  match h, hh with
  | 0, _ | 1, _ | 2, _ | 3, _ | 4, _ => omega
theorem or_i64 {a b : Nat} (ha : a < 2 ^ 62) (hb : b < 2 ^ 62) : bits BinOp.or IntKind.i64 (a : Int) (b : Int) = ((a ||| b : Nat) : Int) := (bits_nat .i64 62 (by decide) wraps_i64 a b ha hb).2
theorem and_i64 {a b : Nat} (ha : a < 2 ^ 62) (hb : b < 2 ^ 62) : bits BinOp.and IntKind.i64 (a : Int) (b : Int) = ((a &&& b : Nat) : Int) := (bits_nat .i64 62 (by decide) wraps_i64 a b ha hb).1
theorem and31 {a : Nat} (ha : a < 2 ^ 62) : bits BinOp.and IntKind.i64 (a : Int) 31 = (a : Int) % 32 := by
  have h := and_i64 (b := 31) ha (by omega)
  rw [show a &&& 31 = a % 32 from Nat.and_two_pow_sub_one_eq_mod a 5] at h
  rw [show ((31 : Int)) = ((31 : Nat) : Int) from rfl, h]
  omega
theorem join_i64 {n c k m h : Nat} (hm : 5 * m + h = 8 * k) (hh : h < 5) (hc : c < 256) (hn : n < 2 ^ (8 * k)) :
    bits BinOp.or IntKind.i64 ((n / 2 ^ (5 * m) : Nat) : Int) (wrap64 ((c : Int) * 2 ^ h)) = (((n + c * 2 ^ (8 * k)) / 2 ^ (5 * m) : Nat) : Int) := by
  have hlt : n / 2 ^ (5 * m) < 2 ^ h := by
    apply Nat.div_lt_of_lt_mul
    rw [← Nat.pow_add, hm]
    exact hn
  have h2 : (2 : Nat) ^ h ≤ 2 ^ 5 := Nat.pow_le_pow_right (by omega) (by omega)
  have h3 : c * 2 ^ h ≤ 256 * 2 ^ 5 := Nat.mul_le_mul (by omega) h2
  rw [shlSmall hc hh, or_i64 (by omega) (by omega), join32 hm hn]
theorem low32 {n k m h : Nat} (hm : 5 * m + h = 8 * k) (hh : h < 13) (hn : n < 2 ^ (8 * k)) : n / 2 ^ (5 * m) < 8192 := by
  have hlt : n / 2 ^ (5 * m) < 2 ^ h := by
    apply Nat.div_lt_of_lt_mul
    rw [← Nat.pow_add, hm]
    exact hn
  have h2 : (2 : Nat) ^ h ≤ 2 ^ 13 := Nat.pow_le_pow_right (by omega) (by omega)
  omega
theorem idx_32 (x : Nat) (hx : x < 32) (w : World) : (Instr.index 9 (.string ⟨#[48, 49, 50, 51, 52, 53, 54, 55, 56, 57, 97, 98, 99, 100, 102, 103, 104, 105, 106, 107, 108, 109, 110, 112, 113, 114, 115, 118, 119, 120, 121, 122]⟩) (.int .i64 (x : Int))).run Tryd.prog w = .ok (.int .u8 ((t32L.getD x 0).toNat : Int)) w :=
  idx_str 9 t32L .i64 x hx w Tryd.underlying9

set_option maxRecDepth 100000 in
theorem b32_any (l : List UInt8) (w : World) (hl : l.length ≤ 1000000) : Ret Tryd.prog 7 #[strV l] w (strV (b32N l)) := by
  refine Ret.of ?_
  go_enter Tryd.func7, Tryd.ntmps7
  go_wp2_with fail
  obtain ⟨X, d, c, hx, hs, hcell⟩ := conv_bytes w l w.heap.size rfl
  rw [hx]
  clear hx
  go_wp2_with fail
  have hsz : (plus w ⟨X, d⟩).heap.size = w.heap.size + 1 := by rw [size_plus]; simp [hs]
  obtain ⟨W1, hW1⟩ : ∃ W1, plus w ⟨X, d⟩ = W1 := ⟨_, rfl⟩
  have HB0 := Lib.hid (show Below w.heap.size w W1 from hW1 ▸ below_plus w _)
  rw [hW1] at hsz hcell ⊢
  have HC := Lib.hid hcell
  have HZ := Lib.hid hsz
  clear hcell hsz hs hW1
  go_loopw [3, 4, 5, 11] (fun v n h i wr => ∃ k m hv : Nat, k ≤ l.length ∧ i = .int .i64 k ∧ 5 * m + hv = 8 * k ∧ hv < 5 ∧ h = .int .i64 hv ∧ ∃ nv : Nat, Hid (nv = ofle (l.take k) / 2 ^ (5 * m)) ∧ n = .int .i64 nv ∧ Hid (rowB wr (w.heap.size + 1) 5 v (let32 (ofle (l.take k)) m)) ∧ Hid (Below (w.heap.size + 1) W1 wr)) (fun _ _ _ i _ => l.length - (intOf i).toNat)
  case atStart => exact ⟨0, 0, 0, by omega, rfl, rfl, by omega, rfl, 0, Lib.hid (by simp [ofle]), rfl, Lib.hid (rowB_nil _ _ _), Lib.hid (Below.refl _ _)⟩
  case round =>
    obtain ⟨k, m, hv, hk, rfl, hm, hv5, rfl, nv, HNV, rfl, HR, HB⟩ := hrel
    by_cases hlt : k < l.length
    · have hd : decide ((k : Int) < (l.length : Int)) = true := by simp; omega
      have hcl := HC.out wr (HB.out.block _ (by omega)) k hlt
      obtain ⟨b, hbe⟩ : ∃ b, l.getD k 0 = b := ⟨_, rfl⟩
      rw [hbe] at hcl
      have HBE := Lib.hid hbe
      clear hbe
      have hb256 := b.toNat_lt
      have hor := join_i64 (c := b.toNat) hm hv5 hb256 (ofle_take_lt l k)
      rw [← HNV.out] at hor
      have hN : ofle (l.take k) + b.toNat * 2 ^ (8 * k) = ofle (l.take (k + 1)) := by rw [ofle_take l k hlt, HBE.out]
      have hmore := let32_more (ofle (l.take k)) b.toNat k m (by omega)
      rw [hN] at hor hmore
      have hbig := ofle_take_lt l (k + 1)
      obtain ⟨N, hNe⟩ : ∃ N, ofle (l.take (k + 1)) = N := ⟨_, rfl⟩
      rw [hNe] at hor hmore hbig
      have HNE := Lib.hid hNe
      obtain ⟨n1, hn1⟩ : ∃ n1, N / 2 ^ (5 * m) = n1 := ⟨_, rfl⟩
      rw [hn1] at hor
      have HN1 := Lib.hid hn1
      have HM := Lib.hid hmore
      have HBG := Lib.hid hbig
      clear hN hNe hn1 hmore hbig
      go_wp2_with fail
      clear hor
      go_loopw [3, 4, 5] (fun v n h wr => ∃ m hv : Nat, 5 * m + hv = 8 * (k + 1) ∧ hv < 13 ∧ h = .int .i64 hv ∧ ∃ nv : Nat, Hid (nv = N / 2 ^ (5 * m)) ∧ n = .int .i64 nv ∧ Hid (rowB wr (w.heap.size + 1) 5 v (let32 N m)) ∧ Hid (Below (w.heap.size + 1) W1 wr)) (fun _ _ h _ => (intOf h).toNat)
      case atStart => exact ⟨m, hv + 8, by omega, by omega, by go_num, n1, Lib.hid HN1.out.symm, rfl, Lib.hid (by rw [HM.out]; exact HR.out), HB⟩
      case round =>
        clear HNV HR HB hm hv5 HN1 HM
        obtain ⟨m, hv, hm, hv13, rfl, nv, HNV, rfl, HR, HB⟩ := hrel
        by_cases h5 : 5 ≤ hv
        · have hd5 : decide ((5 : Int) ≤ (hv : Int)) = true := by simp; omega
          have hnl := low32 hm hv13 HBG.out
          rw [← HNV.out] at hnl
          have hand := and31 (a := nv) (by omega)
          obtain ⟨p, hp⟩ : ∃ p, t32L.getD (nv % 32) 0 = p := ⟨_, rfl⟩
          have hi1 := fun W => idx_32 (nv % 32) (by omega) W
          rw [hp, show ((nv % 32 : Nat) : Int) = (nv : Int) % 32 by omega] at hi1
          have HP := Lib.hid hp
          have HHM := Lib.hid hm
          have HB2 := Lib.hid (show w.heap.size + 1 ≤ wr.heap.size by have := HB.out.size; have := HZ.out; omega)
          have HL := Lib.hid (let32_length N m)
          clear hp hm
          go_wp2_with (at_builtin; refine wpList_appendB rfl _ _ 22 5 rfl Tryd.underlying22 info8 (w.heap.size + 1) u3 _ [p] rfl HR.out _ 1 1 rfl rfl rfl (by have := HL.out; have := HHM.out; simp at this ⊢; omega) HB2.out ?_; intro v' w1 hrow1 hbel1; have HR1 := Lib.hid hrow1; have HB1 := Lib.hid hbel1; clear hrow1 hbel1)
          go_roundw
          case rel =>
            have hm := HHM.out
            exact ⟨m + 1, hv - 5, by omega, by omega, congrArg (Value.int .i64) (by omega), nv / 32, Lib.hid (by rw [HNV.out, Nat.div_div_eq_div_mul, show (32 : Nat) = 2 ^ 5 from rfl, ← Nat.pow_add]; rfl), by go_num, Lib.hid (by rw [let32_succ, ← HNV.out, HP.out]; exact HR1.out), Lib.hid (HB.out.trans HB1.out)⟩
          case measure => simp [intOf]; omega
        · have hd5 : decide ((5 : Int) ≤ (hv : Int)) = false := by simp; omega
          go_wp2_with fail
          go_roundw
          case rel => exact ⟨k + 1, m, hv, by omega, by go_num, hm, by omega, rfl, nv, Lib.hid (by rw [HNE.out]; exact HNV.out), rfl, Lib.hid (by rw [HNE.out]; exact HR.out), HB⟩
          case measure => simp [intOf]; omega
    · obtain rfl : k = l.length := by omega
      rw [List.take_length] at HR HNV
      obtain ⟨N, hNe⟩ : ∃ N, ofle l = N := ⟨_, rfl⟩
      have hbig := ofle_take_lt l l.length
      rw [List.take_length, hNe] at hbig
      rw [hNe] at HR HNV
      have HNE := Lib.hid hNe
      have HHM := Lib.hid hm
      have HBG := Lib.hid hbig
      have HB2 := Lib.hid (show w.heap.size + 1 ≤ wr.heap.size by have := HB.out.size; have := HZ.out; omega)
      have HL := Lib.hid (let32_length N m)
      have hnl := low32 hm (by omega) hbig
      rw [← HNV.out] at hnl
      clear hNe hm hbig
      by_cases h0 : 0 < hv
      · have hd0 : decide ((0 : Int) < (hv : Int)) = true := by simp; omega
        have hand := and31 (a := nv) (by omega)
        obtain ⟨p, hp⟩ : ∃ p, t32L.getD (nv % 32) 0 = p := ⟨_, rfl⟩
        have hi1 := fun W => idx_32 (nv % 32) (by omega) W
        rw [hp, show ((nv % 32 : Nat) : Int) = (nv : Int) % 32 by omega] at hi1
        have HP := Lib.hid hp
        clear hp
        go_wp2_with (at_builtin; refine wpList_appendB rfl _ _ 22 5 rfl Tryd.underlying22 info8 (w.heap.size + 1) u3 _ [p] rfl HR.out _ 1 1 rfl rfl rfl (by have := HL.out; have := HHM.out; simp at this ⊢; omega) HB2.out ?_; intro v' w1 hrow1 hbel1; have HR1 := Lib.hid hrow1; have HB1 := Lib.hid hbel1; clear hrow1 hbel1)
        refine (reverse_rowB (by have := HL.out; have := HHM.out; simp at this ⊢; omega) HR1.out).mono ?_
        rintro _ w2 ⟨rfl, hr2, hb2⟩
        have HR2 := Lib.hid hr2
        have HB3 := Lib.hid hb2
        clear hr2 hb2
        have hconv := rowB_str (P := Tryd.prog) (src := 22) (dst := 9) Tryd.underlying22 Tryd.underlying5 Tryd.underlying9 HR2.out
        go_wp2_with fail
        go_ret
        refine ⟨?_, HB0.out.trans ((HB.out.trans (HB1.out.trans HB3.out)).mono (by omega))⟩
        have hm := HHM.out
        unfold b32N
        rw [HNE.out, show (8 * l.length + 4) / 5 = m + 1 by omega, let32_succ, ← HNV.out, HP.out, List.reverse_append]
        rfl
      · have hd0 : decide ((0 : Int) < (hv : Int)) = false := by simp; omega
        go_wp2_with fail
        refine (reverse_rowB (by have := HL.out; have := HHM.out; simp at this ⊢; omega) HR.out).mono ?_
        rintro _ w2 ⟨rfl, hr2, hb2⟩
        have HR2 := Lib.hid hr2
        have HB3 := Lib.hid hb2
        clear hr2 hb2
        have hconv := rowB_str (P := Tryd.prog) (src := 22) (dst := 9) Tryd.underlying22 Tryd.underlying5 Tryd.underlying9 HR2.out
        go_wp2_with fail
        go_ret
        refine ⟨?_, HB0.out.trans ((HB.out.trans HB3.out).mono (by omega))⟩
        have hm := HHM.out
        unfold b32N
        rw [HNE.out, show (8 * l.length + 4) / 5 = m by omega]
        rfl
end Go.Proofs.YtalanaongfnndaaDoor

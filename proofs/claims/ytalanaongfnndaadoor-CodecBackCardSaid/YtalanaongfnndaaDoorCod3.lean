/- Walks: bytes by 64 letters. -/
import Derived.Test.YtalanaongfnndaaDoorCod2
namespace Go.Proofs.YtalanaongfnndaaDoor
open Go.RowKit

/-- The number that bytes say, the highest first. -/
def ofbe (l : List UInt8) : Nat := l.foldl (fun n b => n * 256 + b.toNat) 0
theorem ofbe_take (l : List UInt8) (k : Nat) (h : k < l.length) : ofbe (l.take (k + 1)) = ofbe (l.take k) * 256 + (l.getD k 0).toNat := by
  rw [List.take_succ_eq_append_getElem h, ofbe, List.foldl_append]
  show List.foldl _ 0 (l.take k) * 256 + l[k].toNat = _
  simp [ofbe, h]

def t64L : List UInt8 := [65, 66, 67, 68, 69, 70, 71, 72, 73, 74, 75, 76, 77, 78, 79, 80, 81, 82, 83, 84, 85, 86, 87, 88, 89, 90, 97, 98, 99, 100, 101, 102, 103, 104, 105, 106, 107, 108, 109, 110, 111, 112, 113, 114, 115, 116, 117, 118, 119, 120, 121, 122, 48, 49, 50, 51, 52, 53, 54, 55, 56, 57, 43, 47]
/-- The first m letters of a number of so many bits. -/
def let64 (n bits m : Nat) : List UInt8 := (List.range m).map fun j => t64L.getD (n / 2 ^ (bits - 6 * (j + 1)) % 64) 0
theorem let64_length (n b m : Nat) : (let64 n b m).length = m := by simp [let64]
theorem let64_succ (n b m : Nat) : let64 n b (m + 1) = let64 n b m ++ [t64L.getD (n / 2 ^ (b - 6 * (m + 1)) % 64) 0] := by simp [let64, List.range_succ]
theorem let64_more (n c k m : Nat) (hc : c < 256) (h : 6 * m ≤ 8 * k) : let64 (n * 256 + c) (8 * (k + 1)) m = let64 n (8 * k) m := by
  unfold let64
  apply List.map_congr_left
  intro j hj
  have hj' : j < m := List.mem_range.1 hj
  rw [show 8 * (k + 1) - 6 * (j + 1) = 8 + (8 * k - 6 * (j + 1)) by omega, Nat.pow_add, ← Nat.div_div_eq_div_mul, show (n * 256 + c) / 2 ^ 8 = n by omega]
def body64 (l : List UInt8) : List UInt8 := let64 (ofbe l) (8 * l.length) (8 * l.length / 6) ++ if 0 < 8 * l.length % 6 then [t64L.getD (ofbe l * 2 ^ (6 - 8 * l.length % 6) % 64) 0] else []
/-- Bytes by 64 letters. -/
def b64N (l : List UInt8) : List UInt8 := body64 l ++ List.replicate ((4 - (body64 l).length % 4) % 4) 61

theorem idx_64 (x : Nat) (hx : x < 64) (w : World) : (Instr.index 9 (.string ⟨#[65, 66, 67, 68, 69, 70, 71, 72, 73, 74, 75, 76, 77, 78, 79, 80, 81, 82, 83, 84, 85, 86, 87, 88, 89, 90, 97, 98, 99, 100, 101, 102, 103, 104, 105, 106, 107, 108, 109, 110, 111, 112, 113, 114, 115, 116, 117, 118, 119, 120, 121, 122, 48, 49, 50, 51, 52, 53, 54, 55, 56, 57, 43, 47]⟩) (.int .i64 (x : Int))).run Tryd.prog w = .ok (.int .u8 ((t64L.getD x 0).toNat : Int)) w :=
  idx_str 9 t64L .i64 x hx w Tryd.underlying9
theorem and63 {a : Nat} (ha : a < 2 ^ 62) : bits BinOp.and IntKind.i64 (a : Int) 63 = (a : Int) % 64 := by
  have h := and_i64 (b := 63) ha (by omega)
  rw [show a &&& 63 = a % 64 from Nat.and_two_pow_sub_one_eq_mod a 6] at h
  rw [show ((63 : Int)) = ((63 : Nat) : Int) from rfl, h]
  omega
theorem and16 {a : Nat} (ha : a < 2 ^ 62) : bits BinOp.and IntKind.i64 (a : Int) 65535 = ((a % 65536 : Nat) : Int) := by
  have h := and_i64 (b := 65535) ha (by omega)
  rw [show a &&& 65535 = a % 65536 from Nat.and_two_pow_sub_one_eq_mod a 16] at h
  rw [show ((65535 : Int)) = ((65535 : Nat) : Int) from rfl, h]
theorem join64 {n c : Nat} (hn : n < 65536) (hc : c < 256) : bits BinOp.or IntKind.i64 ((n : Int) * 256) (c : Int) = ((n * 256 + c : Nat) : Int) := by
  have h := or_i64 (a := n * 256) (b := c) (by omega) (by omega)
  rw [show ((n * 256 : Nat) : Int) = (n : Int) * 256 by omega] at h
  rw [h]
  congr 1
  rw [Nat.mul_comm, show (256 : Nat) = 2 ^ 8 from rfl, ← Nat.two_pow_add_eq_or_of_lt (show c < 2 ^ 8 by omega)]
theorem mod16_div (N g : Nat) (hg : g < 8) : N / 2 ^ g % 64 = N % 65536 / 2 ^ g % 64 := by
  match g, hg with
  | 0, _ | 1, _ | 2, _ | 3, _ | 4, _ | 5, _ | 6, _ | 7, _ => omega
theorem mul_seven {n g : Nat} (hn : n < 65536) (hg : g < 7) : n * 2 ^ g < 65536 * 64 := by
  have h : (2 : Nat) ^ g ≤ 2 ^ 6 := Nat.pow_le_pow_right (by omega) (by omega)
  have : n * 2 ^ g ≤ n * 2 ^ 6 := Nat.mul_le_mul_left _ h
  omega
theorem shl_seven {n g : Nat} (hn : n < 65536) (hg : g < 7) : wrap64 ((n : Int) * 2 ^ g) = ((n * 2 ^ g : Nat) : Int) := by
  unfold wrap64
  match g, hg with
  | 0, _ | 1, _ | 2, _ | 3, _ | 4, _ | 5, _ | 6, _ => omega
theorem mul16 (N g : Nat) (hg : g < 7) : N * 2 ^ g % 64 = N % 65536 * 2 ^ g % 64 := by
  match g, hg with
  | 0, _ | 1, _ | 2, _ | 3, _ | 4, _ | 5, _ | 6, _ => omega
def lenOf : Value → Nat
  | .slice _ n _ => n
  | _ => 0
theorem rowB_form {w : World} {base e : Nat} {v : Value} {l : List UInt8} (h : rowB w base e v l) : ∃ A c, v = .slice A l.length c := by
  rcases h.2 with ⟨rfl, h0⟩ | ⟨g, cap, cur, rfl, _⟩
  · exact ⟨none, 0, by rw [h0]⟩
  · exact ⟨_, _, rfl⟩

set_option maxRecDepth 100000 in
theorem b64_any (l : List UInt8) (w : World) (hl : l.length ≤ 1000000) : Ret Tryd.prog 8 #[strV l] w (strV (b64N l)) := by
  refine Ret.of ?_
  go_enter Tryd.func8, Tryd.ntmps8
  go_wp2_with fail
  obtain ⟨X, d, c, hx, hs, hcell⟩ := conv_bytes w l w.heap.size rfl
  rw [hx]
  clear hx
  go_wp2_with fail
  have hsz : (plus w ⟨X, d⟩).heap.size = w.heap.size + 1 := by rw [size_plus]; simp [hs]
  obtain ⟨W1, hW1⟩ : ∃ W1, plus w ⟨X, d⟩ = W1 := ⟨_, rfl⟩
  have HB0 := Lib.hid (show Below w.heap.size w W1 from hW1 ▸ below_plus w _)
  rw [hW1] at hsz hcell ⊢
  have HC := Lib.hid hcell
  have HZ := Lib.hid hsz
  clear hcell hsz hs hW1
  go_loopw [3, 4, 5, 11] (fun v n h i wr => ∃ k m hv : Nat, k ≤ l.length ∧ i = .int .i64 k ∧ 6 * m + hv = 8 * k ∧ hv < 6 ∧ h = .int .i64 hv ∧ ∃ nv : Nat, Hid (nv = ofbe (l.take k) % 65536) ∧ n = .int .i64 nv ∧ Hid (rowB wr (w.heap.size + 1) 5 v (let64 (ofbe (l.take k)) (8 * k) m)) ∧ Hid (Below (w.heap.size + 1) W1 wr)) (fun _ _ _ i _ => l.length - (intOf i).toNat)
  case atStart => exact ⟨0, 0, 0, by omega, rfl, rfl, by omega, rfl, 0, Lib.hid (by simp [ofbe]), rfl, Lib.hid (rowB_nil _ _ _), Lib.hid (Below.refl _ _)⟩
  case round =>
    obtain ⟨k, m, hv, hk, rfl, hm, hv5, rfl, nv, HNV, rfl, HR, HB⟩ := hrel
    have hnv : nv < 65536 := by rw [HNV.out]; exact Nat.mod_lt _ (by omega)
    by_cases hlt : k < l.length
    · have hd : decide ((k : Int) < (l.length : Int)) = true := by simp; omega
      have hcl := HC.out wr (HB.out.block _ (by omega)) k hlt
      obtain ⟨b, hbe⟩ : ∃ b, l.getD k 0 = b := ⟨_, rfl⟩
      rw [hbe] at hcl
      have HBE := Lib.hid hbe
      clear hbe
      have hb256 := b.toNat_lt
      have hor := join64 hnv hb256
      have hN : ofbe (l.take k) * 256 + b.toNat = ofbe (l.take (k + 1)) := by rw [ofbe_take l k hlt, HBE.out]
      have hmore := let64_more (ofbe (l.take k)) b.toNat k m hb256 (by omega)
      rw [hN] at hmore
      have hand := and16 (a := nv * 256 + b.toNat) (by omega)
      rw [show (nv * 256 + b.toNat) % 65536 = ofbe (l.take (k + 1)) % 65536 by have := HNV.out; omega] at hand
      obtain ⟨N, hNe⟩ : ∃ N, ofbe (l.take (k + 1)) = N := ⟨_, rfl⟩
      rw [hNe] at hmore hand
      have HNE := Lib.hid hNe
      obtain ⟨n1, hn1⟩ : ∃ n1, N % 65536 = n1 := ⟨_, rfl⟩
      rw [hn1] at hand
      obtain ⟨n2, hn2⟩ : ∃ n2, nv * 256 + b.toNat = n2 := ⟨_, rfl⟩
      rw [hn2] at hor hand
      have HN1 := Lib.hid hn1
      have HM := Lib.hid hmore
      clear hN hNe hn1 hmore hn2
      go_wp2_with fail
      clear hand hor
      go_loopw [3, 5] (fun v h wr => ∃ m hv : Nat, 6 * m + hv = 8 * (k + 1) ∧ hv < 14 ∧ h = .int .i64 hv ∧ Hid (rowB wr (w.heap.size + 1) 5 v (let64 N (8 * (k + 1)) m)) ∧ Hid (Below (w.heap.size + 1) W1 wr)) (fun _ h _ => (intOf h).toNat)
      case atStart => exact ⟨m, hv + 8, by omega, by omega, by go_num, Lib.hid (by rw [HM.out]; exact HR.out), HB⟩
      case round =>
        clear HNV HR HB hm hv5 HM hnv
        obtain ⟨m, hv, hm, hv13, rfl, HR, HB⟩ := hrel
        have hn1 : n1 < 65536 := by rw [← HN1.out]; exact Nat.mod_lt _ (by omega)
        by_cases h5 : 6 ≤ hv
        · have hd5 : decide ((6 : Int) ≤ (hv : Int)) = true := by simp; omega
          have hsub : (hv : Int) - 6 = ((hv - 6 : Nat) : Int) := by omega
          obtain ⟨g, hg⟩ : ∃ g, hv - 6 = g := ⟨_, rfl⟩
          rw [hg] at hsub
          have hg8 : g < 8 := by omega
          have hdiv : n1 / 2 ^ g < 65536 := Nat.lt_of_le_of_lt (Nat.div_le_self _ _) hn1
          have hand := and63 (a := n1 / 2 ^ g) (by omega)
          obtain ⟨p, hp⟩ : ∃ p, t64L.getD (n1 / 2 ^ g % 64) 0 = p := ⟨_, rfl⟩
          have hi1 := fun W => idx_64 (n1 / 2 ^ g % 64) (by omega) W
          rw [hp, show ((n1 / 2 ^ g % 64 : Nat) : Int) = (n1 : Int) / 2 ^ g % 64 by simp] at hi1
          rw [show ((n1 / 2 ^ g : Nat) : Int) = (n1 : Int) / 2 ^ g by simp] at hand
          have HP := Lib.hid hp
          have HHM := Lib.hid hm
          have HG := Lib.hid hg
          have HB2 := Lib.hid (show w.heap.size + 1 ≤ wr.heap.size by have := HB.out.size; have := HZ.out; omega)
          have HL := Lib.hid (let64_length N (8 * (k + 1)) m)
          clear hp hm hg
          go_wp2_with (at_builtin; refine wpList_appendB rfl _ _ 22 5 rfl Tryd.underlying22 info8 (w.heap.size + 1) u3 _ [p] rfl HR.out _ 1 1 rfl rfl rfl (by have := HL.out; have := HHM.out; simp at this ⊢; omega) HB2.out ?_; intro v' w1 hrow1 hbel1; have HR1 := Lib.hid hrow1; have HB1 := Lib.hid hbel1; clear hrow1 hbel1)
          go_roundw
          case rel =>
            have hm := HHM.out
            have hg := HG.out
            refine ⟨m + 1, hv - 6, by omega, by omega, congrArg (Value.int .i64) (by omega), Lib.hid ?_, Lib.hid (HB.out.trans HB1.out)⟩
            rw [let64_succ, show 8 * (k + 1) - 6 * (m + 1) = g by omega, show N / 2 ^ g % 64 = n1 / 2 ^ g % 64 from by rw [← HN1.out]; exact mod16_div N g (by omega), HP.out]
            exact HR1.out
          case measure => simp [intOf]; omega
        · have hd5 : decide ((6 : Int) ≤ (hv : Int)) = false := by simp; omega
          go_wp2_with fail
          go_roundw
          case rel => exact ⟨k + 1, m, hv, by omega, by go_num, hm, by omega, rfl, n1, Lib.hid (by rw [HNE.out]; exact HN1.out.symm), rfl, Lib.hid (by rw [HNE.out]; exact HR.out), HB⟩
          case measure => simp [intOf]; omega
    · obtain rfl : k = l.length := by omega
      rw [List.take_length] at HR HNV
      obtain ⟨N, hNe⟩ : ∃ N, ofbe l = N := ⟨_, rfl⟩
      rw [hNe] at HR HNV
      have HNE := Lib.hid hNe
      have HHM := Lib.hid hm
      have HB2 := Lib.hid (show w.heap.size + 1 ≤ wr.heap.size by have := HB.out.size; have := HZ.out; omega)
      have HL := Lib.hid (let64_length N (8 * l.length) m)
      have hm8 : 8 * l.length / 6 = m := by omega
      have hv8 : 8 * l.length % 6 = hv := by omega
      by_cases h0 : 0 < hv
      · have hd0 : decide ((0 : Int) < (hv : Int)) = true := by simp; omega
        have hsub : (6 : Int) - (hv : Int) = ((6 - hv : Nat) : Int) := by omega
        have hbd : body64 l = let64 N (8 * l.length) m ++ [t64L.getD (N * 2 ^ (6 - hv) % 64) 0] := by unfold body64; rw [hNe, hm8, hv8, if_pos h0]
        obtain ⟨g, hg⟩ : ∃ g, 6 - hv = g := ⟨_, rfl⟩
        rw [hg] at hsub hbd
        have hg7 : g < 7 := by omega
        have hsh := shl_seven hnv hg7
        have hnl : nv * 2 ^ g < 65536 * 64 := mul_seven hnv hg7
        have hand := and63 (a := nv * 2 ^ g) (by omega)
        rw [show N * 2 ^ g % 64 = nv * 2 ^ g % 64 by rw [HNV.out]; exact mul16 N g hg7] at hbd
        obtain ⟨p, hp⟩ : ∃ p, t64L.getD (nv * 2 ^ g % 64) 0 = p := ⟨_, rfl⟩
        have hi1 := fun W => idx_64 (nv * 2 ^ g % 64) (by omega) W
        obtain ⟨u, hu⟩ : ∃ u, nv * 2 ^ g = u := ⟨_, rfl⟩
        rw [hp] at hi1 hbd
        rw [hu] at hi1 hand hsh
        rw [show ((u % 64 : Nat) : Int) = (u : Int) % 64 by omega] at hi1
        obtain ⟨body, hbody⟩ : ∃ body, let64 N (8 * l.length) m ++ [p] = body := ⟨_, rfl⟩
        have HBODY := Lib.hid (show body64 l = body by rw [hbd, hbody])
        have HBY := Lib.hid hbody
        clear hNe hm hm8 hv8 hbd hg hp hu hbody
        go_wp2_with (at_builtin; refine wpList_appendB rfl _ _ 22 5 rfl Tryd.underlying22 info8 (w.heap.size + 1) u3 _ [p] rfl HR.out _ 1 1 rfl rfl rfl (by have := HL.out; have := HHM.out; simp at this ⊢; omega) HB2.out ?_; intro v' w1 hrow1 hbel1; have HR1 := Lib.hid hrow1; have HB1 := Lib.hid hbel1; clear hrow1 hbel1)
        rw [HBY.out] at HR1
        clear hand hsh hi1 hsub hnl
        obtain ⟨A0, c0, rfl⟩ := rowB_form HR1.out
        have HLB := Lib.hid (show body.length ≤ 2000000 by have := HL.out; have := HHM.out; rw [← HBY.out]; simp at this ⊢; omega)
        go_loopw [3] (fun v wr => ∃ p : Nat, p ≤ (4 - body.length % 4) % 4 ∧ Hid (rowB wr (w.heap.size + 1) 5 v (body ++ List.replicate p 61)) ∧ Hid (Below (w.heap.size + 1) W1 wr)) (fun v _ => (4 - lenOf v % 4) % 4)
        case atStart => exact ⟨0, by omega, Lib.hid (by simpa using HR1.out), Lib.hid (HB.out.trans HB1.out)⟩
        case round =>
          clear HR HB HR1 HB1
          obtain ⟨p, hp, HR, HB⟩ := hrel
          obtain ⟨A1, c1, rfl⟩ := rowB_form HR.out
          obtain ⟨n, hn⟩ : ∃ n, (body ++ List.replicate p 61).length = n := ⟨_, rfl⟩
          have hn2 : body.length + p = n := by rw [← hn]; simp
          have HN2 := Lib.hid hn2
          have HNN := Lib.hid hn
          rw [hn]
          have HB2 := Lib.hid (show w.heap.size + 1 ≤ wr.heap.size by have := HB.out.size; have := HZ.out; omega)
          have HPP := Lib.hid hp
          have HR' := Lib.hid (show rowB wr (w.heap.size + 1) 5 (.slice A1 n c1) (body ++ List.replicate p 61) from hn ▸ HR.out)
          clear hn2 hn hp HR
          by_cases h4 : 0 < n % 4
          · have hd4 : decide ((0 : Int) < (n : Int) % 4) = true := by simp; omega
            go_wp2_with (at_builtin; refine wpList_appendB rfl _ _ 22 5 rfl Tryd.underlying22 info8 (w.heap.size + 1) (.slice A1 n c1) _ [61] rfl HR'.out _ 1 1 rfl rfl rfl (by have := HN2.out; have := HLB.out; have := HPP.out; simp; omega) HB2.out ?_; intro v' w1 hrow1 hbel1; have HR1 := Lib.hid hrow1; have HB1 := Lib.hid hbel1; clear hrow1 hbel1)
            obtain ⟨A2, c2, rfl⟩ := rowB_form HR1.out
            go_roundw
            case rel =>
              have h1 := HPP.out
              have h2 := HN2.out
              refine ⟨p + 1, by omega, Lib.hid ?_, Lib.hid (HB.out.trans HB1.out)⟩
              have h3 := HR1.out
              rw [List.append_assoc, show List.replicate p (61 : UInt8) ++ [61] = List.replicate (p + 1) 61 from (List.replicate_succ').symm] at h3 ⊢
              exact h3
            case measure =>
              have h2 := HNN.out
              simp [lenOf] at h2 ⊢
              omega
          · have hd4 : decide ((0 : Int) < (n : Int) % 4) = false := by simp; omega
            have hconv := rowB_str (P := Tryd.prog) (src := 22) (dst := 9) Tryd.underlying22 Tryd.underlying5 Tryd.underlying9 HR'.out
            go_wp2_with fail
            go_ret
            refine ⟨?_, HB0.out.trans (HB.out.mono (by omega))⟩
            have h1 := HPP.out
            have h2 := HN2.out
            unfold b64N
            rw [HBODY.out, show (4 - body.length % 4) % 4 = p by omega]
            simp
      · have hd0 : decide ((0 : Int) < (hv : Int)) = false := by simp; omega
        have hbd : body64 l = let64 N (8 * l.length) m := by unfold body64; rw [hNe, hm8, hv8, if_neg h0, List.append_nil]
        obtain ⟨body, hbody⟩ : ∃ body, let64 N (8 * l.length) m = body := ⟨_, rfl⟩
        rw [hbody] at HR HL hbd
        have HBODY := Lib.hid hbd
        clear hNe hm hm8 hv8 hbd hbody
        go_wp2_with fail
        obtain ⟨A0, c0, rfl⟩ := rowB_form HR.out
        have HLB := Lib.hid (show body.length ≤ 2000000 by have := HL.out; have := HHM.out; simp at this ⊢; omega)
        go_loopw [3] (fun v wr => ∃ p : Nat, p ≤ (4 - body.length % 4) % 4 ∧ Hid (rowB wr (w.heap.size + 1) 5 v (body ++ List.replicate p 61)) ∧ Hid (Below (w.heap.size + 1) W1 wr)) (fun v _ => (4 - lenOf v % 4) % 4)
        case atStart => exact ⟨0, by omega, Lib.hid (by simpa using HR.out), Lib.hid (HB.out)⟩
        case round =>
          clear HR HB
          obtain ⟨p, hp, HR, HB⟩ := hrel
          obtain ⟨A1, c1, rfl⟩ := rowB_form HR.out
          obtain ⟨n, hn⟩ : ∃ n, (body ++ List.replicate p 61).length = n := ⟨_, rfl⟩
          have hn2 : body.length + p = n := by rw [← hn]; simp
          have HN2 := Lib.hid hn2
          have HNN := Lib.hid hn
          rw [hn]
          have HB2 := Lib.hid (show w.heap.size + 1 ≤ wr.heap.size by have := HB.out.size; have := HZ.out; omega)
          have HPP := Lib.hid hp
          have HR' := Lib.hid (show rowB wr (w.heap.size + 1) 5 (.slice A1 n c1) (body ++ List.replicate p 61) from hn ▸ HR.out)
          clear hn2 hn hp HR
          by_cases h4 : 0 < n % 4
          · have hd4 : decide ((0 : Int) < (n : Int) % 4) = true := by simp; omega
            go_wp2_with (at_builtin; refine wpList_appendB rfl _ _ 22 5 rfl Tryd.underlying22 info8 (w.heap.size + 1) (.slice A1 n c1) _ [61] rfl HR'.out _ 1 1 rfl rfl rfl (by have := HN2.out; have := HLB.out; have := HPP.out; simp; omega) HB2.out ?_; intro v' w1 hrow1 hbel1; have HR1 := Lib.hid hrow1; have HB1 := Lib.hid hbel1; clear hrow1 hbel1)
            obtain ⟨A2, c2, rfl⟩ := rowB_form HR1.out
            go_roundw
            case rel =>
              have h1 := HPP.out
              have h2 := HN2.out
              refine ⟨p + 1, by omega, Lib.hid ?_, Lib.hid (HB.out.trans HB1.out)⟩
              have h3 := HR1.out
              rw [List.append_assoc, show List.replicate p (61 : UInt8) ++ [61] = List.replicate (p + 1) 61 from (List.replicate_succ').symm] at h3 ⊢
              exact h3
            case measure =>
              have h2 := HNN.out
              simp [lenOf] at h2 ⊢
              omega
          · have hd4 : decide ((0 : Int) < (n : Int) % 4) = false := by simp; omega
            have hconv := rowB_str (P := Tryd.prog) (src := 22) (dst := 9) Tryd.underlying22 Tryd.underlying5 Tryd.underlying9 HR'.out
            go_wp2_with fail
            go_ret
            refine ⟨?_, HB0.out.trans (HB.out.mono (by omega))⟩
            have h1 := HPP.out
            have h2 := HN2.out
            unfold b64N
            rw [HBODY.out, show (4 - body.length % 4) % 4 = p by omega]
            simp
end Go.Proofs.YtalanaongfnndaaDoor

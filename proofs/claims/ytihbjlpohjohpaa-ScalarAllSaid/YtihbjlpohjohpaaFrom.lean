/- Walks: what a string of bytes says, as a field's number. -/
import Derived.Test.YtihbjlpohjohpaaBytes2
namespace Go.Proofs.Ytihbjlpohjohpaa
open Go.RowKit

theorem conv950 (W : World) (l : List UInt8) (n : Nat) (hn : n = W.heap.size) : ∃ (X : Array Obj) (d c : Nat), (convert 9 50 (strV l)).run Try.prog W = .ok (.slice (some ⟨n, 0, none⟩) l.length c) (plus W ⟨X, d⟩) ∧ X.size = 1 ∧
    ∀ (d' : Nat) (W' : World), W'.heap.size = n → ∀ j, j < l.length → (plus W' ⟨X, d'⟩).cell? ⟨n, j, none⟩ = some (.int .u8 ((l.getD j 0).toNat : Int)) := by
  subst hn
  have hb : Below W.heap.size W (Lib.bytesWorld W 5 ⟨l.toArray⟩) := ⟨rfl, rfl, rfl, by rw [Lib.bytesWorld_size]; omega, fun k hk => Lib.bytesWorld_at_old W 5 _ k hk⟩
  obtain ⟨x, hx⟩ := plus_of_below hb
  have hs : x.blocks.size = 1 := by
    have := Lib.bytesWorld_size W 5 ⟨l.toArray⟩
    rw [hx, size_plus] at this
    omega
  have hn : ∀ (d' : Nat) (W' : World), W'.heap.size = W.heap.size → (plus W' ⟨x.blocks, d'⟩).heap[W.heap.size]? = (plus W x).heap[W.heap.size]? := fun d' W' h => by
    simp only [plus]
    rw [Array.getElem?_append, Array.getElem?_append, if_neg (by omega), if_neg (by omega), h]
  refine ⟨x.blocks, x.draws, grownCap W l.length 0 5, ?_, hs, fun d' W' h j hj => ?_⟩
  · show _ = Result.ok _ (plus W x)
    rw [← hx]
    exact Lib.run_convert_string_bytes W 9 50 5 ⟨l.toArray⟩ Try.underlying9 Try.underlying50 Try.underlying5
  · have hc := Lib.bytesWorld_cell W 5 ⟨l.toArray⟩ j hj
    rw [hx] at hc
    unfold World.cell? at hc ⊢
    simp only [hn d' W' h] at hc ⊢
    exact hc

theorem take_succ_ofle (l : List UInt8) (i : Nat) (hi : i < l.length) : ofle (l.take (i + 1)) = ofle (l.take i) + (l.getD i 0).toNat * 256 ^ i := by
  rw [List.take_add_one, ofle_append, List.length_take, Nat.min_eq_left (by omega)]
  simp [hi, ofle, Nat.mul_comm]
theorem take_lt_ofle (l : List UInt8) (i : Nat) (hi : i ≤ l.length) : ofle (l.take i) < 256 ^ i := by
  have := ofle_lt (l.take i)
  rwa [List.length_take, Nat.min_eq_left hi] at this

theorem word_same {m b i k : Nat} (hk : k ≠ i / 8) (hm : m < 256 ^ i) (hb : b < 256) : nw (m + b * 256 ^ i) k = nw m k := by
  have hi : 256 ^ i = B ^ (i / 8) * 256 ^ (i % 8) := by rw [B_eq, ← Nat.pow_add]; congr 1; omega
  unfold nw
  by_cases h : k < i / 8
  · obtain ⟨d, hd⟩ : ∃ d, i / 8 = k + 1 + d := ⟨i / 8 - k - 1, by omega⟩
    rw [hi, hd, Nat.pow_add, Nat.pow_succ, show b * (B ^ k * B * B ^ d * 256 ^ (i % 8)) = B ^ k * (B * (b * B ^ d * 256 ^ (i % 8))) by ac_rfl, Nat.add_mul_div_left _ _ (pow_B_pos k), Nat.add_mul_mod_self_left]
  · have h1 : 256 ^ (i + 1) ≤ B ^ k := by rw [B_eq]; exact Nat.pow_le_pow_right (by omega) (by omega)
    have h2 : m + b * 256 ^ i < 256 ^ (i + 1) := by
      have : b * 256 ^ i ≤ 255 * 256 ^ i := Nat.mul_le_mul_right _ (by omega)
      rw [Nat.pow_succ]
      omega
    rw [Nat.div_eq_of_lt (by omega), Nat.div_eq_of_lt (by omega)]
theorem word_more {m b i : Nat} (hm : m < 256 ^ i) (hb : b < 256) : nw m (i / 8) < 256 ^ (i % 8) ∧ nw (m + b * 256 ^ i) (i / 8) = nw m (i / 8) + b * 256 ^ (i % 8) := by
  have hi : 256 ^ i = B ^ (i / 8) * 256 ^ (i % 8) := by rw [B_eq, ← Nat.pow_add]; congr 1; omega
  have h1 : m / B ^ (i / 8) < 256 ^ (i % 8) := by rw [hi] at hm; exact (Nat.div_lt_iff_lt_mul (pow_B_pos _)).2 (by rwa [Nat.mul_comm])
  have h2 : 256 ^ (i % 8) * 256 ≤ B := by
    rw [← Nat.pow_succ, show B = 256 ^ 8 from rfl]
    exact Nat.pow_le_pow_right (by omega) (by omega)
  have h3 : b * 256 ^ (i % 8) ≤ 255 * 256 ^ (i % 8) := Nat.mul_le_mul_right _ (by omega)
  have e1 : nw m (i / 8) = m / B ^ (i / 8) := Nat.mod_eq_of_lt (by omega)
  refine ⟨by omega, ?_⟩
  rw [e1]
  unfold nw
  rw [hi, show b * (B ^ (i / 8) * 256 ^ (i % 8)) = B ^ (i / 8) * (b * 256 ^ (i % 8)) by ac_rfl, Nat.add_mul_div_left _ _ (pow_B_pos _)]
  exact Nat.mod_eq_of_lt (by omega)

abbrev wordsOf (m : Nat) : Array Value := #[.int .u64 (nw m 0), .int .u64 (nw m 1), .int .u64 (nw m 2), .int .u64 (nw m 3)]
theorem words_set {m b i : Nat} (hm : m < 256 ^ i) (hb : b < 256) (hi : i < 32) : (wordsOf m).setIfInBounds (i / 8) (.int .u64 ((nw m (i / 8) + b * 256 ^ (i % 8) : Nat) : Int)) = wordsOf (m + b * 256 ^ i) := by
  have hs := fun k (hk : k ≠ i / 8) => word_same hk hm hb
  rw [← (word_more hm hb).2]
  have h4 : i / 8 < 4 := by omega
  generalize i / 8 = q at *
  match q, h4 with
  | 0, _ => simp [wordsOf, hs 1 (by omega), hs 2 (by omega), hs 3 (by omega)]
  | 1, _ => simp [wordsOf, hs 0 (by omega), hs 2 (by omega), hs 3 (by omega)]
  | 2, _ => simp [wordsOf, hs 0 (by omega), hs 1 (by omega), hs 3 (by omega)]
  | 3, _ => simp [wordsOf, hs 0 (by omega), hs 1 (by omega), hs 2 (by omega)]

theorem or_byte {n r b : Nat} (hn : n < 256 ^ r) (hr : r < 8) (hb : b < 256) : bits BinOp.or IntKind.u64 (n : Int) (IntKind.u64.wrap ((b : Int) * 2 ^ (r * 8))) = ((n + b * 256 ^ r : Nat) : Int) := by
  have e : (256 : Nat) ^ r = 2 ^ (8 * r) := by rw [Nat.pow_mul]
  have h7 : b * 256 ^ r < 18446744073709551616 := by
    have h1 : b * 256 ^ r ≤ 255 * 256 ^ r := Nat.mul_le_mul_right _ (by omega)
    have h2 : 256 ^ r ≤ 256 ^ 7 := Nat.pow_le_pow_right (by omega) (by omega)
    omega
  have h9 : n < 18446744073709551616 := by
    have h2 : 256 ^ r ≤ 256 ^ 7 := Nat.pow_le_pow_right (by omega) (by omega)
    omega
  rw [show (b : Int) * 2 ^ (r * 8) = ((b * 256 ^ r : Nat) : Int) by rw [e, Nat.mul_comm r 8]; simp, wrap_u64_nat _ h7, bits_or_u64_nat n _ h9 h7]
  congr 1
  have hn' : n < 2 ^ (8 * r) := e ▸ hn
  rw [e, Nat.mul_comm b, Nat.or_comm, ← Nat.two_pow_add_eq_or_of_lt hn', Nat.add_comm]

def fromN (l : List UInt8) : Nat × Bool := if l.length = 32 ∧ ofle l < Ar.pp then (ofle l, true) else (0, false)

set_option maxRecDepth 100000 in
theorem from_any (l : List UInt8) (w : World) : Ret Try.prog 21 #[strV l] w (.tuple #[numV (fromN l).1, .bool (fromN l).2]) := by
  refine Ret.of ?_
  by_cases hl : l.length = 32
  · go_enter Try.func21, Try.ntmps21
    go_wp2_with fail
    obtain ⟨X, d0, c, hx, hs, hcell⟩ := conv950 ((w.alloc (.cells #[.int .u64 0, .int .u64 0, .int .u64 0, .int .u64 0] 24)).alloc (.cells #[.int .u64 0, .int .u64 0, .int .u64 0, .int .u64 0] 24)) l (w.heap.size + 1 + 1) (by simp)
    rw [hl] at hx
    rw [hx]
    go_wp2_with fail
    go_loopw [14] (fun v wr => ∃ i : Nat, i ≤ 32 ∧ v = .int .i64 i ∧ ∃ d : Nat, wr = plus ((w.alloc (.cells #[.int .u64 0, .int .u64 0, .int .u64 0, .int .u64 0] 24)).alloc (.cells (wordsOf (ofle (l.take i))) 24)) ⟨X, d⟩) (fun v _ => 32 - (intOf v).toNat)
    case atStart => exact ⟨0, by omega, rfl, d0, by simp [wordsOf, ofle, nw]⟩
    case round =>
      obtain ⟨i, hi, rfl, d, rfl⟩ := hrel
      by_cases h8 : i < 32
      · have hd : decide ((i : Int) < 32) = true := by simp; omega
        have hcl := hcell d ((w.alloc (.cells #[.int .u64 0, .int .u64 0, .int .u64 0, .int .u64 0] 24)).alloc (.cells (wordsOf (ofle (l.take i))) 24)) (by simp) i (by omega)
        have hw := word_get (ofle (l.take i)) (i / 8) (by omega)
        obtain ⟨b, hbe⟩ : ∃ b, l.getD i 0 = b := ⟨_, rfl⟩
        rw [hbe] at hcl
        have HB := Lib.hid hbe
        clear hbe
        have hb256 := b.toNat_lt
        have HM := Lib.hid (take_lt_ofle l i (by omega))
        have HS := Lib.hid (take_succ_ofle l i (by omega))
        clear hcell
        generalize hm : ofle (l.take i) = m at *
        clear hm
        go_wp2_with fail
        go_region
        go_wp2_with fail
        go_roundw
        case rel =>
          obtain ⟨k1, k2⟩ := word_more HM.out hb256
          refine ⟨i + 1, by omega, by go_num, d + 1, ?_⟩
          rw [HS.out, HB.out, or_byte k1 (by omega) hb256, ← words_set HM.out hb256 h8]
          simp
        case measure => simp [intOf]; omega
      · obtain rfl : i = 32 := by omega
        clear h8
        go_wp2_with fail
        have hall : l.take 32 = l := List.take_of_length_le (by omega)
        rw [hall]
        have h4 : ofle l < B ^ 4 := by
          have := ofle_lt l
          rw [hl] at this
          exact this
        clear hall hcell
        obtain ⟨n, hn⟩ : ∃ n, ofle l = n := ⟨_, rfl⟩
        have HN := Lib.hid hn
        rw [hn] at h4 ⊢
        clear hn
        refine wp_region_plain 4 38 mixed (by kernel_rfl) (by kernel_rfl) rfl (fun _ _ _ _ _ h => h) ?_
        simp only [List.take_succ_cons, List.take_zero, List.drop_succ_cons, List.drop_zero]
        repeat (first | (refine wpHead_skip rfl ?_) | (refine wpHead_run rfl rfl (fun K hK => ?_); go_simp; first | (refine hK _ ?_; clear hK K) | (apply Exists.intro; refine ⟨fun _ => ?_, hK _ ?_⟩; (exact norm_any _ _ h4); clear hK K)))
        refine wpHead_nil ?_
        intro zz x2
        clear zz
        by_cases hp : n < Ar.pp
        · have e : decide (n % Ar.pp % B ^ 4 = n % B ^ 4) = true := decide_eq_true (by rw [Nat.mod_eq_of_lt hp])
          simp only [e, Bool.not_true]
          go_wp2_with fail
          refine bodyPost_ret (v := .tuple #[numV (fromN l).1, .bool (fromN l).2]) (by rw [fromN, if_pos ⟨hl, by rw [HN.out]; exact hp⟩, HN.out]; simp [results, Try.results21, go_sem]) rfl ⟨rfl, ?_⟩
          repeat (first | exact Below.refl _ _ | refine Below.setCell ?_ (by first | (simp; done) | (simp; omega) | (simp [size_plus]; done) | (simp [size_plus]; omega)) _ | refine Below.alloc ?_ (by first | (simp; done) | (simp; omega) | (simp [size_plus]; done) | (simp [size_plus]; omega)) _ | refine Below.drew ?_ | refine Below.plus ?_ (by first | (simp; done) | (simp; omega) | (simp [size_plus]; done) | (simp [size_plus]; omega)) _)
        · have e : decide (n % Ar.pp % B ^ 4 = n % B ^ 4) = false := decide_eq_false (by
            rw [Nat.mod_eq_of_lt h4, Nat.mod_eq_of_lt (mod4 n)]
            have := Nat.mod_lt n Ar.pp_pos
            omega)
          simp only [e, Bool.not_false]
          go_wp2_with fail
          refine bodyPost_ret (v := .tuple #[numV (fromN l).1, .bool (fromN l).2]) (by rw [fromN, if_neg (fun h => hp (by rw [← HN.out]; exact h.2))]; simp [results, Try.results21, go_sem]; exact ⟨rfl, rfl, rfl, rfl⟩) rfl ⟨rfl, ?_⟩
          repeat (first | exact Below.refl _ _ | refine Below.setCell ?_ (by first | (simp; done) | (simp; omega) | (simp [size_plus]; done) | (simp [size_plus]; omega)) _ | refine Below.alloc ?_ (by first | (simp; done) | (simp; omega) | (simp [size_plus]; done) | (simp [size_plus]; omega)) _ | refine Below.drew ?_ | refine Below.plus ?_ (by first | (simp; done) | (simp; omega) | (simp [size_plus]; done) | (simp [size_plus]; omega)) _)
  · go_enter Try.func21, Try.ntmps21
    go_wp2_with fail
    refine bodyPost_ret (v := .tuple #[numV (fromN l).1, .bool (fromN l).2]) (by rw [fromN, if_neg (fun h => hl h.1)]; simp [results, Try.results21, go_sem]; exact ⟨rfl, rfl, rfl, rfl⟩) rfl ⟨rfl, ?_⟩
    repeat (first | exact Below.refl _ _ | refine Below.setCell ?_ (by first | (simp; done) | (simp; omega) | (simp [size_plus]; done) | (simp [size_plus]; omega)) _ | refine Below.alloc ?_ (by first | (simp; done) | (simp; omega) | (simp [size_plus]; done) | (simp [size_plus]; omega)) _ | refine Below.drew ?_ | refine Below.plus ?_ (by first | (simp; done) | (simp; omega) | (simp [size_plus]; done) | (simp [size_plus]; omega)) _)
end Go.Proofs.Ytihbjlpohjohpaa

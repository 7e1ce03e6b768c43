/- Walks: the reference's product, a row of sixteen half words. -/
import Derived.Test.YtihbjlpohjohpaaMulR
import Derived.Test.YtihbjlpohjohpaaSetRow
namespace Go.Proofs.Ytihbjlpohjohpaa
open Go.RowKit

def zero16 : List Nat := [0, 0, 0, 0, 0, 0, 0, 0, 0, 0, 0, 0, 0, 0, 0, 0]

theorem hsum_wrap {x y c z : Nat} (hx : x < H) (hy : y < H) (hc : c < H) (hz : z < H) : IntKind.u64.wrap (IntKind.u64.wrap ((c : Int) + (z : Int)) + IntKind.u64.wrap ((x : Int) * (y : Int))) = ((x * y + c + z : Nat) : Int) := by
  obtain ⟨h, _⟩ := hstep hx hy hc hz
  have h1 : x * y < 18446744073709551616 := by unfold B at h; omega
  have h2 : c + z < 18446744073709551616 := by unfold B at h; omega
  rw [show (c : Int) + (z : Int) = ((c + z : Nat) : Int) by simp, show (x : Int) * (y : Int) = ((x * y : Nat) : Int) by simp, wrap_u64_nat _ h1, wrap_u64_nat _ h2,
    show ((c + z : Nat) : Int) + ((x * y : Nat) : Int) = ((x * y + c + z : Nat) : Int) by omega, wrap_u64_nat _ h]
theorem seth_lt {l : List Nat} {k v : Nat} (h : ∀ j, l.getD j 0 < H) (hv : v < H) : ∀ j, (l.set k v).getD j 0 < H := by
  intro j
  have := h j
  rw [List.getD_eq_getElem?_getD] at this ⊢
  rw [List.getElem?_set]
  split
  · split
    · simpa using hv
    · exact H_pos
  · exact this
theorem list16 {α : Type} (l : List α) (h : l.length = 16) : ∃ a0 a1 a2 a3 a4 a5 a6 a7 a8 a9 aa ab ac ad ae af, l = [a0, a1, a2, a3, a4, a5, a6, a7, a8, a9, aa, ab, ac, ad, ae, af] := by
  match l, h with
  | [a0, a1, a2, a3, a4, a5, a6, a7, a8, a9, aa, ab, ac, ad, ae, af], _ => exact ⟨a0, a1, a2, a3, a4, a5, a6, a7, a8, a9, aa, ab, ac, ad, ae, af, rfl⟩
/-- A number's half words, k of them. -/
def hd : Nat → Nat → List Nat
  | 0, _ => []
  | k + 1, n => n % H :: hd k (n / H)
theorem hd_length : ∀ k n, (hd k n).length = k
  | 0, _ => rfl
  | k + 1, n => by simp [hd, hd_length k]
theorem hd_lt : ∀ k n j, (hd k n).getD j 0 < H
  | 0, _, _ => by simp [hd]; exact H_pos
  | k + 1, n, 0 => by simp [hd]; exact Nat.mod_lt _ H_pos
  | k + 1, n, j + 1 => by simpa [hd] using hd_lt k (n / H) j
theorem vh_hd : ∀ k n, vh (hd k n) = n % H ^ k
  | 0, n => by simp [hd, vh, Nat.mod_one]
  | k + 1, n => by rw [hd, vh, vh_hd k, Nat.pow_succ', Nat.mod_mul]
theorem hd_vh : ∀ L : List Nat, (∀ j, L.getD j 0 < H) → hd L.length (vh L) = L
  | [], _ => rfl
  | x :: r, h => by
    have h0 : x < H := h 0
    rw [List.length_cons, hd, vh, Nat.add_mul_mod_self_left, Nat.mod_eq_of_lt h0, Nat.add_mul_div_left _ _ H_pos, Nat.div_eq_of_lt h0, Nat.zero_add, hd_vh r (fun j => h (j + 1))]
theorem zero16_zero (j : Nat) : zero16.getD j 0 = 0 := by
  unfold zero16
  rcases j with _ | _ | _ | _ | _ | _ | _ | _ | _ | _ | _ | _ | _ | _ | _ | _ | j <;> rfl
theorem zero16_lt (j : Nat) : zero16.getD j 0 < H := by rw [zero16_zero]; exact H_pos

set_option maxRecDepth 100000 in
set_option maxHeartbeats 2000000 in
theorem mulRow_any (a b : Nat) (w : World) (ha : a < B ^ 4) (hb : b < B ^ 4) :
    Calls Try.prog 56 #[numV a, numV b] w fun e w' => (∃ L : List Nat, L.length = 16 ∧ (∀ j, L.getD j 0 < H) ∧ vh L = a * b ∧ e = .returned (.agg (cellsU L))) ∧ Below w.heap.size w w' := by
  go_enter Try.func56, Try.ntmps56
  go_wp2_with fail
  refine wp_region_two 6 51 4 5 5 6 56 _ mixed (by kernel_rfl) (by kernel_rfl) rfl alloc56 (fun _ _ _ _ _ h => h) ?_
  simp only [List.take_succ_cons, List.take_zero, List.drop_succ_cons, List.drop_zero]
  repeat (first | (refine wpHead_skip rfl ?_) | (refine wpHead_run rfl rfl (fun K hK => ?_); go_simp; first | (refine hK _ ?_; clear hK K) | (apply Exists.intro; refine ⟨fun _ => ?_, hK _ ?_⟩; (with_reducible exact halves_any _ _); clear hK K)))
  refine wpHead_nil ?_
  intro zz x1 x2 x3
  clear zz
  constructor
  · -- the first one first
    simp only [cellsU, hs, List.map_cons, List.map_nil]
    go_wp2_with fail
    obtain ⟨s, hsA⟩ : ∃ s, hs a = s := ⟨_, rfl⟩
    obtain ⟨q, hsB⟩ : ∃ q, hs b = q := ⟨_, rfl⟩
    have hs8 : s.length = 8 := by rw [← hsA]; rfl
    have hq8 : q.length = 8 := by rw [← hsB]; rfl
    have HSlt := Lib.hid (show ∀ j, s.getD j 0 < H from fun j => hsA ▸ hs_lt a j)
    have HQlt := Lib.hid (show ∀ j, q.getD j 0 < H from fun j => hsB ▸ hs_lt b j)
    have HSv := Lib.hid (show vh s = a from hsA ▸ vh_hs a ha)
    have HQv := Lib.hid (show vh q = b from hsB ▸ vh_hs b hb)
    go_loopw [8] (fun v wr => ∃ i : Nat, i ≤ 8 ∧ v = .int .i64 i ∧ ∃ L : List Nat, L.length = 16 ∧ Hid ((∀ j, L.getD j 0 < H) ∧ (∀ j, i + 8 ≤ j → L.getD j 0 = 0) ∧ vh L = vt s i * vh q) ∧ ∃ x : Ext,
      wr = plus ((plus ((plus ((plus (((w.alloc (.cells (wordsOf a) 24)).alloc (.cells (wordsOf b) 24)).alloc (.cells (cellsU zero16) 63)) x1).alloc (.cells (cellsU s) 56)) x2).alloc (.cells (cellsU q) 56)) x3).alloc (.cells (cellsU L) 63)) x) (fun v _ => 8 - (intOf v).toNat)
    case atStart =>
      refine ⟨0, by omega, rfl, zero16, rfl, ⟨fun j => ?_, fun j _ => ?_, by simp [vt, vh, zero16]⟩, ⟨_, by rw [← hsA, ← hsB]; exact (plus_none _).symm⟩⟩
      · exact zero16_lt j
      · exact zero16_zero j
    case round =>
      obtain ⟨i, hi, rfl, L, hL, HL, x, rfl⟩ := hrel
      by_cases h8 : i < 8
      · have hd : decide ((i : Int) < 8) = true := by simp; omega
        go_wp2_with fail
        obtain ⟨p, hp⟩ : ∃ p, s.getD i 0 = p := ⟨_, rfl⟩
        have hpH : p < H := hp ▸ HSlt.out i
        have HP := Lib.hid hp
        go_loopw [10, 9] (fun v cv wr => ∃ k c : Nat, k ≤ 8 ∧ v = .int .i64 k ∧ cv = .int .u64 c ∧ c < H ∧ ∃ L' : List Nat, L'.length = 16 ∧ Hid ((∀ j, L'.getD j 0 < H) ∧ (∀ j, i + k ≤ j → L'.getD j 0 = L.getD j 0) ∧ vh L' + c * H ^ (i + k) = vh L + p * vt q k * H ^ i) ∧ ∃ x : Ext,
          wr = plus ((plus ((plus ((plus (((w.alloc (.cells (wordsOf a) 24)).alloc (.cells (wordsOf b) 24)).alloc (.cells (cellsU zero16) 63)) x1).alloc (.cells (cellsU s) 56)) x2).alloc (.cells (cellsU q) 56)) x3).alloc (.cells (cellsU L') 63)) x) (fun v _ _ => 8 - (intOf v).toNat)
        case atStart =>
          exact ⟨0, 0, by omega, rfl, rfl, H_pos, L, hL, ⟨HL.out.1, fun j _ => rfl, by simp [vt, vh]⟩, x, rfl⟩
        case round =>
          obtain ⟨k, c, hk, rfl, rfl, hc, L', hL', HR, y, rfl⟩ := hrel
          by_cases hk8 : k < 8
          · have hd2 : decide ((k : Int) < 8) = true := by simp; omega
            have g1 := cellsU_get (l := s) (j := i) (by omega)
            rw [hp] at g1
            have g2 := cellsU_get (l := q) (j := k) (by omega)
            have g3 := cellsU_get (l := L') (j := i + k) (by omega)
            have hzH := HR.out.1 (i + k)
            have hyH := HQlt.out k
            obtain ⟨z, hz⟩ : ∃ z, L'.getD (i + k) 0 = z := ⟨_, rfl⟩
            obtain ⟨u, hu⟩ : ∃ u, q.getD k 0 = u := ⟨_, rfl⟩
            rw [hz] at g3 hzH
            rw [hu] at g2 hyH
            have HZ := Lib.hid hz
            have HU := Lib.hid hu
            clear hz hu
            obtain ⟨tB, tH⟩ := hstep hpH hyH hc hzH
            obtain ⟨n, hn⟩ : ∃ n, p * u + c + z = n := ⟨_, rfl⟩
            have HN := Lib.hid hn
            have hsum := hsum_wrap hpH hyH hc hzH
            rw [hn] at tB tH hsum
            have hlow := low_half n tB
            have hik1 : (i : Int) + (k : Int) < 16 := by omega
            have hi8 : (i : Int) < 8 := by omega
            have hk8' : (k : Int) < 8 := by omega
            clear hn hp
            go_wp2_with fail
            go_region
            go_wp2_with fail
            go_roundw
            case rel =>
              obtain ⟨r1, r2, r3⟩ := HR.out
              have hst := hmul_step (p := p) hL' (show i + k < 16 by omega) (show k < q.length by omega) r3
              rw [HZ.out, HU.out, HN.out] at hst
              refine ⟨k + 1, n / H, by omega, by go_num, by rw [high_half], tH, L'.set (i + k) (n % H), by simpa using hL', ⟨seth_lt r1 (Nat.mod_lt _ H_pos), fun j hj => ?_, hst⟩, ⟨y.blocks, y.draws + 1⟩, by rw [← cellsU_set, Int.natCast_emod]⟩
              rw [set_far j (by omega)]
              exact r2 j (by omega)
            case measure => simp [intOf]; omega
          · obtain rfl : k = 8 := by omega
            have g4 := cellsU_get (l := L') (j := i + 8) (by omega)
            have hi16 : (i : Int) + 8 < 16 := by omega
            go_wp2_with fail
            go_roundw
            case rel =>
              obtain ⟨r1, r2, r3⟩ := HR.out
              rw [vt_all q 8 (by omega)] at r3
              refine ⟨i + 1, by omega, by go_num, L'.set (i + 8) c, by simpa using hL', ⟨seth_lt r1 hc, fun j hj => ?_, hmul_row (by omega) HP.out hL' h8 (by rw [r2 _ (Nat.le_refl _)]; exact HL.out.2.1 _ (Nat.le_refl _)) HL.out.2.2 r3⟩, y, by rw [cellsU_set]⟩
              rw [set_far j (by omega), r2 j (by omega)]
              exact HL.out.2.1 j (by omega)
            case measure => simp [intOf]; omega
      · obtain rfl : i = 8 := by omega
        obtain ⟨r1, r2, r3⟩ := HL.out
        rw [vt_all s 8 (by omega), HSv.out, HQv.out] at r3
        have HR := Lib.hid (And.intro r1 r3)
        clear r1 r2 r3 HL h8
        obtain ⟨A, hA⟩ : ∃ A, ((w.alloc (.cells (wordsOf a) 24)).alloc (.cells (wordsOf b) 24)).alloc (.cells (cellsU zero16) 63) = A := ⟨_, rfl⟩
        have hAs : A.heap.size = w.heap.size + 1 + 1 + 1 := by rw [← hA]; simp
        have hAz : A.heap[w.heap.size + 1 + 1]? = some (.cells (cellsU zero16) 63) := by
          rw [← hA]
          have := World.alloc_heap_new ((w.alloc (.cells (wordsOf a) 24)).alloc (.cells (wordsOf b) 24)) (.cells (cellsU zero16) 63)
          simpa using this
        have hAw : Below w.heap.size w A := by rw [← hA]; repeat (first | exact Below.refl _ _ | refine Below.setCell ?_ (by first | (simp; done) | (simp; omega) | (simp [size_plus]; done) | (simp [size_plus]; omega)) _ | refine Below.alloc ?_ (by first | (simp; done) | (simp; omega) | (simp [size_plus]; done) | (simp [size_plus]; omega)) _ | refine Below.drew ?_ | refine Below.plus ?_ (by first | (simp; done) | (simp; omega) | (simp [size_plus]; done) | (simp [size_plus]; omega)) _)
        rw [hA]
        obtain ⟨U, hU⟩ : ∃ U, plus ((plus ((plus A x1).alloc (.cells (cellsU s) 56)) x2).alloc (.cells (cellsU q) 56)) x3 = U := ⟨_, rfl⟩
        have hUs : U.heap.size = w.heap.size + 1 + 1 + 1 + x1.blocks.size + 1 + x2.blocks.size + 1 + x3.blocks.size := by rw [← hU]; simp [size_plus, hAs]
        have hUA : Below A.heap.size A U := by rw [← hU]; repeat (first | exact Below.refl _ _ | refine Below.setCell ?_ (by first | (simp; done) | (simp; omega) | (simp [size_plus]; done) | (simp [size_plus]; omega)) _ | refine Below.alloc ?_ (by first | (simp; done) | (simp; omega) | (simp [size_plus]; done) | (simp [size_plus]; omega)) _ | refine Below.drew ?_ | refine Below.plus ?_ (by first | (simp; done) | (simp; omega) | (simp [size_plus]; done) | (simp [size_plus]; omega)) _)
        rw [hU]
        obtain ⟨W, hW⟩ : ∃ W, plus (U.alloc (.cells (cellsU L) 63)) x = W := ⟨_, rfl⟩
        have hWU : Below U.heap.size U W := by rw [← hW]; repeat (first | exact Below.refl _ _ | refine Below.setCell ?_ (by first | (simp; done) | (simp; omega) | (simp [size_plus]; done) | (simp [size_plus]; omega)) _ | refine Below.alloc ?_ (by first | (simp; done) | (simp; omega) | (simp [size_plus]; done) | (simp [size_plus]; omega)) _ | refine Below.drew ?_ | refine Below.plus ?_ (by first | (simp; done) | (simp; omega) | (simp [size_plus]; done) | (simp [size_plus]; omega)) _)
        have hWn : W.heap[U.heap.size]? = some (.cells (cellsU L) 63) := by
          rw [← hW, heap_plus x (by unfold has; simp)]
          exact World.alloc_heap_new U _
        rw [hW]
        have hWz : W.heap[w.heap.size + 1 + 1]? = some (.cells (cellsU zero16) 63) := by
          rw [hWU.block _ (by omega), hUA.block _ (by omega), hAz]
        have hWw : Below w.heap.size w W := hAw.trans ((hUA.trans (hWU.mono hUA.size)).mono hAw.size)
        rw [hUs] at hWn
        obtain ⟨b7, hb7⟩ : ∃ b7, w.heap.size + 1 + 1 + 1 + x1.blocks.size + 1 + x2.blocks.size + 1 + x3.blocks.size = b7 := ⟨_, rfl⟩
        rw [hb7] at hWn ⊢
        have hne : ¬ w.heap.size + 1 + 1 = b7 := by omega
        clear hA hAs hAz hAw hU hUs hUA hW hWU hb7
        have hi63 : (Try.prog.info? 63).map (·.size) = some (cellsU L).size := by rw [cellsU_size, hL]; kernel_rfl
        have hs63 : (cellsU zero16).size = (cellsU L).size := by rw [cellsU_size, cellsU_size, hL]; rfl
        have ho63 : (cellsU L).all (·.oneCell') = true := by simp [cellsU, Value.oneCell']
        have HWW := Lib.hid hWw
        have HLL := Lib.hid hL
        have HI := Lib.hid hi63
        have HWR := Lib.hid (setRow_heap (cs := cellsU L) hWz)
        go_wp2_with (first
          | (refine wpList_load_row rfl 63 _ rfl b7 rfl 63 (cellsU L) (0, 0) _ hWn Try.underlying63 rfl hi63 ?_)
          | (refine wpList_store_row rfl 63 _ _ rfl (w.heap.size + 1 + 1) (cellsU L) rfl rfl 63 (cellsU zero16) hWz hi63 hs63 ho63 ?_))
        exact bodyPost_ret (v := .agg (cellsU L)) (results_cell_row Try.results56 _ _ (w.heap.size + 1 + 1) 63 (cellsU L) (0, 0) _ rfl HWR.out Try.underlying63 rfl HI.out) rfl ⟨⟨L, HLL.out, HR.out.1, HR.out.2, rfl⟩, below_setRow HWW.out (by omega) _⟩
  · -- the second one first
    simp only [cellsU, hs, List.map_cons, List.map_nil]
    go_wp2_with fail
    obtain ⟨s, hsA⟩ : ∃ s, hs a = s := ⟨_, rfl⟩
    obtain ⟨q, hsB⟩ : ∃ q, hs b = q := ⟨_, rfl⟩
    have hs8 : s.length = 8 := by rw [← hsA]; rfl
    have hq8 : q.length = 8 := by rw [← hsB]; rfl
    have HSlt := Lib.hid (show ∀ j, s.getD j 0 < H from fun j => hsA ▸ hs_lt a j)
    have HQlt := Lib.hid (show ∀ j, q.getD j 0 < H from fun j => hsB ▸ hs_lt b j)
    have HSv := Lib.hid (show vh s = a from hsA ▸ vh_hs a ha)
    have HQv := Lib.hid (show vh q = b from hsB ▸ vh_hs b hb)
    go_loopw [8] (fun v wr => ∃ i : Nat, i ≤ 8 ∧ v = .int .i64 i ∧ ∃ L : List Nat, L.length = 16 ∧ Hid ((∀ j, L.getD j 0 < H) ∧ (∀ j, i + 8 ≤ j → L.getD j 0 = 0) ∧ vh L = vt s i * vh q) ∧ ∃ x : Ext,
      wr = plus ((plus ((plus ((plus (((w.alloc (.cells (wordsOf a) 24)).alloc (.cells (wordsOf b) 24)).alloc (.cells (cellsU zero16) 63)) x1).alloc (.cells (cellsU q) 56)) x2).alloc (.cells (cellsU s) 56)) x3).alloc (.cells (cellsU L) 63)) x) (fun v _ => 8 - (intOf v).toNat)
    case atStart =>
      refine ⟨0, by omega, rfl, zero16, rfl, ⟨fun j => ?_, fun j _ => ?_, by simp [vt, vh, zero16]⟩, ⟨_, by rw [← hsA, ← hsB]; exact (plus_none _).symm⟩⟩
      · exact zero16_lt j
      · exact zero16_zero j
    case round =>
      obtain ⟨i, hi, rfl, L, hL, HL, x, rfl⟩ := hrel
      by_cases h8 : i < 8
      · have hd : decide ((i : Int) < 8) = true := by simp; omega
        go_wp2_with fail
        obtain ⟨p, hp⟩ : ∃ p, s.getD i 0 = p := ⟨_, rfl⟩
        have hpH : p < H := hp ▸ HSlt.out i
        have HP := Lib.hid hp
        go_loopw [10, 9] (fun v cv wr => ∃ k c : Nat, k ≤ 8 ∧ v = .int .i64 k ∧ cv = .int .u64 c ∧ c < H ∧ ∃ L' : List Nat, L'.length = 16 ∧ Hid ((∀ j, L'.getD j 0 < H) ∧ (∀ j, i + k ≤ j → L'.getD j 0 = L.getD j 0) ∧ vh L' + c * H ^ (i + k) = vh L + p * vt q k * H ^ i) ∧ ∃ x : Ext,
          wr = plus ((plus ((plus ((plus (((w.alloc (.cells (wordsOf a) 24)).alloc (.cells (wordsOf b) 24)).alloc (.cells (cellsU zero16) 63)) x1).alloc (.cells (cellsU q) 56)) x2).alloc (.cells (cellsU s) 56)) x3).alloc (.cells (cellsU L') 63)) x) (fun v _ _ => 8 - (intOf v).toNat)
        case atStart =>
          exact ⟨0, 0, by omega, rfl, rfl, H_pos, L, hL, ⟨HL.out.1, fun j _ => rfl, by simp [vt, vh]⟩, x, rfl⟩
        case round =>
          obtain ⟨k, c, hk, rfl, rfl, hc, L', hL', HR, y, rfl⟩ := hrel
          by_cases hk8 : k < 8
          · have hd2 : decide ((k : Int) < 8) = true := by simp; omega
            have g1 := cellsU_get (l := s) (j := i) (by omega)
            rw [hp] at g1
            have g2 := cellsU_get (l := q) (j := k) (by omega)
            have g3 := cellsU_get (l := L') (j := i + k) (by omega)
            have hzH := HR.out.1 (i + k)
            have hyH := HQlt.out k
            obtain ⟨z, hz⟩ : ∃ z, L'.getD (i + k) 0 = z := ⟨_, rfl⟩
            obtain ⟨u, hu⟩ : ∃ u, q.getD k 0 = u := ⟨_, rfl⟩
            rw [hz] at g3 hzH
            rw [hu] at g2 hyH
            have HZ := Lib.hid hz
            have HU := Lib.hid hu
            clear hz hu
            obtain ⟨tB, tH⟩ := hstep hpH hyH hc hzH
            obtain ⟨n, hn⟩ : ∃ n, p * u + c + z = n := ⟨_, rfl⟩
            have HN := Lib.hid hn
            have hsum := hsum_wrap hpH hyH hc hzH
            rw [hn] at tB tH hsum
            have hlow := low_half n tB
            have hik1 : (i : Int) + (k : Int) < 16 := by omega
            have hi8 : (i : Int) < 8 := by omega
            have hk8' : (k : Int) < 8 := by omega
            clear hn hp
            go_wp2_with fail
            go_region
            go_wp2_with fail
            go_roundw
            case rel =>
              obtain ⟨r1, r2, r3⟩ := HR.out
              have hst := hmul_step (p := p) hL' (show i + k < 16 by omega) (show k < q.length by omega) r3
              rw [HZ.out, HU.out, HN.out] at hst
              refine ⟨k + 1, n / H, by omega, by go_num, by rw [high_half], tH, L'.set (i + k) (n % H), by simpa using hL', ⟨seth_lt r1 (Nat.mod_lt _ H_pos), fun j hj => ?_, hst⟩, ⟨y.blocks, y.draws + 1⟩, by rw [← cellsU_set, Int.natCast_emod]⟩
              rw [set_far j (by omega)]
              exact r2 j (by omega)
            case measure => simp [intOf]; omega
          · obtain rfl : k = 8 := by omega
            have g4 := cellsU_get (l := L') (j := i + 8) (by omega)
            have hi16 : (i : Int) + 8 < 16 := by omega
            go_wp2_with fail
            go_roundw
            case rel =>
              obtain ⟨r1, r2, r3⟩ := HR.out
              rw [vt_all q 8 (by omega)] at r3
              refine ⟨i + 1, by omega, by go_num, L'.set (i + 8) c, by simpa using hL', ⟨seth_lt r1 hc, fun j hj => ?_, hmul_row (by omega) HP.out hL' h8 (by rw [r2 _ (Nat.le_refl _)]; exact HL.out.2.1 _ (Nat.le_refl _)) HL.out.2.2 r3⟩, y, by rw [cellsU_set]⟩
              rw [set_far j (by omega), r2 j (by omega)]
              exact HL.out.2.1 j (by omega)
            case measure => simp [intOf]; omega
      · obtain rfl : i = 8 := by omega
        obtain ⟨r1, r2, r3⟩ := HL.out
        rw [vt_all s 8 (by omega), HSv.out, HQv.out] at r3
        have HR := Lib.hid (And.intro r1 r3)
        clear r1 r2 r3 HL h8
        obtain ⟨A, hA⟩ : ∃ A, ((w.alloc (.cells (wordsOf a) 24)).alloc (.cells (wordsOf b) 24)).alloc (.cells (cellsU zero16) 63) = A := ⟨_, rfl⟩
        have hAs : A.heap.size = w.heap.size + 1 + 1 + 1 := by rw [← hA]; simp
        have hAz : A.heap[w.heap.size + 1 + 1]? = some (.cells (cellsU zero16) 63) := by
          rw [← hA]
          have := World.alloc_heap_new ((w.alloc (.cells (wordsOf a) 24)).alloc (.cells (wordsOf b) 24)) (.cells (cellsU zero16) 63)
          simpa using this
        have hAw : Below w.heap.size w A := by rw [← hA]; repeat (first | exact Below.refl _ _ | refine Below.setCell ?_ (by first | (simp; done) | (simp; omega) | (simp [size_plus]; done) | (simp [size_plus]; omega)) _ | refine Below.alloc ?_ (by first | (simp; done) | (simp; omega) | (simp [size_plus]; done) | (simp [size_plus]; omega)) _ | refine Below.drew ?_ | refine Below.plus ?_ (by first | (simp; done) | (simp; omega) | (simp [size_plus]; done) | (simp [size_plus]; omega)) _)
        rw [hA]
        obtain ⟨U, hU⟩ : ∃ U, plus ((plus ((plus A x1).alloc (.cells (cellsU q) 56)) x2).alloc (.cells (cellsU s) 56)) x3 = U := ⟨_, rfl⟩
        have hUs : U.heap.size = w.heap.size + 1 + 1 + 1 + x1.blocks.size + 1 + x2.blocks.size + 1 + x3.blocks.size := by rw [← hU]; simp [size_plus, hAs]
        have hUA : Below A.heap.size A U := by rw [← hU]; repeat (first | exact Below.refl _ _ | refine Below.setCell ?_ (by first | (simp; done) | (simp; omega) | (simp [size_plus]; done) | (simp [size_plus]; omega)) _ | refine Below.alloc ?_ (by first | (simp; done) | (simp; omega) | (simp [size_plus]; done) | (simp [size_plus]; omega)) _ | refine Below.drew ?_ | refine Below.plus ?_ (by first | (simp; done) | (simp; omega) | (simp [size_plus]; done) | (simp [size_plus]; omega)) _)
        rw [hU]
        obtain ⟨W, hW⟩ : ∃ W, plus (U.alloc (.cells (cellsU L) 63)) x = W := ⟨_, rfl⟩
        have hWU : Below U.heap.size U W := by rw [← hW]; repeat (first | exact Below.refl _ _ | refine Below.setCell ?_ (by first | (simp; done) | (simp; omega) | (simp [size_plus]; done) | (simp [size_plus]; omega)) _ | refine Below.alloc ?_ (by first | (simp; done) | (simp; omega) | (simp [size_plus]; done) | (simp [size_plus]; omega)) _ | refine Below.drew ?_ | refine Below.plus ?_ (by first | (simp; done) | (simp; omega) | (simp [size_plus]; done) | (simp [size_plus]; omega)) _)
        have hWn : W.heap[U.heap.size]? = some (.cells (cellsU L) 63) := by
          rw [← hW, heap_plus x (by unfold has; simp)]
          exact World.alloc_heap_new U _
        rw [hW]
        have hWz : W.heap[w.heap.size + 1 + 1]? = some (.cells (cellsU zero16) 63) := by
          rw [hWU.block _ (by omega), hUA.block _ (by omega), hAz]
        have hWw : Below w.heap.size w W := hAw.trans ((hUA.trans (hWU.mono hUA.size)).mono hAw.size)
        rw [hUs] at hWn
        obtain ⟨b7, hb7⟩ : ∃ b7, w.heap.size + 1 + 1 + 1 + x1.blocks.size + 1 + x2.blocks.size + 1 + x3.blocks.size = b7 := ⟨_, rfl⟩
        rw [hb7] at hWn ⊢
        have hne : ¬ w.heap.size + 1 + 1 = b7 := by omega
        clear hA hAs hAz hAw hU hUs hUA hW hWU hb7
        have hi63 : (Try.prog.info? 63).map (·.size) = some (cellsU L).size := by rw [cellsU_size, hL]; kernel_rfl
        have hs63 : (cellsU zero16).size = (cellsU L).size := by rw [cellsU_size, cellsU_size, hL]; rfl
        have ho63 : (cellsU L).all (·.oneCell') = true := by simp [cellsU, Value.oneCell']
        have HWW := Lib.hid hWw
        have HLL := Lib.hid hL
        have HI := Lib.hid hi63
        have HWR := Lib.hid (setRow_heap (cs := cellsU L) hWz)
        go_wp2_with (first
          | (refine wpList_load_row rfl 63 _ rfl b7 rfl 63 (cellsU L) (0, 0) _ hWn Try.underlying63 rfl hi63 ?_)
          | (refine wpList_store_row rfl 63 _ _ rfl (w.heap.size + 1 + 1) (cellsU L) rfl rfl 63 (cellsU zero16) hWz hi63 hs63 ho63 ?_))
        exact bodyPost_ret (v := .agg (cellsU L)) (results_cell_row Try.results56 _ _ (w.heap.size + 1 + 1) 63 (cellsU L) (0, 0) _ rfl HWR.out Try.underlying63 rfl HI.out) rfl ⟨⟨L, HLL.out, HR.out.1, HR.out.2, rfl⟩, below_setRow HWW.out (by omega) _⟩
end Go.Proofs.Ytihbjlpohjohpaa

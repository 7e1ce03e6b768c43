/- Walks: the reference's product modulo the prime: what stands above counts 38 times. -/
import Derived.Test.YtihbjlpohjohpaaMulR2
import Derived.Deep.LoopGhost
import Derived.Laws.Rows
namespace Go.Proofs.Ytihbjlpohjohpaa
open Go.RowKit

def zero8 : List Nat := [0, 0, 0, 0, 0, 0, 0, 0]
theorem zero8_lt (j : Nat) : zero8.getD j 0 < H := by
  unfold zero8
  rcases j with _ | _ | _ | _ | _ | _ | _ | _ | j <;> exact H_pos
theorem vh_append : ∀ (l m : List Nat), vh (l ++ m) = vh l + vh m * H ^ l.length
  | [], m => by simp [vh]
  | x :: l, m => by
    rw [List.cons_append, vh, vh_append l m, vh, List.length_cons, Nat.pow_succ, Nat.mul_add]
    have : H * (vh m * H ^ l.length) = vh m * (H ^ l.length * H) := by ac_rfl
    omega
/-- The number of the upper half words, k of them. -/
def vu (l : List Nat) (k : Nat) : Nat := vh ((l.drop 8).take k)
theorem vu_succ (l : List Nat) (k : Nat) (hk : k + 8 < l.length) : vu l (k + 1) = vu l k + l.getD (k + 8) 0 * H ^ k := by
  have h := vt_succ (l.drop 8) k (by simp; omega)
  have e : (l.drop 8).getD k 0 = l.getD (k + 8) 0 := by simp [Nat.add_comm]
  rw [e] at h
  exact h
theorem vh_halves (L : List Nat) (hL : L.length = 16) : vh L = vt L 8 + vu L 8 * H ^ 8 := by
  conv => lhs; rw [← List.take_append_drop 8 L]
  rw [vh_append]
  unfold vt vu
  rw [List.take_of_length_le (l := L.drop 8) (by simp; omega)]
  simp [hL]
theorem H8 : H ^ 8 = B ^ 4 := by decide
theorem H8_mod (V c : Nat) : (V + c * H ^ 8) % Ar.pp = (V + 38 * c) % Ar.pp := by
  have e : H ^ 8 = 2 * Ar.pp + 38 := by decide +kernel
  rw [e, show V + c * (2 * Ar.pp + 38) = V + 38 * c + (2 * c) * Ar.pp by rw [Nat.mul_add]; grind, Nat.add_mul_mod_self_right]
/-- One half word of the first pass. -/
theorem fold_wrap {c z u : Nat} (hc : c < 40) (hz : z < H) (hu : u < H) : c + z + 38 * u < B ∧ (c + z + 38 * u) / H < 40 ∧
    IntKind.u64.wrap (IntKind.u64.wrap ((c : Int) + (z : Int)) + IntKind.u64.wrap (38 * (u : Int))) = ((c + z + 38 * u : Nat) : Int) := by
  have e1 : (c : Int) + (z : Int) = ((c + z : Nat) : Int) := by simp
  have e2 : 38 * (u : Int) = ((38 * u : Nat) : Int) := by simp
  unfold H at *
  refine ⟨by unfold B; omega, by omega, ?_⟩
  rw [e1, e2, wrap_u64_nat _ (by omega), wrap_u64_nat _ (by omega), show ((c + z : Nat) : Int) + ((38 * u : Nat) : Int) = ((c + z + 38 * u : Nat) : Int) by omega, wrap_u64_nat _ (by omega)]
theorem fold_step {i c n : Nat} {O L : List Nat} (hO : O.length = 8) (hL : L.length = 16) (hi : i < 8) (hn : c + L.getD i 0 + 38 * L.getD (i + 8) 0 = n) (h0 : O.getD i 0 = 0) (h : vh O + c * H ^ i = vt L i + 38 * vu L i) :
    vh (O.set i (n % H)) + n / H * H ^ (i + 1) = vt L (i + 1) + 38 * vu L (i + 1) := by
  have h1 := vh_set O i (n % H) (by omega)
  have h2 := Nat.mod_add_div n H
  rw [h0] at h1
  rw [vt_succ L i (by omega), vu_succ L i (by omega)]
  generalize n % H = a at *
  generalize n / H = b at *
  have e1 : b * H ^ (i + 1) = H * b * H ^ i := by rw [Nat.pow_succ]; grind
  have e2 : (a + H * b) * H ^ i = n * H ^ i := by rw [h2]
  rw [Nat.add_mul] at e2
  rw [← hn] at e2
  have e3 : (c + L.getD i 0 + 38 * L.getD (i + 8) 0) * H ^ i = c * H ^ i + L.getD i 0 * H ^ i + 38 * (L.getD (i + 8) 0 * H ^ i) := by grind
  rw [e1, Nat.mul_add]
  omega
theorem more_step {i m n V : Nat} {O : List Nat} (hO : O.length = 8) (hi : i < 8) (hn : m + O.getD i 0 = n) (h : vh O + m * H ^ i = V) :
    vh (O.set i (n % H)) + n / H * H ^ (i + 1) = V := by
  have h1 := vh_set O i (n % H) (by omega)
  have h2 := Nat.mod_add_div n H
  generalize n % H = a at *
  generalize n / H = b at *
  have e1 : b * H ^ (i + 1) = H * b * H ^ i := by rw [Nat.pow_succ]; grind
  have e2 : (a + H * b) * H ^ i = n * H ^ i := by rw [h2]
  rw [Nat.add_mul] at e2
  rw [← hn] at e2
  have e3 : (m + O.getD i 0) * H ^ i = m * H ^ i + O.getD i 0 * H ^ i := Nat.add_mul _ _ _
  rw [e1]
  omega
theorem vh_lt : ∀ (l : List Nat), (∀ j, l.getD j 0 < H) → vh l < H ^ l.length
  | [], _ => by simp [vh]
  | x :: r, h => by
    have h0 : x < H := h 0
    have ih := vh_lt r fun j => h (j + 1)
    have : H * (vh r + 1) ≤ H * H ^ r.length := Nat.mul_le_mul_left _ ih
    rw [vh, List.length_cons, Nat.pow_succ, Nat.mul_comm (H ^ r.length)]
    rw [Nat.mul_add] at this
    omega

theorem list8' {α : Type} (l : List α) (h : l.length = 8) : ∃ a0 a1 a2 a3 a4 a5 a6 a7, l = [a0, a1, a2, a3, a4, a5, a6, a7] := by
  match l, h with
  | [a0, a1, a2, a3, a4, a5, a6, a7], _ => exact ⟨a0, a1, a2, a3, a4, a5, a6, a7, rfl⟩
theorem fold_less {V c m n : Nat} (hc : 0 < c) (hn : n = V + c * H ^ 8) (h : m = V + 38 * c) : m < n := by
  have : 39 * c ≤ c * H ^ 8 := by rw [Nat.mul_comm]; exact Nat.mul_le_mul_left _ (by decide)
  omega
theorem fold_same {V c m n r : Nat} (hn : n = V + c * H ^ 8) (h : m = V + 38 * c) (hr : n % Ar.pp = r) : m % Ar.pp = r := by rw [h, ← H8_mod, ← hn, hr]
set_option maxRecDepth 100000 in
set_option maxHeartbeats 2000000 in
theorem foldR_any (L : List Nat) (hL : L.length = 16) (hH : ∀ j, L.getD j 0 < H) (w : World) :
    Calls Try.prog 55 #[.agg (cellsU L)] w fun e w' => (∃ x, x < B ^ 4 ∧ x % Ar.pp = vh L % Ar.pp ∧ e = .returned (numV x)) ∧ Below w.heap.size w w' := by
  obtain ⟨l0, l1, l2, l3, l4, l5, l6, l7, l8, l9, la, lb, lc, ld, le', lf, hLe⟩ := list16 L hL
  have HH := Lib.hid hH
  clear hH
  rw [show cellsU L = cellsU [l0, l1, l2, l3, l4, l5, l6, l7, l8, l9, la, lb, lc, ld, le', lf] by rw [hLe]]
  simp only [cellsU, List.map_cons, List.map_nil]
  go_enter Try.func55, Try.ntmps55
  go_wp2_with fail
  go_loopw [5, 4] (fun v cv wr => ∃ i c : Nat, i ≤ 8 ∧ v = .int .i64 i ∧ cv = .int .u64 c ∧ c < 40 ∧ ∃ O : List Nat, O.length = 8 ∧ Hid ((∀ j, O.getD j 0 < H) ∧ (∀ j, i ≤ j → O.getD j 0 = 0) ∧ vh O + c * H ^ i = vt L i + 38 * vu L i) ∧ ∃ x : Ext,
    wr = plus (((w.alloc (.cells (cellsU L) 63)).alloc (.cells #[.int .u64 0, .int .u64 0, .int .u64 0, .int .u64 0] 24)).alloc (.cells (cellsU O) 56)) x) (fun v _ _ => 8 - (intOf v).toNat)
  case atStart =>
    refine ⟨0, 0, by omega, rfl, rfl, by omega, zero8, rfl, ⟨zero8_lt, fun j _ => ?_, by simp [vt, vu, vh, zero8]⟩, ⟨_, by rw [hLe]; exact (plus_none _).symm⟩⟩
    unfold zero8
    rcases j with _ | _ | _ | _ | _ | _ | _ | _ | j <;> rfl
  case round =>
    obtain ⟨i, c, hi, rfl, rfl, hc, O, hO, HR, x, rfl⟩ := hrel
    by_cases h8 : i < 8
    · have hd : decide ((i : Int) < 8) = true := by simp; omega
      have g1 := cellsU_get (l := L) (j := i) (by omega)
      have g2 := cellsU_get (l := L) (j := i + 8) (by omega)
      have hzH := HH.out i
      have huH := HH.out (i + 8)
      obtain ⟨z, hz⟩ : ∃ z, L.getD i 0 = z := ⟨_, rfl⟩
      obtain ⟨u, hu⟩ : ∃ u, L.getD (i + 8) 0 = u := ⟨_, rfl⟩
      rw [hz] at g1 hzH
      rw [hu] at g2 huH
      have HZ := Lib.hid hz
      have HU := Lib.hid hu
      have HLE := Lib.hid hLe
      clear hz hu hLe
      obtain ⟨tB, tH, hsum⟩ := fold_wrap hc hzH huH
      obtain ⟨n, hn⟩ : ∃ n, c + z + 38 * u = n := ⟨_, rfl⟩
      have HN := Lib.hid hn
      rw [hn] at tB tH hsum
      have hlow := low_half n tB
      have g3 := cellsU_get (l := O) (j := i) (by omega)
      have hi8 : (i : Int) + 8 < 16 := by omega
      have hi16 : (i : Int) < 16 := by omega
      clear hn
      go_wp2_with fail
      go_region
      go_wp2_with fail
      go_roundw
      case rel =>
        obtain ⟨r1, r2, r3⟩ := HR.out
        refine ⟨i + 1, n / H, by omega, by go_num, by rw [high_half], tH, O.set i (n % H), by simpa using hO, ⟨seth_lt r1 (Nat.mod_lt _ H_pos), fun j hj => ?_, fold_step hO hL h8 (by rw [HZ.out, HU.out]; exact HN.out) (r2 i (Nat.le_refl _)) r3⟩, ⟨x.blocks, x.draws + 1⟩, by rw [← cellsU_set, Int.natCast_emod]⟩
        rw [set_far j (by omega)]
        exact r2 j (by omega)
      case measure => simp [intOf]; omega
    · obtain rfl : i = 8 := by omega
      have hmod : (vh O + c * H ^ 8) % Ar.pp = vh L % Ar.pp := by
        rw [HR.out.2.2, vh_halves L hL, H8_mod]
      have HM := Lib.hid (And.intro hmod HR.out.1)
      have HLE := Lib.hid hLe
      clear hmod HR hLe h8
      go_wp2_with fail
      go_loopg [4] (vh O + c * H ^ 8) (fun N cv wr => ∃ c : Nat, cv = .int .u64 c ∧ c < 40 ∧ ∃ O : List Nat, O.length = 8 ∧ Hid (N = vh O + c * H ^ 8 ∧ N % Ar.pp = vh L % Ar.pp ∧ ∀ j, O.getD j 0 < H) ∧ ∃ x : Ext,
        wr = plus (((w.alloc (.cells (cellsU L) 63)).alloc (.cells #[.int .u64 0, .int .u64 0, .int .u64 0, .int .u64 0] 24)).alloc (.cells (cellsU O) 56)) x)
      case atStart => exact ⟨c, rfl, hc, O, hO, ⟨rfl, HM.out.1, HM.out.2⟩, x, rfl⟩
      case round =>
        clear HM hO hc
        obtain ⟨c, rfl, hc, O, hO, HR, x, rfl⟩ := hrel
        by_cases h0 : c = 0
        · subst h0
          have hV : vh O % Ar.pp = vh L % Ar.pp := by
            have := HR.out.2.1
            rw [HR.out.1] at this
            simpa using this
          have hlt := vh_lt O HR.out.2.2
          rw [hO, H8] at hlt
          have h0 := HR.out.2.2 0
          have h1 := HR.out.2.2 1
          have h2 := HR.out.2.2 2
          have h3 := HR.out.2.2 3
          have h4 := HR.out.2.2 4
          have h5 := HR.out.2.2 5
          have h6 := HR.out.2.2 6
          have h7 := HR.out.2.2 7
          obtain ⟨o0, o1, o2, o3, o4, o5, o6, o7, rfl⟩ := list8' O hO
          obtain ⟨V, hVe⟩ : ∃ V, vh [o0, o1, o2, o3, o4, o5, o6, o7] = V := ⟨_, rfl⟩
          have hcall := fun W => whole_any o0 o1 o2 o3 o4 o5 o6 o7 W h0 h1 h2 h3 h4 h5 h6 h7
          rw [hVe] at hV hlt hcall
          have HV := Lib.hid (And.intro hV hlt)
          have hheap : (plus (((w.alloc (.cells (cellsU L) 63)).alloc (.cells #[.int .u64 0, .int .u64 0, .int .u64 0, .int .u64 0] 24)).alloc (.cells (cellsU [o0, o1, o2, o3, o4, o5, o6, o7]) 56)) x).heap[w.heap.size + 1 + 1]? = some (.cells (cellsU [o0, o1, o2, o3, o4, o5, o6, o7]) 56) := by
            rw [heap_plus x (by unfold has; simp)]
            have := World.alloc_heap_new ((w.alloc (.cells (cellsU L) 63)).alloc (.cells #[.int .u64 0, .int .u64 0, .int .u64 0, .int .u64 0] 24)) (.cells (cellsU [o0, o1, o2, o3, o4, o5, o6, o7]) 56)
            simpa using this
          have hi56 : (Try.prog.info? 56).map (·.size) = some (cellsU [o0, o1, o2, o3, o4, o5, o6, o7]).size := by rw [cellsU_size]; kernel_rfl
          have HC := Lib.hid hcall
          clear hV hlt h0 h1 h2 h3 h4 h5 h6 h7 hVe hO HR hcall
          go_wp2_with (refine wpList_load_row rfl 56 _ rfl (w.heap.size + 1 + 1) rfl 56 (cellsU [o0, o1, o2, o3, o4, o5, o6, o7]) (0, 0) _ hheap Try.underlying56 rfl hi56 ?_)
          clear hheap
          refine (HC.out _).out.mono ?_
          rintro _ _ ⟨rfl, x9, rfl⟩
          go_wp2_with fail
          refine bodyPost_ret (v := numV V) (by simp [results, Try.results55, go_sem]) rfl ⟨⟨V, HV.out.2, HV.out.1, rfl⟩, ?_⟩
          repeat (first | exact Below.refl _ _ | refine Below.setCell ?_ (by first | (simp; done) | (simp; omega) | (simp [size_plus]; done) | (simp [size_plus]; omega)) _ | refine Below.alloc ?_ (by first | (simp; done) | (simp; omega) | (simp [size_plus]; done) | (simp [size_plus]; omega)) _ | refine Below.drew ?_ | refine Below.plus ?_ (by first | (simp; done) | (simp; omega) | (simp [size_plus]; done) | (simp [size_plus]; omega)) _)
        · have hpos : 0 < c := by omega
          have hd : decide ((0 : Int) < (c : Int)) = true := by simp; omega
          have hw38 : IntKind.u64.wrap (38 * (c : Int)) = ((38 * c : Nat) : Int) := by
            rw [show 38 * (c : Int) = ((38 * c : Nat) : Int) by simp, wrap_u64_nat _ (by omega)]
          go_wp2_with fail
          go_loopw [7, 6] (fun v mv wr => ∃ i m : Nat, i ≤ 8 ∧ v = .int .i64 i ∧ mv = .int .u64 m ∧ m < 1600 ∧ ∃ O' : List Nat, O'.length = 8 ∧ Hid ((0 < i → m ≤ 1) ∧ (∀ j, O'.getD j 0 < H) ∧ vh O' + m * H ^ i = vh O + 38 * c) ∧ ∃ x : Ext,
            wr = plus (((w.alloc (.cells (cellsU L) 63)).alloc (.cells #[.int .u64 0, .int .u64 0, .int .u64 0, .int .u64 0] 24)).alloc (.cells (cellsU O') 56)) x) (fun v _ _ => 8 - (intOf v).toNat)
          case atStart => exact ⟨0, 38 * c, by omega, rfl, rfl, by omega, O, hO, ⟨fun h => by omega, HR.out.2.2, by simp⟩, x, rfl⟩
          case round =>
            obtain ⟨i, m, hi, rfl, rfl, hm, O', hO', HI, y, rfl⟩ := hrel
            by_cases hgo : i < 8 ∧ 0 < m
            · obtain ⟨hi8, hm0⟩ := hgo
              have hd1 : decide ((i : Int) < 8) = true := by simp; omega
              have hd2 : decide ((0 : Int) < (m : Int)) = true := by simp; omega
              have g3 := cellsU_get (l := O') (j := i) (by omega)
              have hzH := HI.out.2.1 i
              obtain ⟨z, hz⟩ : ∃ z, O'.getD i 0 = z := ⟨_, rfl⟩
              rw [hz] at g3 hzH
              have HZ := Lib.hid hz
              obtain ⟨n, hn⟩ : ∃ n, m + z = n := ⟨_, rfl⟩
              have HN := Lib.hid hn
              have hnB : n < 18446744073709551616 := by unfold H at hzH; omega
              have hn1 : n / H ≤ 1 := by unfold H at *; omega
              have hsum : IntKind.u64.wrap ((m : Int) + (z : Int)) = ((n : Nat) : Int) := by
                rw [show (m : Int) + (z : Int) = ((m + z : Nat) : Int) by simp, hn, wrap_u64_nat _ hnB]
              have hlow := low_half n hnB
              have hi8' : (i : Int) < 8 := by omega
              clear hz hn
              go_wp2_with fail
              go_roundw
              case rel =>
                obtain ⟨r1, r2, r3⟩ := HI.out
                refine ⟨i + 1, n / H, by omega, by go_num, by rw [high_half], by omega, O'.set i (n % H), by simpa using hO', ⟨fun _ => hn1, seth_lt r2 (Nat.mod_lt _ H_pos), more_step hO' hi8 (by rw [HZ.out]; exact HN.out) r3⟩, y, by rw [← cellsU_set, Int.natCast_emod]⟩
              case measure => simp [intOf]; omega
            · have hend : m < 40 ∧ vh O' + m * H ^ 8 = vh O + 38 * c := by
                obtain ⟨r1, r2, r3⟩ := HI.out
                by_cases hm0 : m = 0
                · subst hm0
                  rw [Nat.zero_mul] at r3 ⊢
                  exact ⟨by omega, r3⟩
                · obtain rfl : i = 8 := by omega
                  exact ⟨by have := r1 (by omega); omega, r3⟩
              have HE := Lib.hid hend
              clear hend
              by_cases hi8 : i < 8
              · obtain rfl : m = 0 := by omega
                have hd1 : decide ((i : Int) < 8) = true := by simp; omega
                go_wp2_with fail
                go_roundg (vh O' + 0 * H ^ 8)
                case rel => exact ⟨0, rfl, HE.out.1, O', hO', ⟨rfl, fold_same HR.out.1 HE.out.2 HR.out.2.1, HI.out.2.1⟩, y, rfl⟩
                case measure => exact fold_less hpos HR.out.1 HE.out.2
              · have hd1 : decide ((i : Int) < 8) = false := by simp; omega
                go_wp2_with fail
                go_roundg (vh O' + m * H ^ 8)
                case rel => exact ⟨m, rfl, HE.out.1, O', hO', ⟨rfl, fold_same HR.out.1 HE.out.2 HR.out.2.1, HI.out.2.1⟩, y, rfl⟩
                case measure => exact fold_less hpos HR.out.1 HE.out.2
end Go.Proofs.Ytihbjlpohjohpaa

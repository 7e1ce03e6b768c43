/- Walks: a number of 512 bits modulo the order. -/
import Derived.Test.YtihbjlpohjohpaaSc1
import Derived.Test.YtihbjlpohjohpaaPlusIn
namespace Go.Proofs.Ytihbjlpohjohpaa
open Go.RowKit Go.Shelf

attribute [local go_sem] Oper.semAt_some

theorem pow512 : B ^ 8 = 2 ^ 512 := by decide +kernel
theorem or_even (x : Nat) {t : Nat} (ht : t ≤ 1) : bits BinOp.or IntKind.u64 (IntKind.u64.wrap ((x : Int) * 2)) (t : Int) = ((2 * x % B + t : Nat) : Int) := by
  have h1 : IntKind.u64.wrap ((x : Int) * 2) = ((2 * x % B : Nat) : Int) := by
    rw [IntKind.wrap_u64]; unfold B; omega
  have h2 : 2 * x % B < 18446744073709551616 := Nat.mod_lt _ B_pos
  rw [h1, bits_or_u64_nat _ _ h2 (by omega)]
  congr 1
  have h3 : 2 * x % B = 2 ^ 1 * (2 * x % B / 2) := by unfold B; omega
  rw [h3, ← Nat.two_pow_add_eq_or_of_lt (show t < 2 ^ 1 by omega)]
theorem dbl0 (u : Nat) {b : Nat} (hb : b ≤ 1) : bits BinOp.or IntKind.u64 (IntKind.u64.wrap (((nw u 0 : Nat) : Int) * 2)) (b : Int) = ((nw (2 * u + b) 0 : Nat) : Int) := by
  rw [or_even (nw u 0) hb, nw_zero, nw_zero]
  congr 1
  unfold B
  omega
theorem dblS (u i : Nat) {b : Nat} (hb : b ≤ 1) : bits BinOp.or IntKind.u64 (IntKind.u64.wrap (((nw u (i + 1) : Nat) : Int) * 2)) (((nw u i : Nat) : Int) / 9223372036854775808) = ((nw (2 * u + b) (i + 1) : Nat) : Int) := by
  have hl := nw_lt' u i
  rw [show ((nw u i : Nat) : Int) / 9223372036854775808 = ((nw u i / 9223372036854775808 : Nat) : Int) by simp, or_even (nw u (i + 1)) (by omega)]
  congr 1
  unfold nw
  rw [Nat.pow_succ, ← Nat.div_div_eq_div_mul, ← Nat.div_div_eq_div_mul]
  have hk := pow_B_pos i
  have h1 := Nat.mod_lt u hk
  obtain ⟨c, hc, e⟩ : ∃ c, c ≤ 1 ∧ (2 * u + b) / B ^ i = 2 * (u / B ^ i) + c := by
    refine ⟨(2 * (u % B ^ i) + b) / B ^ i, ?_, ?_⟩
    · have : (2 * (u % B ^ i) + b) < 2 * B ^ i := by omega
      have := Nat.div_lt_of_lt_mul (m := 2 * (u % B ^ i) + b) (n := B ^ i) (k := 2) (by omega)
      omega
    · have h2 := Nat.mod_add_div u (B ^ i)
      rw [show 2 * u + b = 2 * (u % B ^ i) + b + B ^ i * (2 * (u / B ^ i)) by rw [Nat.mul_left_comm]; omega, Nat.add_mul_div_left _ _ hk, Nat.add_comm]
  rw [e]
  generalize u / B ^ i = q
  unfold B
  omega

theorem sayN_falls (e : Nat) (he : e < B ^ 8) : ∀ k, k ≤ 512 → sayB (falls e k) = e / 2 ^ (512 - k)
  | 0, _ => by
    rw [pow512] at he
    rw [Nat.sub_zero, Nat.div_eq_of_lt he]
    rfl
  | k + 1, hk => by
    rw [falls_succ, sayB_snoc, sayN_falls e he k (by omega), show 512 - k = (512 - (k + 1)) + 1 by omega, Nat.pow_succ, ← Nat.div_div_eq_div_mul, show 511 - k = 512 - (k + 1) by omega]
    by_cases h : e / 2 ^ (512 - (k + 1)) % 2 = 1
    · simp only [h, decide_true, Bool.toNat_true]; omega
    · simp only [h, decide_false, Bool.toNat_false]; omega
theorem sayN_all (e : Nat) (he : e < B ^ 8) : sayB (falls e 512) = e := by rw [sayN_falls e he 512 (by omega)]; simp

abbrev z4 : Array Value := #[.int .u64 0, .int .u64 0, .int .u64 0, .int .u64 0]
/-- What the loop stands upon: the result's box, the number so far, the order, the iterator's box. -/
def modBase (w : World) (x1 : Ext) (bp v : Nat) : World := ((plus ((w.alloc (.cells z4 24)).alloc (.cells (wordsOf v) 24)) x1).alloc (.cells (wordsOf ordN) 24)).alloc (.cells #[.pointer (some ⟨bp, 0, none⟩)] 65)
theorem modBase_size (w : World) (x1 : Ext) (bp v : Nat) : (modBase w x1 bp v).heap.size = w.heap.size + 1 + 1 + x1.blocks.size + 1 + 1 := by simp only [modBase, World.size_alloc, size_plus]
theorem modBase_other (w : World) (x1 : Ext) (bp m n k : Nat) (hk : k ≠ w.heap.size + 1) : (modBase w x1 bp m).heap[k]? = (modBase w x1 bp n).heap[k]? := by
  simp only [modBase, plus, World.alloc, Array.getElem?_push, Array.getElem?_append, Array.size_push, Array.size_append]
  split
  · rfl
  · split
    · rfl
    · split
      · rfl
      · rfl
theorem modBase_box (w : World) (x1 : Ext) (bp v : Nat) : (modBase w x1 bp v).heap[w.heap.size + 1 + 1 + x1.blocks.size + 1]? = some (.cells #[.pointer (some ⟨bp, 0, none⟩)] 65) := by
  have := heap_new ((plus ((w.alloc (.cells z4 24)).alloc (.cells (wordsOf v) 24)) x1).alloc (.cells (wordsOf ordN) 24)) (.cells #[.pointer (some ⟨bp, 0, none⟩)] 65)
  simp only [World.size_alloc, size_plus] at this
  exact this
theorem modBase_out (w : World) (x1 : Ext) (bp v : Nat) : (modBase w x1 bp v).heap[w.heap.size + 1]? = some (.cells (wordsOf v) 24) := by
  simp only [modBase, plus, World.alloc, Array.getElem?_push, Array.getElem?_append, Array.size_push, Array.size_append]
  rw [if_neg (by omega), if_neg (by omega), if_pos (by omega)]
  simp
theorem modBase_old (w : World) (x1 : Ext) (bp v k : Nat) (hk : k < w.heap.size) : (modBase w x1 bp v).heap[k]? = w.heap[k]? := by
  simp only [modBase, plus, World.alloc, Array.getElem?_push, Array.getElem?_append, Array.size_push, Array.size_append]
  rw [if_neg (by omega), if_neg (by omega), if_pos (by omega)]
  rw [if_neg (by omega), if_neg (by omega)]

theorem mod_keeps (w : World) (x1 : Ext) (bp m n : Nat) (x : Ext) : KeepsOthers (plus (modBase w x1 bp m) x) (plus (modBase w x1 bp n) x) := by
  refine ⟨by simp [size_plus, modBase_size], fun k o hk ho => ?_⟩
  by_cases hlt : k < (modBase w x1 bp m).heap.size
  · have h1 : (modBase w x1 bp m).heap[k]? = some o := (heap_plus x hlt).symm.trans hk
    have h2 : has (modBase w x1 bp n) k := by unfold has; rw [modBase_size] at hlt ⊢; exact hlt
    rw [heap_plus x h2]
    by_cases hk1 : k = w.heap.size + 1
    · subst hk1
      rw [modBase_out] at h1
      cases h1
      simp [Obj.isCells] at ho
    · rw [modBase_other w x1 bp n m k hk1, h1]
  · rw [← hk]
    exact (plus_beyond _ _ x k (by rw [modBase_size, modBase_size]) (by omega)).symm
theorem mod_kp (w : World) (x1 : Ext) (bp m n : Nat) (x : Ext) (hb : bp < w.heap.size) : KpTwo (w.heap.size + 1 + 1 + x1.blocks.size + 1) bp (plus (modBase w x1 bp m) x) (plus (modBase w x1 bp n) x) := by
  have h : ∀ k n, k < w.heap.size + 1 + 1 + x1.blocks.size + 1 + 1 → (plus (modBase w x1 bp n) x).heap[k]? = (modBase w x1 bp n).heap[k]? := fun k n hk => heap_plus x (by unfold has; rw [modBase_size]; exact hk)
  exact ⟨(h _ n (by omega)).trans ((modBase_other _ _ _ _ _ _ (by omega)).trans (h _ m (by omega)).symm), (h _ n (by omega)).trans ((modBase_other _ _ _ _ _ _ (by omega)).trans (h _ m (by omega)).symm)⟩
def tailX (D : Obj) (y0 y1 y2 y3 : Ext) : Ext := ⟨#[D] ++ (y0.blocks ++ (y1.blocks ++ (y2.blocks ++ y3.blocks))), y3.draws⟩
theorem tail_eq (V : World) (D : Obj) (y0 y1 y2 y3 : Ext) : plus (plus (plus (plus (V.alloc D) y0) y1) y2) y3 = plus V (tailX D y0 y1 y2 y3) := by
  have : V.alloc D = plus V ⟨#[D], V.drawn⟩ := by
    show ({ V with heap := V.heap.push D } : World) = { V with heap := V.heap ++ #[D], drawn := V.drawn }
    rw [Array.push_eq_append]
  rw [this, plus_plus, plus_plus, plus_plus, plus_plus]
  rfl
theorem ord_below {n : Nat} (h : n < 2 * ordN) : n < B ^ 4 := Nat.lt_trans h (by decide +kernel)
theorem bo_lt {n : Nat} (hn : n < 2 * ordN) (h : n < ordN) : bo n ordN 4 = 1 := by
  unfold bo
  rw [Nat.mod_eq_of_lt (ord_below hn), Nat.mod_eq_of_lt ordN_lt, if_pos h]
theorem bo_ge {n : Nat} (hn : n < 2 * ordN) (h : ¬ n < ordN) : bo n ordN 4 = 0 := by
  unfold bo
  rw [Nat.mod_eq_of_lt (ord_below hn), Nat.mod_eq_of_lt ordN_lt, if_neg h]
theorem dif_words {n : Nat} (h : ¬ n < ordN) : wordsOf (dif n ordN) = wordsOf (n - ordN) := by
  have e : dif n ordN = n - ordN + B ^ 4 * 1 := by
    unfold dif
    rw [Nat.div_eq_of_lt ordN_lt]
    omega
  unfold wordsOf
  rw [e, nw_add_big _ _ 0 (by omega), nw_add_big _ _ 1 (by omega), nw_add_big _ _ 2 (by omega), nw_add_big _ _ 3 (by omega)]
theorem say_mod (v b : Nat) : (2 * v + b) % ordN = (2 * (v % ordN) + b) % ordN := by
  rw [Nat.add_mod, Nat.mul_mod, Nat.add_mod (2 * (v % ordN)), Nat.mul_mod 2 (v % ordN), Nat.mod_mod]

set_option maxRecDepth 100000 in
set_option maxHeartbeats 2000000 in
theorem modulo_any (e bp : Nat) (w : World) (he : e < B ^ 8) (hbp : w.heap[bp]? = some (.cells (words8 e) 66)) : Ret Try.prog 58 #[.pointer (some ⟨bp, 0, none⟩)] w (numV (e % ordN)) := by
  refine Ret.of ?_
  have hbw : bp < w.heap.size := (Array.getElem?_eq_some_iff.1 hbp).1
  refine (callsIn_wide (n := 4)).1 ?_
  refine callsIn_of_wp_marks Try.func58 rfl trivial ?_ rfl
  simp only [Try.ntmps58, List.size_toArray, List.length_cons, List.length_nil, Nat.reduceAdd, Nat.reduceSub, Array.replicate_succ, Array.replicate_zero, List.push_toArray, List.append_toArray, List.nil_append, List.cons_append]
  gi_wp2
  refine ⟨trivial, ?_⟩
  refine (callsIn_wide.2 (order_any _).out).mono ?_
  rintro _ _ ⟨rfl, x1, rfl⟩
  gi_wp2
  refine ⟨trivial, ?_⟩
  refine (falls_in Fence.wide _ trivial rfl (some ⟨bp, 0, none⟩) _).mono ?_
  rintro r w' ⟨rfl, rfl⟩
  gi_wp2
  have hz0 : wordsOf (sayB [] % ordN) = z4 := by
    rw [show sayB [] % ordN = 0 by simp [sayB]]
    simp [wordsOf, nw]
  refine wpIn_rangeFunc_ownF rfl (by omega) (gf := 69) (lb := #[.pointer (some ⟨w.heap.size + 1 + 1 + x1.blocks.size + 1, 0, none⟩)]) rfl trivial (enters_of Try.func69 (by kernel_rfl) rfl)
    (falls_stops Fence.wide _ trivial rfl (by omega) (w.heap.size + 1 + 1 + x1.blocks.size + 1) bp e _ ?hb ?hc) kpTwo_t (kpTwo_b ?hlt ?hlt2) (Below.refl _ _) (fun _ => rfl)
    (fun pre W => ∃ x : Ext, W = plus (modBase w x1 bp (sayB pre % ordN)) x)
    (fun _ _ _ => False)
    (ownFrom_plus (fun pre => modBase w x1 bp (sayB pre % ordN)) (fun pre => by rw [modBase_size]; simp [size_plus]))
    (fun _ _ _ _ _ hs _ _ => hs)
    ⟨⟨#[], x1.draws⟩, ?h0⟩
    (fun x => { tmps := #[.pointer (some ⟨bp, 0, none⟩), undef, .pointer (some ⟨w.heap.size, 0, none⟩), .pointer (some ⟨w.heap.size + 1, 0, none⟩), .pointer (some ⟨w.heap.size + 1 + 1 + x1.blocks.size, 0, none⟩), .int .u64 ((x.toNat : Nat) : Int), undef, undef, undef, undef, undef, numV ordN, .pointer (some ⟨bp, 0, none⟩), .func (.func 69) #[] #[.pointer (some ⟨w.heap.size + 1 + 1 + x1.blocks.size + 1, 0, none⟩)], .int .u64 ((x.toNat : Nat) : Int), undef, undef, undef, undef, undef, undef, undef, undef, undef, undef, undef, undef, undef, undef, undef, undef, undef, undef, undef, undef, undef, undef, undef, undef, undef, undef, undef, undef, undef, undef, undef, undef, undef, undef, undef, undef, undef, undef], defers := [] }) ?assign ?body ?done ?stop
  case hb =>
    have := modBase_box w x1 bp (sayB [] % ordN)
    rw [modBase, hz0] at this
    exact this
  case hc =>
    have := (modBase_old w x1 bp (sayB [] % ordN) bp hbw).trans hbp
    rw [modBase, hz0] at this
    exact this
  case hlt => simp [size_plus]
  case hlt2 => simp [size_plus]; omega
  case h0 =>
    rw [modBase, hz0]
    exact (plus_none _).symm
  case assign =>
    intro l x W K hK
    gi_wp2
    exact hK
  case body =>
    rintro l pre x _ ⟨x0, rfl⟩ _
    have hb1 : x.toNat ≤ 1 := by cases x <;> decide
    have HS := Lib.hid (sayB_snoc pre x)
    generalize x.toNat = b at *
    generalize sayB pre = v at *
    obtain ⟨u, hu⟩ : ∃ u, v % ordN = u := ⟨_, rfl⟩
    have HU := Lib.hid hu
    have HL := Lib.hid (show u < ordN from hu ▸ Nat.mod_lt _ ordN_pos)
    rw [hu]
    clear hu
    have d0 := dbl0 u hb1
    have d1 := dblS u 0 hb1
    have d2 := dblS u 1 hb1
    have d3 := dblS u 2 hb1
    simp only [Nat.zero_add, Nat.reduceAdd] at d1 d2 d3
    obtain ⟨n, hn⟩ : ∃ n, 2 * u + b = n := ⟨_, rfl⟩
    rw [hn] at d0 d1 d2 d3
    have HN := Lib.hid hn
    clear hn
    unfold modBase
    gi_wp2
    refine wpIn_loop_rounds 5 ?_
    iterate 5 (rw [roundsIn_succ]; gi_wp2)
    clear d0 d1 d2 d3
    refine wpIn_loop_rounds 5 ?_
    rw [roundsIn_succ]
    gi_wp2
    refine wpIn_region_plain 13 53 mixed (by kernel_rfl) (by kernel_rfl) rfl (by kernel_rfl) ?_
    simp only [List.take_succ_cons, List.take_zero, List.drop_succ_cons, List.drop_zero]
    repeat (first | (refine wpHead_skip rfl ?_) | (refine wpHead_run rfl rfl (fun K hK => ?_); go_simp; first | (refine hK _ ?_; clear hK K) | (apply Exists.intro; refine ⟨fun _ => ?_, hK _ ?_⟩; (fail); clear hK K)))
    refine wpHead_nil ?_
    intro zz y0
    clear zz
    go_wp2_with fail
    simp only [onlyN_normal]
    gi_wp2
    rw [roundsIn_succ]
    gi_wp2
    refine wpIn_region_plain 13 53 mixed (by kernel_rfl) (by kernel_rfl) rfl (by kernel_rfl) ?_
    simp only [List.take_succ_cons, List.take_zero, List.drop_succ_cons, List.drop_zero]
    repeat (first | (refine wpHead_skip rfl ?_) | (refine wpHead_run rfl rfl (fun K hK => ?_); go_simp; first | (refine hK _ ?_; clear hK K) | (apply Exists.intro; refine ⟨fun _ => ?_, hK _ ?_⟩; (fail); clear hK K)))
    refine wpHead_nil ?_
    intro zz y1
    clear zz
    go_wp2_with fail
    simp only [onlyN_normal]
    gi_wp2
    rw [roundsIn_succ]
    gi_wp2
    refine wpIn_region_plain 13 53 mixed (by kernel_rfl) (by kernel_rfl) rfl (by kernel_rfl) ?_
    simp only [List.take_succ_cons, List.take_zero, List.drop_succ_cons, List.drop_zero]
    repeat (first | (refine wpHead_skip rfl ?_) | (refine wpHead_run rfl rfl (fun K hK => ?_); go_simp; first | (refine hK _ ?_; clear hK K) | (apply Exists.intro; refine ⟨fun _ => ?_, hK _ ?_⟩; (fail); clear hK K)))
    refine wpHead_nil ?_
    intro zz y2
    clear zz
    go_wp2_with fail
    simp only [onlyN_normal]
    gi_wp2
    rw [roundsIn_succ]
    gi_wp2
    refine wpIn_region_plain 13 53 mixed (by kernel_rfl) (by kernel_rfl) rfl (by kernel_rfl) ?_
    simp only [List.take_succ_cons, List.take_zero, List.drop_succ_cons, List.drop_zero]
    repeat (first | (refine wpHead_skip rfl ?_) | (refine wpHead_run rfl rfl (fun K hK => ?_); go_simp; first | (refine hK _ ?_; clear hK K) | (apply Exists.intro; refine ⟨fun _ => ?_, hK _ ?_⟩; (fail); clear hK K)))
    refine wpHead_nil ?_
    intro zz y3
    clear zz
    go_wp2_with fail
    simp only [onlyN_normal]
    gi_wp2
    have HN2 := Lib.hid (show n < 2 * ordN by have := HL.out; have := HN.out; omega)
    have HE := Lib.hid (show sayB (pre ++ [x]) % ordN = n % ordN by rw [HS.out, say_mod, HU.out, HN.out])
    by_cases hlt : n < ordN
    · rw [bo_lt HN2.out hlt]
      rw [roundsIn_succ]
      gi_wp2
      rw [tail_eq]
      refine ⟨(mod_keeps w x1 bp u n x0).trans (keeps_plus _ _), kpTwo_t (mod_kp w x1 bp u n x0 hbw) (kpTwo_plus (plus (modBase w x1 bp n) x0) _ (by rw [size_plus, modBase_size]; omega) (by rw [size_plus, modBase_size]; omega)), ⟨⟨x0.blocks ++ (tailX (.cells (wordsOf (dif n ordN)) 24) y0 y1 y2 y3).blocks, (tailX (.cells (wordsOf (dif n ordN)) 24) y0 y1 y2 y3).draws⟩, ?_⟩⟩
      · rw [HE.out, Nat.mod_eq_of_lt hlt]
        exact plus_plus _ _ _
    · rw [bo_ge HN2.out hlt]
      rw [roundsIn_succ]
      gi_wp2
      rw [tail_eq]
      refine ⟨(mod_keeps w x1 bp u (dif n ordN) x0).trans (keeps_plus _ _), kpTwo_t (mod_kp w x1 bp u (dif n ordN) x0 hbw) (kpTwo_plus (plus (modBase w x1 bp (dif n ordN)) x0) _ (by rw [size_plus, modBase_size]; omega) (by rw [size_plus, modBase_size]; omega)), ⟨⟨x0.blocks ++ (tailX (.cells (wordsOf (dif n ordN)) 24) y0 y1 y2 y3).blocks, (tailX (.cells (wordsOf (dif n ordN)) 24) y0 y1 y2 y3).draws⟩, ?_⟩⟩
      · rw [HE.out, Nat.mod_eq_sub_mod (by omega), Nat.mod_eq_of_lt (by have := HN2.out; omega), ← dif_words hlt]
        exact plus_plus _ _ _
  case done =>
    rintro D ys _ hD rfl ⟨x0, rfl⟩ hK
    rw [sayN_all e he] at *
    have hD' : w.heap.size + 1 + 1 + x1.blocks.size + 1 + 1 ≤ D := by simpa [size_plus] using hD
    obtain ⟨r, hr⟩ : ∃ r, e % ordN = r := ⟨_, rfl⟩
    have HR := Lib.hid hr
    rw [hr] at hK ⊢
    clear hr
    unfold modBase at hK ⊢
    gi_wp2
    have hK' := (plus_beyond (((plus ((w.alloc (.cells (wordsOf r) 24)).alloc (.cells (wordsOf r) 24)) x1).alloc (.cells (wordsOf ordN) 24)).alloc (.cells #[.pointer (some ⟨bp, 0, none⟩)] 65)) _ x0 D (by simp [size_plus]) (by simpa [size_plus] using hD')).trans hK
    refine ⟨by simp, .inl ⟨_, _, rfl, run_takeDeferred hK', ?_⟩⟩
    obtain ⟨y, hy⟩ := put_beyond (((plus ((w.alloc (.cells (wordsOf r) 24)).alloc (.cells (wordsOf r) 24)) x1).alloc (.cells (wordsOf ordN) 24)).alloc (.cells #[.pointer (some ⟨bp, 0, none⟩)] 65)) x0 D (.deferred none) (by simpa [size_plus] using hD')
    rw [hy]
    refine ⟨numV r, by simp [results, Try.results58, go_sem], by rw [HR.out], ?_⟩
    repeat (first | exact Below.refl _ _ | refine Below.setCell ?_ (by first | (simp; done) | (simp; omega) | (simp [size_plus]; done) | (simp [size_plus]; omega)) _ | refine Below.alloc ?_ (by first | (simp; done) | (simp; omega) | (simp [size_plus]; done) | (simp [size_plus]; omega)) _ | refine Below.drew ?_ | refine Below.plus ?_ (by first | (simp; done) | (simp; omega) | (simp [size_plus]; done) | (simp [size_plus]; omega)) _)
  case stop =>
    rintro D c pre W _ _ h _
    exact h.elim
end Go.Proofs.Ytihbjlpohjohpaa

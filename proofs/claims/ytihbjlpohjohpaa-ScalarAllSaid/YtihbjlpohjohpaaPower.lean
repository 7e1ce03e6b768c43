/- Walks: a field's number's power. -/
import Derived.Test.YtihbjlpohjohpaaFalling
namespace Go.Proofs.Ytihbjlpohjohpaa
open Go.RowKit Go.Shelf

attribute [local go_sem] Oper.semAt_some

/-- What bits say, the highest first. -/
def sayB (l : List Bool) : Nat := l.foldl (fun v b => 2 * v + b.toNat) 0
theorem sayB_snoc (l : List Bool) (b : Bool) : sayB (l ++ [b]) = 2 * sayB l + b.toNat := by simp [sayB]
theorem sayB_fall (e : Nat) (he : e < 2 ^ 256) : ∀ k, k ≤ 256 → sayB (fall e k) = e / 2 ^ (256 - k)
  | 0, _ => by simp [fall, sayB, Nat.div_eq_of_lt he]
  | k + 1, hk => by
    rw [fall_succ, sayB_snoc, sayB_fall e he k (by omega), show 256 - k = (256 - (k + 1)) + 1 by omega, Nat.pow_succ, ← Nat.div_div_eq_div_mul, show 255 - k = 256 - (k + 1) by omega]
    by_cases h : e / 2 ^ (256 - (k + 1)) % 2 = 1
    · simp only [h, decide_true, Bool.toNat_true]; omega
    · simp only [h, decide_false, Bool.toNat_false]; omega
theorem sayB_all (e : Nat) (he : e < 2 ^ 256) : sayB (fall e 256) = e := by rw [sayB_fall e he 256 (by omega)]; simp

theorem pow4 (a n : Nat) : Ar.powN a n < B ^ 4 := Nat.lt_trans (Ar.powN_lt a n) pp_lt

theorem plus_beyond (U V : World) (x : Ext) (k : Nat) (hs : U.heap.size = V.heap.size) (hk : U.heap.size ≤ k) : (plus U x).heap[k]? = (plus V x).heap[k]? := by
  simp only [plus]
  rw [Array.getElem?_append, Array.getElem?_append, if_neg (by omega), if_neg (by omega), hs]
theorem put_beyond (U : World) (x : Ext) (k : Nat) (o : Obj) (hk : U.heap.size ≤ k) : ∃ y, (plus U x).putObj k o = plus U y :=
  plus_of_below ((below_plus U x).trans ⟨rfl, rfl, rfl, by simp, fun j hj => World.putObj_heap_other (by omega)⟩)

/-- What the loop stands upon: the arguments' boxes, the result's, the number so far, the iterator's box. -/
def powBase (w : World) (a e n : Nat) : World := ((((w.alloc (.cells (wordsOf a) 24)).alloc (.cells (wordsOf e) 24)).alloc (.cells #[.int .u64 0, .int .u64 0, .int .u64 0, .int .u64 0] 24)).alloc (.cells (wordsOf n) 24)).alloc (.cells (wordsOf e) 24)
theorem powBase_size (w : World) (a e n : Nat) : (powBase w a e n).heap.size = w.heap.size + 1 + 1 + 1 + 1 + 1 := by simp only [powBase, World.size_alloc]
theorem powBase_box (w : World) (a e n : Nat) : (powBase w a e n).heap[w.heap.size + 1 + 1 + 1 + 1]? = some (.cells (wordsOf e) 24) := by
  have := heap_new ((((w.alloc (.cells (wordsOf a) 24)).alloc (.cells (wordsOf e) 24)).alloc (.cells #[.int .u64 0, .int .u64 0, .int .u64 0, .int .u64 0] 24)).alloc (.cells (wordsOf n) 24)) (.cells (wordsOf e) 24)
  simp only [World.size_alloc] at this
  exact this

theorem powBase_at (w : World) (a e n k : Nat) : (powBase w a e n).heap[k]? = if k = w.heap.size + 1 + 1 + 1 + 1 then some (.cells (wordsOf e) 24) else if k = w.heap.size + 1 + 1 + 1 then some (.cells (wordsOf n) 24)
    else if k = w.heap.size + 1 + 1 then some (.cells #[.int .u64 0, .int .u64 0, .int .u64 0, .int .u64 0] 24) else if k = w.heap.size + 1 then some (.cells (wordsOf e) 24) else if k = w.heap.size then some (.cells (wordsOf a) 24) else w.heap[k]? := by
  simp [powBase, World.alloc, -World.alloc_eq, Array.getElem?_push]
theorem pow_keeps (w : World) (a e m n : Nat) (x : Ext) : KeepsOthers (plus (powBase w a e m) x) (plus (powBase w a e n) x) := by
  refine ⟨by simp [size_plus, powBase_size], fun k o hk ho => ?_⟩
  by_cases hlt : k < (powBase w a e m).heap.size
  · have h1 : (powBase w a e m).heap[k]? = some o := (heap_plus x hlt).symm.trans hk
    have h2 : has (powBase w a e n) k := by unfold has; rw [powBase_size] at hlt ⊢; exact hlt
    rw [heap_plus x h2]
    rw [powBase_at] at h1 ⊢
    split at h1
    · cases h1; simp [Obj.isCells] at ho
    · split at h1
      · cases h1; simp [Obj.isCells] at ho
      · split at h1
        · cases h1; simp [Obj.isCells] at ho
        · split at h1
          · cases h1; simp [Obj.isCells] at ho
          · split at h1
            · cases h1; simp [Obj.isCells] at ho
            · simp only [*, if_false]
  · rw [← hk]
    exact (plus_beyond _ _ x k (by rw [powBase_size, powBase_size]) (by omega)).symm
theorem pow_kp (w : World) (a e m n : Nat) (x : Ext) : KpAt (w.heap.size + 1 + 1 + 1 + 1) (plus (powBase w a e m) x) (plus (powBase w a e n) x) := by
  have h : ∀ n, (plus (powBase w a e n) x).heap[w.heap.size + 1 + 1 + 1 + 1]? = some (.cells (wordsOf e) 24) := fun n => (heap_plus x (by unfold has; rw [powBase_size]; omega)).trans (powBase_box w a e n)
  exact (h n).trans (h m).symm
theorem KpAt.trans' {b : Nat} {A C D : World} (h : KpAt b A C) (k : KpAt b C D) : KpAt b A D := Eq.trans k h
theorem pow_even (a v : Nat) : Ar.powN a (2 * v + false.toNat) = Ar.mulN (Ar.powN a v) (Ar.powN a v) := by
  rw [← Ar.powN_add]
  congr 1
  simp
  omega
theorem pow_odd (a v : Nat) : Ar.powN a (2 * v + true.toNat) = Ar.mulN (Ar.mulN (Ar.powN a v) (Ar.powN a v)) a := by
  have h1 : Ar.powN a 1 = a % Ar.pp := Ar.powN_one a
  rw [← Ar.powN_add, ← Ar.mulN_mod_right _ a, ← h1, ← Ar.powN_add]
  congr 1
  simp
  omega

set_option maxRecDepth 100000 in
set_option maxHeartbeats 2000000 in
theorem power_any (a e : Nat) (w : World) (ha : a < B ^ 4) (he : e < B ^ 4) : Ret Try.prog 50 #[numV a, numV e] w (numV (Ar.powN a e)) := by
  refine Ret.of ?_
  refine (callsIn_wide (n := 4)).1 ?_
  refine callsIn_of_wp_marks Try.func50 rfl trivial ?_ rfl
  simp only [Try.ntmps50, List.size_toArray, List.length_cons, List.length_nil, Nat.reduceAdd, Nat.reduceSub, Array.replicate_succ, Array.replicate_zero, List.push_toArray, List.append_toArray, List.nil_append, List.cons_append]
  gi_wp2
  refine ⟨trivial, ?_⟩
  refine (falling_in Fence.wide _ trivial rfl e _).mono ?_
  rintro r w' ⟨rfl, rfl⟩
  gi_wp2
  have h256 : e < 2 ^ 256 := he
  have hone : wordsOf (Ar.powN a (sayB [])) = #[.int .u64 1, .int .u64 0, .int .u64 0, .int .u64 0] := by
    rw [show Ar.powN a (sayB []) = 1 by unfold Ar.powN sayB; simp; decide +kernel]
    exact Value.agg.inj (numV_small 1 (by decide))
  refine wpIn_rangeFunc_ownF rfl (by omega) (gf := 68) (lb := #[.pointer (some ⟨w.heap.size + 1 + 1 + 1 + 1, 0, none⟩)]) rfl trivial (enters_of Try.func68 (by kernel_rfl) rfl)
    (falling_stops Fence.wide _ trivial rfl (by omega) (w.heap.size + 1 + 1 + 1 + 1) e _ ?hb) kpAt_t (kpAt_b ?hlt) (Below.refl _ _) (fun _ => rfl)
    (fun pre W => ∃ x : Ext, W = plus (powBase w a e (Ar.powN a (sayB pre))) x)
    (fun _ _ _ => False)
    (ownFrom_plus (fun pre => powBase w a e (Ar.powN a (sayB pre))) (fun pre => by rw [powBase_size]; simp))
    (fun _ _ _ _ _ hs _ _ => hs)
    ⟨⟨#[], w.drawn⟩, ?h0⟩
    (fun x => { tmps := #[numV a, numV e, .pointer (some ⟨w.heap.size, 0, none⟩), .pointer (some ⟨w.heap.size + 1, 0, none⟩), .pointer (some ⟨w.heap.size + 1 + 1, 0, none⟩), .pointer (some ⟨w.heap.size + 1 + 1 + 1, 0, none⟩), .bool x, .agg #[.int .u64 1, .int .u64 0, .int .u64 0, .int .u64 0], .agg (wordsOf e), .func (.func 68) #[] #[.pointer (some ⟨w.heap.size + 1 + 1 + 1 + 1, 0, none⟩)], .bool x, undef, undef, undef, undef, undef, undef, undef, undef], defers := [] }) ?assign ?body ?done ?stop
  case hb =>
    have := powBase_box w a e (Ar.powN a (sayB []))
    rw [powBase, hone] at this
    exact this
  case hlt => simp
  case h0 =>
    rw [powBase, hone]
    exact (plus_none _).symm
  case assign =>
    intro l x W K hK
    gi_wp2
    exact hK
  case body =>
    rintro l pre x _ ⟨x0, rfl⟩ _
    have hp4 := pow4 a (sayB pre)
    have HS := Lib.hid (sayB_snoc pre x)
    generalize sayB pre = v at *
    unfold powBase
    gi_wp2
    refine ⟨trivial, ?_⟩
    refine (CallsIn.inRound l (callsIn_wide.2 (mul_any (Ar.powN a v) (Ar.powN a v) _ hp4 hp4).out)).mono ?_
    rintro _ _ ⟨rfl, x1, rfl⟩
    cases x with
    | false =>
      gi_wp2
      exact ⟨(pow_keeps w a e _ _ x0).trans (keeps_plus _ x1), (pow_kp w a e _ _ x0).trans' (kpAt_plus (plus (powBase w a e (Ar.mulN (Ar.powN a v) (Ar.powN a v))) x0) x1 (by rw [size_plus, powBase_size]; omega)), ⟨⟨x0.blocks ++ x1.blocks, x1.draws⟩, by rw [HS.out, pow_even]; exact plus_plus _ _ _⟩⟩
    | true =>
      gi_wp2
      refine ⟨trivial, ?_⟩
      refine (CallsIn.inRound l (callsIn_wide.2 (mul_any (Ar.mulN (Ar.powN a v) (Ar.powN a v)) a _ (mul4 _ _) ha).out)).mono ?_
      rintro _ _ ⟨rfl, x2, rfl⟩
      gi_wp2
      exact ⟨((pow_keeps w a e _ _ x0).trans (keeps_plus _ x1)).trans (keeps_plus _ x2), ((pow_kp w a e _ _ x0).trans' (kpAt_plus (plus (powBase w a e (Ar.mulN (Ar.mulN (Ar.powN a v) (Ar.powN a v)) a)) x0) x1 (by rw [size_plus, powBase_size]; omega))).trans' (kpAt_plus (plus (plus (powBase w a e (Ar.mulN (Ar.mulN (Ar.powN a v) (Ar.powN a v)) a)) x0) x1) x2 (by rw [size_plus, size_plus, powBase_size]; omega)), ⟨⟨x0.blocks ++ (x1.blocks ++ x2.blocks), x2.draws⟩, by rw [HS.out, pow_odd, plus_plus, plus_plus]⟩⟩
  case done =>
    rintro D ys _ hD rfl ⟨x0, rfl⟩ hK
    rw [sayB_all e h256] at *
    have hD' : w.heap.size + 1 + 1 + 1 + 1 + 1 ≤ D := by simpa using hD
    unfold powBase at hK ⊢
    gi_wp2
    have hK' := (plus_beyond ((((w.alloc (.cells (wordsOf a) 24)).alloc (.cells (wordsOf e) 24)).alloc (.cells (wordsOf (Ar.powN a e)) 24)).alloc (.cells (wordsOf (Ar.powN a e)) 24) |>.alloc (.cells (wordsOf e) 24)) _ x0 D (by simp) (by simpa using hD')).trans hK
    refine ⟨by simp, .inl ⟨_, _, rfl, run_takeDeferred hK', ?_⟩⟩
    obtain ⟨y, hy⟩ := put_beyond ((((w.alloc (.cells (wordsOf a) 24)).alloc (.cells (wordsOf e) 24)).alloc (.cells (wordsOf (Ar.powN a e)) 24)).alloc (.cells (wordsOf (Ar.powN a e)) 24) |>.alloc (.cells (wordsOf e) 24)) x0 D (.deferred none) (by simpa using hD')
    rw [hy]
    refine ⟨numV (Ar.powN a e), by simp [results, Try.results50, go_sem], rfl, ?_⟩
    repeat (first | exact Below.refl _ _ | refine Below.setCell ?_ (by first | (simp; done) | (simp; omega) | (simp [size_plus]; done) | (simp [size_plus]; omega)) _ | refine Below.alloc ?_ (by first | (simp; done) | (simp; omega) | (simp [size_plus]; done) | (simp [size_plus]; omega)) _ | refine Below.drew ?_ | refine Below.plus ?_ (by first | (simp; done) | (simp; omega) | (simp [size_plus]; done) | (simp [size_plus]; omega)) _)
  case stop =>
    rintro D c pre W _ _ h _
    exact h.elim
end Go.Proofs.Ytihbjlpohjohpaa

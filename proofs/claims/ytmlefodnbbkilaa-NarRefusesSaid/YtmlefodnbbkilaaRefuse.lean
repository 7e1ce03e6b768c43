/- Walks: NarRefuses. -/
import Derived.Test.YtmlefodnbbkilaaRefuse0
namespace Go.Proofs.Ytmlefodnbbkilaa
open Go.RowKit

set_option maxRecDepth 100000 in
theorem nodeB_any (s : Bs) (k : Int) (W : World) : Calls Try.prog 16 #[strV s, .int .i64 k] W fun e w' => e = .returned (ndV (nN s k)) ∧ Below W.heap.size W w' := by
  have hb : Below W.heap.size W (W.alloc (.cells #[strV s, .int .i64 k, strV []] 37)) := (Below.refl _ W).alloc (Nat.le_refl _) _
  have HB := Lib.hid hb
  clear hb
  go_enter Try.func16, Try.ntmps16
  go_wp2_with fail
  exact bodyPost_ret (v := ndV (nN s k)) (by simp [results, Try.results16, go_sem, ndV, nN]) rfl ⟨rfl, HB.out⟩

def backB (ops : Array Oper) : Bool := (List.range ops.size).all fun i => match ops[i]? with
  | some o => o.guard.isNone && o.after.all fun e => !Region.binds .any e || decide (e.on < i)
  | none => true
theorem backB_at {ops : Array Oper} (h : backB ops = true) {i : Nat} {o : Oper} (ho : ops[i]? = some o) : o.guard = none ∧ ∀ e ∈ o.after, Region.binds .any e = true → e.on < i := by
  have := List.all_eq_true.1 h i (List.mem_range.2 (Array.getElem?_eq_some_iff.1 ho).1)
  rw [ho] at this
  simp only [Bool.and_eq_true, Option.isNone_iff_eq_none] at this
  refine ⟨this.1, fun e he hb => ?_⟩
  have h2 := (Array.all_eq_true'.1 this.2) e he
  simpa [hb] using h2
theorem region4 {id : Nat} {Q : Exit → Act → World → Prop} {a : Act} {W : World} {ops : Array Oper} (p3 p4 : Value) (hlen : ops.size = 48) (hm : a.tmps.size = 86) (h3 : a.tmps.getD 3 undef = p3) (h4 : a.tmps.getD 4 undef = p4)
    (hB : backB ops = true)
    (hstep : ∀ (a0 : Act), a0.tmps.getD 3 undef = p3 → a0.tmps.getD 4 undef = p4 → ∀ (listed : Array Bool) (a : Act) (w : World) (i : Nat) (o : Oper), Inv4 W a0 listed a w → i < 48 → ops[i]? = some o → (∀ e ∈ o.after, Region.binds .any e = true → listed.getD e.on false = true) → o.wp Try.prog a w (Inv4 W a0 (listed.setIfInBounds i true)) Q)
    (hend : ∀ (a' : Act) (w : World), a'.defers = a.defers → a'.tmps.size = 86 → Below W.heap.size W w → (∀ t, t ≠ 5 → (t < 11 ∨ 57 < t) → a'.tmps.getD t undef = a.tmps.getD t undef) → Holds (.rows badL) (a'.tmps.getD 5 undef) w → Q .normal a' w) :
    (Code.region id ops true).wp Try.prog Q a W := by
  refine wp_region_keep (Inv := Inv4 W a) mixed (fun i o ho => (backB_at hB ho).2) (fun i o ho => (backB_at hB ho).1) ⟨rfl, hm, (Below.refl _ W).drew, fun _ _ _ => rfl, fun i _ hl => ?_⟩ (fun listed a' w i o H hs hi ho hall => hstep a h3 h4 listed a' w i o H (by omega) ho hall) (fun listed a' w H hl => ?_)
  · rw [getD_replicate_false] at hl
    cases hl
  · exact hend a' w H.defers H.size H.below H.old (H.has 47 (by omega) (hl 47 (by omega)))

set_option maxRecDepth 100000 in
set_option maxHeartbeats 2000000 in
theorem narRefuses_any (wh : Nat) (hw : wh ≤ 255) (W : World) :
    Calls Try.prog 4 #[.int .u8 wh] W fun e w' => e = .returned (.bool true) ∧ Below W.heap.size W w' := by
  have HAW := Lib.hid awake_any
  go_enter Try.func4, Try.ntmps4
  go_upto_region 3 with fail
  obtain ⟨V, hV⟩ : ∃ V, ((W.alloc (.cells #[strV [], .int .i64 1, strV []] 37)).alloc (.cells #[strV [], .int .i64 4, strV []] 37)) = V := ⟨_, rfl⟩
  have hb : Below W.heap.size W V := by rw [← hV]; exact ((Below.refl _ W).alloc (Nat.le_refl _) _).alloc (by simp) _
  have x4 := new_at (W.alloc (.cells #[strV [], .int .i64 1, strV []] 37)) (.cells #[strV [], .int .i64 4, strV []] 37)
  have x3 := keeps_below (new_at W (.cells #[strV [], .int .i64 1, strV []] 37)) ((Below.refl _ (W.alloc (.cells #[strV [], .int .i64 1, strV []] 37))).alloc (Nat.le_refl _) (.cells #[strV [], .int .i64 4, strV []] 37))
  rw [World.size_alloc] at x4
  rw [hV] at x3 x4 ⊢
  clear hV
  refine region4 (.pointer (some ⟨W.heap.size, 0, none⟩)) (.pointer (some ⟨W.heap.size + 1, 0, none⟩)) rfl rfl rfl rfl (by kernel_rfl) ?_ ?_
  · intro a0 h3 h4 listed a w i o H hi ho hall
    match i, hi with
    | 0, hi =>
      obtain rfl := Option.some.inj ho
      unfold Oper.wp
      simp [execOp, go_sem]
      exact H.put hi rfl (Below.refl _ _) rfl
    | 1, hi =>
      obtain rfl := Option.some.inj ho
      have q0 : a.tmps[11]?.getD undef = .agg #[.string ⟨#[97]⟩, .int .i64 1, .string ⟨#[]⟩] := by rw [tmpD]; exact H.val 0 _ (by decide) (hall ⟨0, .data⟩ (by simp) rfl) rfl 11 rfl
      unfold Oper.wp
      simp [execOp, go_sem, q0]
      exact H.put hi rfl ((Below.refl _ w).alloc (Nat.le_refl _) _) (nin_new w (badL.getD 1 []) _ rfl)
    | 2, hi =>
      obtain rfl := Option.some.inj ho
      unfold Oper.wp
      have q : a.tmps[3]?.getD undef = .pointer (some ⟨W.heap.size, 0, none⟩) := by rw [tmpD, H.old 3 (by decide) (by decide)]; exact h3
      obtain ⟨k0, k1, k2, -⟩ := box3 (keeps_below x3 H.below)
      simp [execOp, go_sem, q, k0, k1, k2]
      exact H.put hi rfl (Below.refl _ _) rfl
    | 3, hi =>
      obtain rfl := Option.some.inj ho
      unfold Oper.wp
      simp [execOp, go_sem]
      refine (nodeB_any [97] 1 w).mono ?_
      rintro _ w' ⟨rfl, hb'⟩
      exact H.put hi rfl hb' rfl
    | 4, hi =>
      obtain rfl := Option.some.inj ho
      have q2 : a.tmps[13]?.getD undef = .agg #[.string ⟨#[]⟩, .int .i64 1, .string ⟨#[]⟩] := by rw [tmpD]; exact H.val 2 _ (by decide) (hall ⟨2, .data⟩ (by simp) rfl) rfl 13 rfl
      have q3 : a.tmps[14]?.getD undef = .agg #[.string ⟨#[97]⟩, .int .i64 1, .string ⟨#[]⟩] := by rw [tmpD]; exact H.val 3 _ (by decide) (hall ⟨3, .data⟩ (by simp) rfl) rfl 14 rfl
      unfold Oper.wp
      simp [execOp, go_sem, q2, q3]
      exact H.put hi rfl ((Below.refl _ w).alloc (Nat.le_refl _) _) (nin_new w (badL.getD 2 []) _ rfl)
    | 5, hi =>
      obtain rfl := Option.some.inj ho
      unfold Oper.wp
      have q : a.tmps[4]?.getD undef = .pointer (some ⟨W.heap.size + 1, 0, none⟩) := by rw [tmpD, H.old 4 (by decide) (by decide)]; exact h4
      obtain ⟨k0, k1, k2, -⟩ := box3 (keeps_below x4 H.below)
      simp [execOp, go_sem, q, k0, k1, k2]
      exact H.put hi rfl (Below.refl _ _) rfl
    | 6, hi =>
      obtain rfl := Option.some.inj ho
      unfold Oper.wp
      simp [execOp, go_sem]
      refine (nodeB_any [98] 1 w).mono ?_
      rintro _ w' ⟨rfl, hb'⟩
      exact H.put hi rfl hb' rfl
    | 7, hi =>
      obtain rfl := Option.some.inj ho
      unfold Oper.wp
      simp [execOp, go_sem]
      refine (nodeB_any [97] 1 w).mono ?_
      rintro _ w' ⟨rfl, hb'⟩
      exact H.put hi rfl hb' rfl
    | 8, hi =>
      obtain rfl := Option.some.inj ho
      have q5 : a.tmps[16]?.getD undef = .agg #[.string ⟨#[]⟩, .int .i64 4, .string ⟨#[]⟩] := by rw [tmpD]; exact H.val 5 _ (by decide) (hall ⟨5, .data⟩ (by simp) rfl) rfl 16 rfl
      have q6 : a.tmps[17]?.getD undef = .agg #[.string ⟨#[98]⟩, .int .i64 1, .string ⟨#[]⟩] := by rw [tmpD]; exact H.val 6 _ (by decide) (hall ⟨6, .data⟩ (by simp) rfl) rfl 17 rfl
      have q7 : a.tmps[18]?.getD undef = .agg #[.string ⟨#[97]⟩, .int .i64 1, .string ⟨#[]⟩] := by rw [tmpD]; exact H.val 7 _ (by decide) (hall ⟨7, .data⟩ (by simp) rfl) rfl 18 rfl
      unfold Oper.wp
      simp [execOp, go_sem, q5, q6, q7]
      exact H.put hi rfl ((Below.refl _ w).alloc (Nat.le_refl _) _) (nin_new w (badL.getD 3 []) _ rfl)
    | 9, hi =>
      obtain rfl := Option.some.inj ho
      unfold Oper.wp
      have q : a.tmps[4]?.getD undef = .pointer (some ⟨W.heap.size + 1, 0, none⟩) := by rw [tmpD, H.old 4 (by decide) (by decide)]; exact h4
      obtain ⟨k0, k1, k2, -⟩ := box3 (keeps_below x4 H.below)
      simp [execOp, go_sem, q, k0, k1, k2]
      exact H.put hi rfl (Below.refl _ _) rfl
    | 10, hi =>
      obtain rfl := Option.some.inj ho
      unfold Oper.wp
      simp [execOp, go_sem]
      refine (nodeB_any [97] 1 w).mono ?_
      rintro _ w' ⟨rfl, hb'⟩
      exact H.put hi rfl hb' rfl
    | 11, hi =>
      obtain rfl := Option.some.inj ho
      unfold Oper.wp
      simp [execOp, go_sem]
      refine (nodeB_any [97] 1 w).mono ?_
      rintro _ w' ⟨rfl, hb'⟩
      exact H.put hi rfl hb' rfl
    | 12, hi =>
      obtain rfl := Option.some.inj ho
      have q9 : a.tmps[20]?.getD undef = .agg #[.string ⟨#[]⟩, .int .i64 4, .string ⟨#[]⟩] := by rw [tmpD]; exact H.val 9 _ (by decide) (hall ⟨9, .data⟩ (by simp) rfl) rfl 20 rfl
      have q10 : a.tmps[21]?.getD undef = .agg #[.string ⟨#[97]⟩, .int .i64 1, .string ⟨#[]⟩] := by rw [tmpD]; exact H.val 10 _ (by decide) (hall ⟨10, .data⟩ (by simp) rfl) rfl 21 rfl
      have q11 : a.tmps[22]?.getD undef = .agg #[.string ⟨#[97]⟩, .int .i64 1, .string ⟨#[]⟩] := by rw [tmpD]; exact H.val 11 _ (by decide) (hall ⟨11, .data⟩ (by simp) rfl) rfl 22 rfl
      unfold Oper.wp
      simp [execOp, go_sem, q9, q10, q11]
      exact H.put hi rfl ((Below.refl _ w).alloc (Nat.le_refl _) _) (nin_new w (badL.getD 4 []) _ rfl)
    | 13, hi =>
      obtain rfl := Option.some.inj ho
      unfold Oper.wp
      have q : a.tmps[4]?.getD undef = .pointer (some ⟨W.heap.size + 1, 0, none⟩) := by rw [tmpD, H.old 4 (by decide) (by decide)]; exact h4
      obtain ⟨k0, k1, k2, -⟩ := box3 (keeps_below x4 H.below)
      simp [execOp, go_sem, q, k0, k1, k2]
      exact H.put hi rfl (Below.refl _ _) rfl
    | 14, hi =>
      obtain rfl := Option.some.inj ho
      unfold Oper.wp
      simp [execOp, go_sem]
      refine (nodeB_any [97, 47, 98] 1 w).mono ?_
      rintro _ w' ⟨rfl, hb'⟩
      exact H.put hi rfl hb' rfl
    | 15, hi =>
      obtain rfl := Option.some.inj ho
      have q13 : a.tmps[24]?.getD undef = .agg #[.string ⟨#[]⟩, .int .i64 4, .string ⟨#[]⟩] := by rw [tmpD]; exact H.val 13 _ (by decide) (hall ⟨13, .data⟩ (by simp) rfl) rfl 24 rfl
      have q14 : a.tmps[25]?.getD undef = .agg #[.string ⟨#[97, 47, 98]⟩, .int .i64 1, .string ⟨#[]⟩] := by rw [tmpD]; exact H.val 14 _ (by decide) (hall ⟨14, .data⟩ (by simp) rfl) rfl 25 rfl
      unfold Oper.wp
      simp [execOp, go_sem, q13, q14]
      exact H.put hi rfl ((Below.refl _ w).alloc (Nat.le_refl _) _) (nin_new w (badL.getD 5 []) _ rfl)
    | 16, hi =>
      obtain rfl := Option.some.inj ho
      unfold Oper.wp
      have q : a.tmps[4]?.getD undef = .pointer (some ⟨W.heap.size + 1, 0, none⟩) := by rw [tmpD, H.old 4 (by decide) (by decide)]; exact h4
      obtain ⟨k0, k1, k2, -⟩ := box3 (keeps_below x4 H.below)
      simp [execOp, go_sem, q, k0, k1, k2]
      exact H.put hi rfl (Below.refl _ _) rfl
    | 17, hi =>
      obtain rfl := Option.some.inj ho
      unfold Oper.wp
      simp [execOp, go_sem]
      refine (nodeB_any [97] 1 w).mono ?_
      rintro _ w' ⟨rfl, hb'⟩
      exact H.put hi rfl hb' rfl
    | 18, hi =>
      obtain rfl := Option.some.inj ho
      unfold Oper.wp
      simp [execOp, go_sem]
      refine (nodeB_any [97, 47, 98] 1 w).mono ?_
      rintro _ w' ⟨rfl, hb'⟩
      exact H.put hi rfl hb' rfl
    | 19, hi =>
      obtain rfl := Option.some.inj ho
      have q16 : a.tmps[27]?.getD undef = .agg #[.string ⟨#[]⟩, .int .i64 4, .string ⟨#[]⟩] := by rw [tmpD]; exact H.val 16 _ (by decide) (hall ⟨16, .data⟩ (by simp) rfl) rfl 27 rfl
      have q17 : a.tmps[28]?.getD undef = .agg #[.string ⟨#[97]⟩, .int .i64 1, .string ⟨#[]⟩] := by rw [tmpD]; exact H.val 17 _ (by decide) (hall ⟨17, .data⟩ (by simp) rfl) rfl 28 rfl
      have q18 : a.tmps[29]?.getD undef = .agg #[.string ⟨#[97, 47, 98]⟩, .int .i64 1, .string ⟨#[]⟩] := by rw [tmpD]; exact H.val 18 _ (by decide) (hall ⟨18, .data⟩ (by simp) rfl) rfl 29 rfl
      unfold Oper.wp
      simp [execOp, go_sem, q16, q17, q18]
      exact H.put hi rfl ((Below.refl _ w).alloc (Nat.le_refl _) _) (nin_new w (badL.getD 6 []) _ rfl)
    | 20, hi =>
      obtain rfl := Option.some.inj ho
      unfold Oper.wp
      have q : a.tmps[4]?.getD undef = .pointer (some ⟨W.heap.size + 1, 0, none⟩) := by rw [tmpD, H.old 4 (by decide) (by decide)]; exact h4
      obtain ⟨k0, k1, k2, -⟩ := box3 (keeps_below x4 H.below)
      simp [execOp, go_sem, q, k0, k1, k2]
      exact H.put hi rfl (Below.refl _ _) rfl
    | 21, hi =>
      obtain rfl := Option.some.inj ho
      unfold Oper.wp
      simp [execOp, go_sem]
      refine (nodeB_any [46, 46] 1 w).mono ?_
      rintro _ w' ⟨rfl, hb'⟩
      exact H.put hi rfl hb' rfl
    | 22, hi =>
      obtain rfl := Option.some.inj ho
      have q20 : a.tmps[31]?.getD undef = .agg #[.string ⟨#[]⟩, .int .i64 4, .string ⟨#[]⟩] := by rw [tmpD]; exact H.val 20 _ (by decide) (hall ⟨20, .data⟩ (by simp) rfl) rfl 31 rfl
      have q21 : a.tmps[32]?.getD undef = .agg #[.string ⟨#[46, 46]⟩, .int .i64 1, .string ⟨#[]⟩] := by rw [tmpD]; exact H.val 21 _ (by decide) (hall ⟨21, .data⟩ (by simp) rfl) rfl 32 rfl
      unfold Oper.wp
      simp [execOp, go_sem, q20, q21]
      exact H.put hi rfl ((Below.refl _ w).alloc (Nat.le_refl _) _) (nin_new w (badL.getD 7 []) _ rfl)
    | 23, hi =>
      obtain rfl := Option.some.inj ho
      unfold Oper.wp
      have q : a.tmps[4]?.getD undef = .pointer (some ⟨W.heap.size + 1, 0, none⟩) := by rw [tmpD, H.old 4 (by decide) (by decide)]; exact h4
      obtain ⟨k0, k1, k2, -⟩ := box3 (keeps_below x4 H.below)
      simp [execOp, go_sem, q, k0, k1, k2]
      exact H.put hi rfl (Below.refl _ _) rfl
    | 24, hi =>
      obtain rfl := Option.some.inj ho
      unfold Oper.wp
      simp [execOp, go_sem]
      refine (nodeB_any [97] 3 w).mono ?_
      rintro _ w' ⟨rfl, hb'⟩
      exact H.put hi rfl hb' rfl
    | 25, hi =>
      obtain rfl := Option.some.inj ho
      have q23 : a.tmps[34]?.getD undef = .agg #[.string ⟨#[]⟩, .int .i64 4, .string ⟨#[]⟩] := by rw [tmpD]; exact H.val 23 _ (by decide) (hall ⟨23, .data⟩ (by simp) rfl) rfl 34 rfl
      have q24 : a.tmps[35]?.getD undef = .agg #[.string ⟨#[97]⟩, .int .i64 3, .string ⟨#[]⟩] := by rw [tmpD]; exact H.val 24 _ (by decide) (hall ⟨24, .data⟩ (by simp) rfl) rfl 35 rfl
      unfold Oper.wp
      simp [execOp, go_sem, q23, q24]
      exact H.put hi rfl ((Below.refl _ w).alloc (Nat.le_refl _) _) (nin_new w (badL.getD 8 []) _ rfl)
    | 26, hi =>
      obtain rfl := Option.some.inj ho
      unfold Oper.wp
      simp [execOp, go_sem]
      exact H.put hi rfl (Below.refl _ _) rfl
    | 27, hi =>
      obtain rfl := Option.some.inj ho
      have q26 : a.tmps[37]?.getD undef = .agg #[.string ⟨#[]⟩, .int .i64 4, .string ⟨#[120]⟩] := by rw [tmpD]; exact H.val 26 _ (by decide) (hall ⟨26, .data⟩ (by simp) rfl) rfl 37 rfl
      unfold Oper.wp
      simp [execOp, go_sem, q26]
      exact H.put hi rfl ((Below.refl _ w).alloc (Nat.le_refl _) _) (nin_new w (badL.getD 9 []) _ rfl)
    | 28, hi =>
      obtain rfl := Option.some.inj ho
      unfold Oper.wp
      simp [execOp, go_sem]
      exact H.put hi rfl (Below.refl _ _) rfl
    | 29, hi =>
      obtain rfl := Option.some.inj ho
      have q28 : a.tmps[39]?.getD undef = .agg #[.string ⟨#[]⟩, .int .i64 5, .string ⟨#[]⟩] := by rw [tmpD]; exact H.val 28 _ (by decide) (hall ⟨28, .data⟩ (by simp) rfl) rfl 39 rfl
      unfold Oper.wp
      simp [execOp, go_sem, q28]
      exact H.put hi rfl ((Below.refl _ w).alloc (Nat.le_refl _) _) (nin_new w (badL.getD 10 []) _ rfl)
    | 30, hi =>
      obtain rfl := Option.some.inj ho
      unfold Oper.wp
      have q : a.tmps[4]?.getD undef = .pointer (some ⟨W.heap.size + 1, 0, none⟩) := by rw [tmpD, H.old 4 (by decide) (by decide)]; exact h4
      obtain ⟨k0, k1, k2, -⟩ := box3 (keeps_below x4 H.below)
      simp [execOp, go_sem, q, k0, k1, k2]
      exact H.put hi rfl (Below.refl _ _) rfl
    | 31, hi =>
      obtain rfl := Option.some.inj ho
      unfold Oper.wp
      simp [execOp, go_sem]
      refine (nodeB_any [97] 4 w).mono ?_
      rintro _ w' ⟨rfl, hb'⟩
      exact H.put hi rfl hb' rfl
    | 32, hi =>
      obtain rfl := Option.some.inj ho
      unfold Oper.wp
      simp [execOp, go_sem]
      refine (nodeB_any [98] 4 w).mono ?_
      rintro _ w' ⟨rfl, hb'⟩
      exact H.put hi rfl hb' rfl
    | 33, hi =>
      obtain rfl := Option.some.inj ho
      unfold Oper.wp
      simp [execOp, go_sem]
      refine (nodeB_any [97, 47, 99] 1 w).mono ?_
      rintro _ w' ⟨rfl, hb'⟩
      exact H.put hi rfl hb' rfl
    | 34, hi =>
      obtain rfl := Option.some.inj ho
      have q30 : a.tmps[41]?.getD undef = .agg #[.string ⟨#[]⟩, .int .i64 4, .string ⟨#[]⟩] := by rw [tmpD]; exact H.val 30 _ (by decide) (hall ⟨30, .data⟩ (by simp) rfl) rfl 41 rfl
      have q31 : a.tmps[42]?.getD undef = .agg #[.string ⟨#[97]⟩, .int .i64 4, .string ⟨#[]⟩] := by rw [tmpD]; exact H.val 31 _ (by decide) (hall ⟨31, .data⟩ (by simp) rfl) rfl 42 rfl
      have q32 : a.tmps[43]?.getD undef = .agg #[.string ⟨#[98]⟩, .int .i64 4, .string ⟨#[]⟩] := by rw [tmpD]; exact H.val 32 _ (by decide) (hall ⟨32, .data⟩ (by simp) rfl) rfl 43 rfl
      have q33 : a.tmps[44]?.getD undef = .agg #[.string ⟨#[97, 47, 99]⟩, .int .i64 1, .string ⟨#[]⟩] := by rw [tmpD]; exact H.val 33 _ (by decide) (hall ⟨33, .data⟩ (by simp) rfl) rfl 44 rfl
      unfold Oper.wp
      simp [execOp, go_sem, q30, q31, q32, q33]
      exact H.put hi rfl ((Below.refl _ w).alloc (Nat.le_refl _) _) (nin_new w (badL.getD 11 []) _ rfl)
    | 35, hi =>
      obtain rfl := Option.some.inj ho
      unfold Oper.wp
      have q : a.tmps[4]?.getD undef = .pointer (some ⟨W.heap.size + 1, 0, none⟩) := by rw [tmpD, H.old 4 (by decide) (by decide)]; exact h4
      obtain ⟨k0, k1, k2, -⟩ := box3 (keeps_below x4 H.below)
      simp [execOp, go_sem, q, k0, k1, k2]
      exact H.put hi rfl (Below.refl _ _) rfl
    | 36, hi =>
      obtain rfl := Option.some.inj ho
      unfold Oper.wp
      simp [execOp, go_sem]
      refine (nodeB_any [97, 0] 1 w).mono ?_
      rintro _ w' ⟨rfl, hb'⟩
      exact H.put hi rfl hb' rfl
    | 37, hi =>
      obtain rfl := Option.some.inj ho
      have q35 : a.tmps[46]?.getD undef = .agg #[.string ⟨#[]⟩, .int .i64 4, .string ⟨#[]⟩] := by rw [tmpD]; exact H.val 35 _ (by decide) (hall ⟨35, .data⟩ (by simp) rfl) rfl 46 rfl
      have q36 : a.tmps[47]?.getD undef = .agg #[.string ⟨#[97, 0]⟩, .int .i64 1, .string ⟨#[]⟩] := by rw [tmpD]; exact H.val 36 _ (by decide) (hall ⟨36, .data⟩ (by simp) rfl) rfl 47 rfl
      unfold Oper.wp
      simp [execOp, go_sem, q35, q36]
      exact H.put hi rfl ((Below.refl _ w).alloc (Nat.le_refl _) _) (nin_new w (badL.getD 12 []) _ rfl)
    | 38, hi =>
      obtain rfl := Option.some.inj ho
      unfold Oper.wp
      simp [execOp, go_sem]
      exact H.put hi rfl (Below.refl _ _) rfl
    | 39, hi =>
      obtain rfl := Option.some.inj ho
      have q38 : a.tmps[49]?.getD undef = .agg #[.string ⟨#[]⟩, .int .i64 3, .string ⟨#[0]⟩] := by rw [tmpD]; exact H.val 38 _ (by decide) (hall ⟨38, .data⟩ (by simp) rfl) rfl 49 rfl
      unfold Oper.wp
      simp [execOp, go_sem, q38]
      exact H.put hi rfl ((Below.refl _ w).alloc (Nat.le_refl _) _) (nin_new w (badL.getD 13 []) _ rfl)
    | 40, hi =>
      obtain rfl := Option.some.inj ho
      unfold Oper.wp
      have q : a.tmps[4]?.getD undef = .pointer (some ⟨W.heap.size + 1, 0, none⟩) := by rw [tmpD, H.old 4 (by decide) (by decide)]; exact h4
      obtain ⟨k0, k1, k2, -⟩ := box3 (keeps_below x4 H.below)
      simp [execOp, go_sem, q, k0, k1, k2]
      exact H.put hi rfl (Below.refl _ _) rfl
    | 41, hi =>
      obtain rfl := Option.some.inj ho
      unfold Oper.wp
      simp [execOp, go_sem]
      refine (nodeB_any [] 1 w).mono ?_
      rintro _ w' ⟨rfl, hb'⟩
      exact H.put hi rfl hb' rfl
    | 42, hi =>
      obtain rfl := Option.some.inj ho
      have q40 : a.tmps[51]?.getD undef = .agg #[.string ⟨#[]⟩, .int .i64 4, .string ⟨#[]⟩] := by rw [tmpD]; exact H.val 40 _ (by decide) (hall ⟨40, .data⟩ (by simp) rfl) rfl 51 rfl
      have q41 : a.tmps[52]?.getD undef = .agg #[.string ⟨#[]⟩, .int .i64 1, .string ⟨#[]⟩] := by rw [tmpD]; exact H.val 41 _ (by decide) (hall ⟨41, .data⟩ (by simp) rfl) rfl 52 rfl
      unfold Oper.wp
      simp [execOp, go_sem, q40, q41]
      exact H.put hi rfl ((Below.refl _ w).alloc (Nat.le_refl _) _) (nin_new w (badL.getD 14 []) _ rfl)
    | 43, hi =>
      obtain rfl := Option.some.inj ho
      unfold Oper.wp
      have q : a.tmps[4]?.getD undef = .pointer (some ⟨W.heap.size + 1, 0, none⟩) := by rw [tmpD, H.old 4 (by decide) (by decide)]; exact h4
      obtain ⟨k0, k1, k2, -⟩ := box3 (keeps_below x4 H.below)
      simp [execOp, go_sem, q, k0, k1, k2]
      exact H.put hi rfl (Below.refl _ _) rfl
    | 44, hi =>
      obtain rfl := Option.some.inj ho
      unfold Oper.wp
      simp [execOp, go_sem]
      refine (nodeB_any [47, 97] 1 w).mono ?_
      rintro _ w' ⟨rfl, hb'⟩
      exact H.put hi rfl hb' rfl
    | 45, hi =>
      obtain rfl := Option.some.inj ho
      have q43 : a.tmps[54]?.getD undef = .agg #[.string ⟨#[]⟩, .int .i64 4, .string ⟨#[]⟩] := by rw [tmpD]; exact H.val 43 _ (by decide) (hall ⟨43, .data⟩ (by simp) rfl) rfl 54 rfl
      have q44 : a.tmps[55]?.getD undef = .agg #[.string ⟨#[47, 97]⟩, .int .i64 1, .string ⟨#[]⟩] := by rw [tmpD]; exact H.val 44 _ (by decide) (hall ⟨44, .data⟩ (by simp) rfl) rfl 55 rfl
      unfold Oper.wp
      simp [execOp, go_sem, q43, q44]
      exact H.put hi rfl ((Below.refl _ w).alloc (Nat.le_refl _) _) (nin_new w (badL.getD 15 []) _ rfl)
    | 46, hi =>
      obtain rfl := Option.some.inj ho
      obtain ⟨u1, q1, n1⟩ := H.row 1 (badL.getD 1 []) (by decide) (hall ⟨1, .data⟩ (by simp) rfl) rfl 12 rfl
      obtain ⟨A1, c1, rfl⟩ := n1.form
      obtain ⟨N1, hN1⟩ : ∃ N, (badL.getD 1 []).length = N := ⟨_, rfl⟩
      rw [hN1] at q1 n1
      have e1 := (tmpD a 12).trans q1
      obtain ⟨u2, q2, n2⟩ := H.row 4 (badL.getD 2 []) (by decide) (hall ⟨4, .data⟩ (by simp) rfl) rfl 15 rfl
      obtain ⟨A2, c2, rfl⟩ := n2.form
      obtain ⟨N2, hN2⟩ : ∃ N, (badL.getD 2 []).length = N := ⟨_, rfl⟩
      rw [hN2] at q2 n2
      have e2 := (tmpD a 15).trans q2
      obtain ⟨u3, q3, n3⟩ := H.row 8 (badL.getD 3 []) (by decide) (hall ⟨8, .data⟩ (by simp) rfl) rfl 19 rfl
      obtain ⟨A3, c3, rfl⟩ := n3.form
      obtain ⟨N3, hN3⟩ : ∃ N, (badL.getD 3 []).length = N := ⟨_, rfl⟩
      rw [hN3] at q3 n3
      have e3 := (tmpD a 19).trans q3
      obtain ⟨u4, q4, n4⟩ := H.row 12 (badL.getD 4 []) (by decide) (hall ⟨12, .data⟩ (by simp) rfl) rfl 23 rfl
      obtain ⟨A4, c4, rfl⟩ := n4.form
      obtain ⟨N4, hN4⟩ : ∃ N, (badL.getD 4 []).length = N := ⟨_, rfl⟩
      rw [hN4] at q4 n4
      have e4 := (tmpD a 23).trans q4
      obtain ⟨u5, q5, n5⟩ := H.row 15 (badL.getD 5 []) (by decide) (hall ⟨15, .data⟩ (by simp) rfl) rfl 26 rfl
      obtain ⟨A5, c5, rfl⟩ := n5.form
      obtain ⟨N5, hN5⟩ : ∃ N, (badL.getD 5 []).length = N := ⟨_, rfl⟩
      rw [hN5] at q5 n5
      have e5 := (tmpD a 26).trans q5
      obtain ⟨u6, q6, n6⟩ := H.row 19 (badL.getD 6 []) (by decide) (hall ⟨19, .data⟩ (by simp) rfl) rfl 30 rfl
      obtain ⟨A6, c6, rfl⟩ := n6.form
      obtain ⟨N6, hN6⟩ : ∃ N, (badL.getD 6 []).length = N := ⟨_, rfl⟩
      rw [hN6] at q6 n6
      have e6 := (tmpD a 30).trans q6
      obtain ⟨u7, q7, n7⟩ := H.row 22 (badL.getD 7 []) (by decide) (hall ⟨22, .data⟩ (by simp) rfl) rfl 33 rfl
      obtain ⟨A7, c7, rfl⟩ := n7.form
      obtain ⟨N7, hN7⟩ : ∃ N, (badL.getD 7 []).length = N := ⟨_, rfl⟩
      rw [hN7] at q7 n7
      have e7 := (tmpD a 33).trans q7
      obtain ⟨u8, q8, n8⟩ := H.row 25 (badL.getD 8 []) (by decide) (hall ⟨25, .data⟩ (by simp) rfl) rfl 36 rfl
      obtain ⟨A8, c8, rfl⟩ := n8.form
      obtain ⟨N8, hN8⟩ : ∃ N, (badL.getD 8 []).length = N := ⟨_, rfl⟩
      rw [hN8] at q8 n8
      have e8 := (tmpD a 36).trans q8
      obtain ⟨u9, q9, n9⟩ := H.row 27 (badL.getD 9 []) (by decide) (hall ⟨27, .data⟩ (by simp) rfl) rfl 38 rfl
      obtain ⟨A9, c9, rfl⟩ := n9.form
      obtain ⟨N9, hN9⟩ : ∃ N, (badL.getD 9 []).length = N := ⟨_, rfl⟩
      rw [hN9] at q9 n9
      have e9 := (tmpD a 38).trans q9
      obtain ⟨u10, q10, n10⟩ := H.row 29 (badL.getD 10 []) (by decide) (hall ⟨29, .data⟩ (by simp) rfl) rfl 40 rfl
      obtain ⟨A10, c10, rfl⟩ := n10.form
      obtain ⟨N10, hN10⟩ : ∃ N, (badL.getD 10 []).length = N := ⟨_, rfl⟩
      rw [hN10] at q10 n10
      have e10 := (tmpD a 40).trans q10
      obtain ⟨u11, q11, n11⟩ := H.row 34 (badL.getD 11 []) (by decide) (hall ⟨34, .data⟩ (by simp) rfl) rfl 45 rfl
      obtain ⟨A11, c11, rfl⟩ := n11.form
      obtain ⟨N11, hN11⟩ : ∃ N, (badL.getD 11 []).length = N := ⟨_, rfl⟩
      rw [hN11] at q11 n11
      have e11 := (tmpD a 45).trans q11
      obtain ⟨u12, q12, n12⟩ := H.row 37 (badL.getD 12 []) (by decide) (hall ⟨37, .data⟩ (by simp) rfl) rfl 48 rfl
      obtain ⟨A12, c12, rfl⟩ := n12.form
      obtain ⟨N12, hN12⟩ : ∃ N, (badL.getD 12 []).length = N := ⟨_, rfl⟩
      rw [hN12] at q12 n12
      have e12 := (tmpD a 48).trans q12
      obtain ⟨u13, q13, n13⟩ := H.row 39 (badL.getD 13 []) (by decide) (hall ⟨39, .data⟩ (by simp) rfl) rfl 50 rfl
      obtain ⟨A13, c13, rfl⟩ := n13.form
      obtain ⟨N13, hN13⟩ : ∃ N, (badL.getD 13 []).length = N := ⟨_, rfl⟩
      rw [hN13] at q13 n13
      have e13 := (tmpD a 50).trans q13
      obtain ⟨u14, q14, n14⟩ := H.row 42 (badL.getD 14 []) (by decide) (hall ⟨42, .data⟩ (by simp) rfl) rfl 53 rfl
      obtain ⟨A14, c14, rfl⟩ := n14.form
      obtain ⟨N14, hN14⟩ : ∃ N, (badL.getD 14 []).length = N := ⟨_, rfl⟩
      rw [hN14] at q14 n14
      have e14 := (tmpD a 53).trans q14
      obtain ⟨u15, q15, n15⟩ := H.row 45 (badL.getD 15 []) (by decide) (hall ⟨45, .data⟩ (by simp) rfl) rfl 56 rfl
      obtain ⟨A15, c15, rfl⟩ := n15.form
      obtain ⟨N15, hN15⟩ : ∃ N, (badL.getD 15 []).length = N := ⟨_, rfl⟩
      rw [hN15] at q15 n15
      have e15 := (tmpD a 56).trans q15
      have hb' : Below w.heap.size w (w.alloc (.cells #[.slice none 0 0, .slice A1 N1 c1, .slice A2 N2 c2, .slice A3 N3 c3, .slice A4 N4 c4, .slice A5 N5 c5, .slice A6 N6 c6, .slice A7 N7 c7, .slice A8 N8 c8, .slice A9 N9 c9, .slice A10 N10 c10, .slice A11 N11 c11, .slice A12 N12 c12, .slice A13 N13 c13, .slice A14 N14 c14, .slice A15 N15 c15] 25)) := (Below.refl _ w).alloc (Nat.le_refl _) _
      have hn := new_at w (.cells #[.slice none 0 0, .slice A1 N1 c1, .slice A2 N2 c2, .slice A3 N3 c3, .slice A4 N4 c4, .slice A5 N5 c5, .slice A6 N6 c6, .slice A7 N7 c7, .slice A8 N8 c8, .slice A9 N9 c9, .slice A10 N10 c10, .slice A11 N11 c11, .slice A12 N12 c12, .slice A13 N13 c13, .slice A14 N14 c14, .slice A15 N15 c15] 25)
      have HR : Holds (.rows badL) (.slice (some ⟨w.heap.size, 0, none⟩) 16 16) (w.alloc (.cells #[.slice none 0 0, .slice A1 N1 c1, .slice A2 N2 c2, .slice A3 N3 c3, .slice A4 N4 c4, .slice A5 N5 c5, .slice A6 N6 c6, .slice A7 N7 c7, .slice A8 N8 c8, .slice A9 N9 c9, .slice A10 N10 c10, .slice A11 N11 c11, .slice A12 N12 c12, .slice A13 N13 c13, .slice A14 N14 c14, .slice A15 N15 c15] 25)) := ⟨w.heap.size, rfl, by simp, fun j l hj => by
        have hj16 : j < 16 := (List.getElem?_eq_some_iff.1 hj).1
        match j, hj16 with
        | 0, _ =>
          obtain rfl := Option.some.inj hj
          exact ⟨.slice none 0 0, by simp only [World.cell?, hn]; rfl, .inl ⟨rfl, .inl rfl⟩⟩
        | 1, _ =>
          obtain rfl := Option.some.inj hj
          exact ⟨.slice A1 N1 c1, by simp only [World.cell?, hn]; rfl, n1.on hb'⟩
        | 2, _ =>
          obtain rfl := Option.some.inj hj
          exact ⟨.slice A2 N2 c2, by simp only [World.cell?, hn]; rfl, n2.on hb'⟩
        | 3, _ =>
          obtain rfl := Option.some.inj hj
          exact ⟨.slice A3 N3 c3, by simp only [World.cell?, hn]; rfl, n3.on hb'⟩
        | 4, _ =>
          obtain rfl := Option.some.inj hj
          exact ⟨.slice A4 N4 c4, by simp only [World.cell?, hn]; rfl, n4.on hb'⟩
        | 5, _ =>
          obtain rfl := Option.some.inj hj
          exact ⟨.slice A5 N5 c5, by simp only [World.cell?, hn]; rfl, n5.on hb'⟩
        | 6, _ =>
          obtain rfl := Option.some.inj hj
          exact ⟨.slice A6 N6 c6, by simp only [World.cell?, hn]; rfl, n6.on hb'⟩
        | 7, _ =>
          obtain rfl := Option.some.inj hj
          exact ⟨.slice A7 N7 c7, by simp only [World.cell?, hn]; rfl, n7.on hb'⟩
        | 8, _ =>
          obtain rfl := Option.some.inj hj
          exact ⟨.slice A8 N8 c8, by simp only [World.cell?, hn]; rfl, n8.on hb'⟩
        | 9, _ =>
          obtain rfl := Option.some.inj hj
          exact ⟨.slice A9 N9 c9, by simp only [World.cell?, hn]; rfl, n9.on hb'⟩
        | 10, _ =>
          obtain rfl := Option.some.inj hj
          exact ⟨.slice A10 N10 c10, by simp only [World.cell?, hn]; rfl, n10.on hb'⟩
        | 11, _ =>
          obtain rfl := Option.some.inj hj
          exact ⟨.slice A11 N11 c11, by simp only [World.cell?, hn]; rfl, n11.on hb'⟩
        | 12, _ =>
          obtain rfl := Option.some.inj hj
          exact ⟨.slice A12 N12 c12, by simp only [World.cell?, hn]; rfl, n12.on hb'⟩
        | 13, _ =>
          obtain rfl := Option.some.inj hj
          exact ⟨.slice A13 N13 c13, by simp only [World.cell?, hn]; rfl, n13.on hb'⟩
        | 14, _ =>
          obtain rfl := Option.some.inj hj
          exact ⟨.slice A14 N14 c14, by simp only [World.cell?, hn]; rfl, n14.on hb'⟩
        | 15, _ =>
          obtain rfl := Option.some.inj hj
          exact ⟨.slice A15 N15 c15, by simp only [World.cell?, hn]; rfl, n15.on hb'⟩
        | _ + 16, h => exact absurd h (by omega)⟩
      clear hn
      unfold Oper.wp
      simp [execOp, go_sem, e1, e2, e3, e4, e5, e6, e7, e8, e9, e10, e11, e12, e13, e14, e15]
      exact H.put hi rfl hb' HR
    | 47, hi =>
      obtain rfl := Option.some.inj ho
      have h46 := H.has 46 (by decide) (hall ⟨46, .data⟩ (by simp) rfl)
      unfold Oper.wp
      simp [execOp, go_sem]
      exact H.put hi rfl (Below.refl _ _) (by rw [tmpD]; exact h46)
    | _ + 48, hi => exact absurd hi (by omega)
  · intro a' w hdf hsz hbl hold hrows
    have g0 : a'.tmps.getD 0 undef = .int .u8 wh := hold 0 (by decide) (by decide)
    have g1 : a'.tmps.getD 1 undef = undef := hold 1 (by decide) (by decide)
    have g2 : a'.tmps.getD 2 undef = .bool false := hold 2 (by decide) (by decide)
    have g3 : a'.tmps.getD 3 undef = .pointer (some ⟨W.heap.size, 0, none⟩) := hold 3 (by decide) (by decide)
    have g4 : a'.tmps.getD 4 undef = .pointer (some ⟨W.heap.size + 1, 0, none⟩) := hold 4 (by decide) (by decide)
    obtain ⟨y5, g5⟩ : ∃ y, a'.tmps.getD 5 undef = y := ⟨_, rfl⟩
    have g6 : a'.tmps.getD 6 undef = undef := hold 6 (by decide) (by decide)
    have g7 : a'.tmps.getD 7 undef = undef := hold 7 (by decide) (by decide)
    have g8 : a'.tmps.getD 8 undef = undef := hold 8 (by decide) (by decide)
    have g9 : a'.tmps.getD 9 undef = .agg #[.string ⟨#[]⟩, .int .i64 1, .string ⟨#[]⟩] := hold 9 (by decide) (by decide)
    have g10 : a'.tmps.getD 10 undef = .agg #[.string ⟨#[]⟩, .int .i64 4, .string ⟨#[]⟩] := hold 10 (by decide) (by decide)
    obtain ⟨y11, g11⟩ : ∃ y, a'.tmps.getD 11 undef = y := ⟨_, rfl⟩
    obtain ⟨y12, g12⟩ : ∃ y, a'.tmps.getD 12 undef = y := ⟨_, rfl⟩
    obtain ⟨y13, g13⟩ : ∃ y, a'.tmps.getD 13 undef = y := ⟨_, rfl⟩
    obtain ⟨y14, g14⟩ : ∃ y, a'.tmps.getD 14 undef = y := ⟨_, rfl⟩
    obtain ⟨y15, g15⟩ : ∃ y, a'.tmps.getD 15 undef = y := ⟨_, rfl⟩
    obtain ⟨y16, g16⟩ : ∃ y, a'.tmps.getD 16 undef = y := ⟨_, rfl⟩
    obtain ⟨y17, g17⟩ : ∃ y, a'.tmps.getD 17 undef = y := ⟨_, rfl⟩
    obtain ⟨y18, g18⟩ : ∃ y, a'.tmps.getD 18 undef = y := ⟨_, rfl⟩
    obtain ⟨y19, g19⟩ : ∃ y, a'.tmps.getD 19 undef = y := ⟨_, rfl⟩
    obtain ⟨y20, g20⟩ : ∃ y, a'.tmps.getD 20 undef = y := ⟨_, rfl⟩
    obtain ⟨y21, g21⟩ : ∃ y, a'.tmps.getD 21 undef = y := ⟨_, rfl⟩
    obtain ⟨y22, g22⟩ : ∃ y, a'.tmps.getD 22 undef = y := ⟨_, rfl⟩
    obtain ⟨y23, g23⟩ : ∃ y, a'.tmps.getD 23 undef = y := ⟨_, rfl⟩
    obtain ⟨y24, g24⟩ : ∃ y, a'.tmps.getD 24 undef = y := ⟨_, rfl⟩
    obtain ⟨y25, g25⟩ : ∃ y, a'.tmps.getD 25 undef = y := ⟨_, rfl⟩
    obtain ⟨y26, g26⟩ : ∃ y, a'.tmps.getD 26 undef = y := ⟨_, rfl⟩
    obtain ⟨y27, g27⟩ : ∃ y, a'.tmps.getD 27 undef = y := ⟨_, rfl⟩
    obtain ⟨y28, g28⟩ : ∃ y, a'.tmps.getD 28 undef = y := ⟨_, rfl⟩
    obtain ⟨y29, g29⟩ : ∃ y, a'.tmps.getD 29 undef = y := ⟨_, rfl⟩
    obtain ⟨y30, g30⟩ : ∃ y, a'.tmps.getD 30 undef = y := ⟨_, rfl⟩
    obtain ⟨y31, g31⟩ : ∃ y, a'.tmps.getD 31 undef = y := ⟨_, rfl⟩
    obtain ⟨y32, g32⟩ : ∃ y, a'.tmps.getD 32 undef = y := ⟨_, rfl⟩
    obtain ⟨y33, g33⟩ : ∃ y, a'.tmps.getD 33 undef = y := ⟨_, rfl⟩
    obtain ⟨y34, g34⟩ : ∃ y, a'.tmps.getD 34 undef = y := ⟨_, rfl⟩
    obtain ⟨y35, g35⟩ : ∃ y, a'.tmps.getD 35 undef = y := ⟨_, rfl⟩
    obtain ⟨y36, g36⟩ : ∃ y, a'.tmps.getD 36 undef = y := ⟨_, rfl⟩
    obtain ⟨y37, g37⟩ : ∃ y, a'.tmps.getD 37 undef = y := ⟨_, rfl⟩
    obtain ⟨y38, g38⟩ : ∃ y, a'.tmps.getD 38 undef = y := ⟨_, rfl⟩
    obtain ⟨y39, g39⟩ : ∃ y, a'.tmps.getD 39 undef = y := ⟨_, rfl⟩
    obtain ⟨y40, g40⟩ : ∃ y, a'.tmps.getD 40 undef = y := ⟨_, rfl⟩
    obtain ⟨y41, g41⟩ : ∃ y, a'.tmps.getD 41 undef = y := ⟨_, rfl⟩
    obtain ⟨y42, g42⟩ : ∃ y, a'.tmps.getD 42 undef = y := ⟨_, rfl⟩
    obtain ⟨y43, g43⟩ : ∃ y, a'.tmps.getD 43 undef = y := ⟨_, rfl⟩
    obtain ⟨y44, g44⟩ : ∃ y, a'.tmps.getD 44 undef = y := ⟨_, rfl⟩
    obtain ⟨y45, g45⟩ : ∃ y, a'.tmps.getD 45 undef = y := ⟨_, rfl⟩
    obtain ⟨y46, g46⟩ : ∃ y, a'.tmps.getD 46 undef = y := ⟨_, rfl⟩
    obtain ⟨y47, g47⟩ : ∃ y, a'.tmps.getD 47 undef = y := ⟨_, rfl⟩
    obtain ⟨y48, g48⟩ : ∃ y, a'.tmps.getD 48 undef = y := ⟨_, rfl⟩
    obtain ⟨y49, g49⟩ : ∃ y, a'.tmps.getD 49 undef = y := ⟨_, rfl⟩
    obtain ⟨y50, g50⟩ : ∃ y, a'.tmps.getD 50 undef = y := ⟨_, rfl⟩
    obtain ⟨y51, g51⟩ : ∃ y, a'.tmps.getD 51 undef = y := ⟨_, rfl⟩
    obtain ⟨y52, g52⟩ : ∃ y, a'.tmps.getD 52 undef = y := ⟨_, rfl⟩
    obtain ⟨y53, g53⟩ : ∃ y, a'.tmps.getD 53 undef = y := ⟨_, rfl⟩
    obtain ⟨y54, g54⟩ : ∃ y, a'.tmps.getD 54 undef = y := ⟨_, rfl⟩
    obtain ⟨y55, g55⟩ : ∃ y, a'.tmps.getD 55 undef = y := ⟨_, rfl⟩
    obtain ⟨y56, g56⟩ : ∃ y, a'.tmps.getD 56 undef = y := ⟨_, rfl⟩
    obtain ⟨y57, g57⟩ : ∃ y, a'.tmps.getD 57 undef = y := ⟨_, rfl⟩
    have g58 : a'.tmps.getD 58 undef = undef := hold 58 (by decide) (by decide)
    have g59 : a'.tmps.getD 59 undef = undef := hold 59 (by decide) (by decide)
    have g60 : a'.tmps.getD 60 undef = undef := hold 60 (by decide) (by decide)
    have g61 : a'.tmps.getD 61 undef = undef := hold 61 (by decide) (by decide)
    have g62 : a'.tmps.getD 62 undef = undef := hold 62 (by decide) (by decide)
    have g63 : a'.tmps.getD 63 undef = undef := hold 63 (by decide) (by decide)
    have g64 : a'.tmps.getD 64 undef = undef := hold 64 (by decide) (by decide)
    have g65 : a'.tmps.getD 65 undef = undef := hold 65 (by decide) (by decide)
    have g66 : a'.tmps.getD 66 undef = undef := hold 66 (by decide) (by decide)
    have g67 : a'.tmps.getD 67 undef = undef := hold 67 (by decide) (by decide)
    have g68 : a'.tmps.getD 68 undef = undef := hold 68 (by decide) (by decide)
    have g69 : a'.tmps.getD 69 undef = undef := hold 69 (by decide) (by decide)
    have g70 : a'.tmps.getD 70 undef = undef := hold 70 (by decide) (by decide)
    have g71 : a'.tmps.getD 71 undef = undef := hold 71 (by decide) (by decide)
    have g72 : a'.tmps.getD 72 undef = undef := hold 72 (by decide) (by decide)
    have g73 : a'.tmps.getD 73 undef = undef := hold 73 (by decide) (by decide)
    have g74 : a'.tmps.getD 74 undef = undef := hold 74 (by decide) (by decide)
    have g75 : a'.tmps.getD 75 undef = undef := hold 75 (by decide) (by decide)
    have g76 : a'.tmps.getD 76 undef = undef := hold 76 (by decide) (by decide)
    have g77 : a'.tmps.getD 77 undef = undef := hold 77 (by decide) (by decide)
    have g78 : a'.tmps.getD 78 undef = undef := hold 78 (by decide) (by decide)
    have g79 : a'.tmps.getD 79 undef = undef := hold 79 (by decide) (by decide)
    have g80 : a'.tmps.getD 80 undef = undef := hold 80 (by decide) (by decide)
    have g81 : a'.tmps.getD 81 undef = undef := hold 81 (by decide) (by decide)
    have g82 : a'.tmps.getD 82 undef = undef := hold 82 (by decide) (by decide)
    have g83 : a'.tmps.getD 83 undef = undef := hold 83 (by decide) (by decide)
    have g84 : a'.tmps.getD 84 undef = undef := hold 84 (by decide) (by decide)
    have g85 : a'.tmps.getD 85 undef = undef := hold 85 (by decide) (by decide)
    rw [g5] at hrows
    have ha : a' = { tmps := #[.int .u8 wh, undef, .bool false, .pointer (some ⟨W.heap.size, 0, none⟩), .pointer (some ⟨W.heap.size + 1, 0, none⟩), y5, undef, undef, undef, .agg #[.string ⟨#[]⟩, .int .i64 1, .string ⟨#[]⟩], .agg #[.string ⟨#[]⟩, .int .i64 4, .string ⟨#[]⟩], y11, y12, y13, y14, y15, y16, y17, y18, y19, y20, y21, y22, y23, y24, y25, y26, y27, y28, y29, y30, y31, y32, y33, y34, y35, y36, y37, y38, y39, y40, y41, y42, y43, y44, y45, y46, y47, y48, y49, y50, y51, y52, y53, y54, y55, y56, y57, undef, undef, undef, undef, undef, undef, undef, undef, undef, undef, undef, undef, undef, undef, undef, undef, undef, undef, undef, undef, undef, undef, undef, undef, undef, undef, undef, undef], defers := [] } := by
      refine act_ext (by rw [hsz]; rfl) (fun t => ?_) hdf
      by_cases ht : t < 86
      · match t, ht with
        | 0, _ => exact g0
        | 1, _ => exact g1
        | 2, _ => exact g2
        | 3, _ => exact g3
        | 4, _ => exact g4
        | 5, _ => exact g5
        | 6, _ => exact g6
        | 7, _ => exact g7
        | 8, _ => exact g8
        | 9, _ => exact g9
        | 10, _ => exact g10
        | 11, _ => exact g11
        | 12, _ => exact g12
        | 13, _ => exact g13
        | 14, _ => exact g14
        | 15, _ => exact g15
        | 16, _ => exact g16
        | 17, _ => exact g17
        | 18, _ => exact g18
        | 19, _ => exact g19
        | 20, _ => exact g20
        | 21, _ => exact g21
        | 22, _ => exact g22
        | 23, _ => exact g23
        | 24, _ => exact g24
        | 25, _ => exact g25
        | 26, _ => exact g26
        | 27, _ => exact g27
        | 28, _ => exact g28
        | 29, _ => exact g29
        | 30, _ => exact g30
        | 31, _ => exact g31
        | 32, _ => exact g32
        | 33, _ => exact g33
        | 34, _ => exact g34
        | 35, _ => exact g35
        | 36, _ => exact g36
        | 37, _ => exact g37
        | 38, _ => exact g38
        | 39, _ => exact g39
        | 40, _ => exact g40
        | 41, _ => exact g41
        | 42, _ => exact g42
        | 43, _ => exact g43
        | 44, _ => exact g44
        | 45, _ => exact g45
        | 46, _ => exact g46
        | 47, _ => exact g47
        | 48, _ => exact g48
        | 49, _ => exact g49
        | 50, _ => exact g50
        | 51, _ => exact g51
        | 52, _ => exact g52
        | 53, _ => exact g53
        | 54, _ => exact g54
        | 55, _ => exact g55
        | 56, _ => exact g56
        | 57, _ => exact g57
        | 58, _ => exact g58
        | 59, _ => exact g59
        | 60, _ => exact g60
        | 61, _ => exact g61
        | 62, _ => exact g62
        | 63, _ => exact g63
        | 64, _ => exact g64
        | 65, _ => exact g65
        | 66, _ => exact g66
        | 67, _ => exact g67
        | 68, _ => exact g68
        | 69, _ => exact g69
        | 70, _ => exact g70
        | 71, _ => exact g71
        | 72, _ => exact g72
        | 73, _ => exact g73
        | 74, _ => exact g74
        | 75, _ => exact g75
        | 76, _ => exact g76
        | 77, _ => exact g77
        | 78, _ => exact g78
        | 79, _ => exact g79
        | 80, _ => exact g80
        | 81, _ => exact g81
        | 82, _ => exact g82
        | 83, _ => exact g83
        | 84, _ => exact g84
        | 85, _ => exact g85
        | _ + 86, h => exact absurd h (by omega)
      · have h1 : a'.tmps.size ≤ t := by omega
        rw [Array.getD_eq_getD_getElem?, Array.getD_eq_getD_getElem?, Array.getElem?_eq_none h1, Array.getElem?_eq_none (by show 86 ≤ t; omega)]
    clear g0 g1 g2 g3 g4 g5 g6 g7 g8 g9 g10 g11 g12 g13 g14 g15 g16 g17 g18 g19 g20 g21 g22 g23 g24 g25 g26 g27 g28 g29 g30 g31 g32 g33 g34 g35 g36 g37 g38 g39 g40 g41 g42 g43 g44 g45 g46 g47 g48 g49 g50 g51 g52 g53 g54 g55 g56 g57 g58 g59 g60 g61 g62 g63 g64 g65 g66 g67 g68 g69 g70 g71 g72 g73 g74 g75 g76 g77 g78 g79 g80 g81 g82 g83 g84 g85
    clear hold hsz hdf
    subst ha
    obtain ⟨g, rfl, hg, hrow⟩ := hrows
    rw [show badL.length = 16 from rfl]
    obtain ⟨k, hk⟩ : ∃ k, wh % 16 = k := ⟨_, rfl⟩
    have hk16 : k < 16 := by omega
    have hr1 : ((wh : Int)).tmod 16 = (k : Int) := by rw [Int.tmod_eq_emod_of_nonneg (by omega), ← hk]; rfl
    obtain ⟨u, hu, hN⟩ := hrow k (badL.getD k []) (by rw [List.getD_eq_getElem?_getD, List.getElem?_eq_getElem (show k < badL.length from hk16)]; rfl)
    obtain ⟨s1, s2⟩ := bad_small k hk16
    have hmay := bad_may k hk16
    obtain ⟨l, hl⟩ : ∃ l, badL.getD k [] = l := ⟨_, rfl⟩
    rw [hl] at hN s1 s2 hmay
    have hw0 : IntKind.i64.wrap (wh : Int) = (wh : Int) := IntWalk.i64_in _ (by omega)
    have b0 : (0 : Int) ≤ (k : Int) := by omega
    have b1 : (k : Int) < 16 := by omega
    have HB := Lib.hid (hb.trans (hbl.mono hb.size))
    have HPK := Lib.hid (pack_any cont_all hN (by omega) fun x hx => by have := s2 x hx; omega)
    rw [packL_none hmay] at HPK
    have HMY := Lib.hid fun U (hU : Below w.heap.size w U) => may_any cont_all (hN.on hU) (by omega) fun x hx => by have := s2 x hx; omega
    rw [hmay] at HMY
    have HER := Lib.hid err_any
    obtain ⟨A, vc, rfl⟩ := hN.form
    clear hk hrow hN s1 s2 hmay hl hbl hb x3 x4
    go_wp2_with fail
    refine HPK.out.mono ?_
    rintro _ V1 ⟨rfl, hb⟩
    have HB1 := Lib.hid hb
    clear hb HPK
    go_wp2_with fail
    refine (HMY.out _ HB1.out).mono ?_
    rintro _ V2 ⟨rfl, hb⟩
    have HB2 := Lib.hid (HB1.out.trans (hb.mono HB1.out.size))
    clear hb HMY
    go_wp2_with fail
    refine (HER.out _ _).mono ?_
    rintro _ _ ⟨rfl, rfl⟩
    go_wp2_with fail
    refine (HAW.out _).mono ?_
    rintro _ V3 ⟨rfl, hb⟩
    have HB3 := Lib.hid (HB.out.trans ((HB2.out.trans (hb.mono HB2.out.size)).mono HB.out.size))
    clear hb
    go_wp2_with fail
    exact bodyPost_ret (v := .bool true) (by simp [results, Try.results4, go_sem]) rfl ⟨rfl, HB3.out⟩
theorem narRefuses_row (a : Nat) (W : World) (ha : a < 256) : Ret Try.prog 4 #[.int .u8 a] W (.bool true) := .of (narRefuses_any a (by omega) W)
end Go.Proofs.Ytmlefodnbbkilaa

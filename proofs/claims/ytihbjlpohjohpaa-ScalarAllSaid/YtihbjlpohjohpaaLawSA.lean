/- ScalarAll: the walk of the law's own function. -/
import Derived.Test.YtihbjlpohjohpaaScR2
namespace Go.Proofs.Ytihbjlpohjohpaa
open Go.RowKit

/-- Two numbers that are one, compared inside a drawn region. -/
theorem headOp_eqS {W : World} {a : Act} {o : Oper} {K : Act → Prop} (i j : Nat) (h : o.op = .binOp .eql 24 (.tmp i) (.tmp j) 24) (n : Nat) (hx : a.eval (.tmp i) = numV n) (hy : a.eval (.tmp j) = numV n) (hk : K (a.put o.dst (.bool true))) : headOp Try.prog o a W K := by
  refine ⟨_, fun e => ?_, hk⟩
  obtain ⟨dst, op, type, pos, after, guard⟩ := o
  dsimp only at h
  subst h
  unfold headAt execOp
  simp only [hx, hy]
  go_simp
set_option maxRecDepth 100000 in
set_option maxHeartbeats 4000000 in
theorem scalarAll_any (l : List UInt8) (a b c : Nat) (w : World) (ha : a < B ^ 4) (hb : b < B ^ 4) (hc : c < B ^ 4) : Ret Try.prog 10 #[strV l, numV a, numV b, numV c] w (.bool true) := by
  refine Ret.of ?_
  by_cases h100 : 100 < l.length
  · have hd : decide (100 < l.length) = true := by simp [h100]
    go_enter Try.func10, Try.ntmps10
    go_wp2_with fail
    refine (awake7 _).out.mono ?_
    rintro _ _ ⟨rfl, x1, rfl⟩
    go_wp2_with fail
    refine bodyPost_ret (v := .bool true) (by simp [results, Try.results10, go_sem]) rfl ⟨rfl, ?_⟩
    repeat (first | exact Below.refl _ _ | refine Below.setCell ?_ (by first | (simp; done) | (simp; omega) | (simp [size_plus]; done) | (simp [size_plus]; omega)) _ | refine Below.alloc ?_ (by first | (simp; done) | (simp; omega) | (simp [size_plus]; done) | (simp [size_plus]; omega)) _ | refine Below.drew ?_ | refine Below.plus ?_ (by first | (simp; done) | (simp; omega) | (simp [size_plus]; done) | (simp [size_plus]; omega)) _)
  · have hd : decide (100 < l.length) = false := by simp [h100]
    have c3 := fun W => fromS_any l W (by omega)
    have c4 := fun W => fromOf_any l W
    have c5 := fun W => reduce_any l W (by omega)
    have c6 := fun W => reduceR_any l W (by omega)
    have d1 := fun W => ma_any a b c W ha hb hc
    have d2 := fun W => mulAddR_any a b c W ha hb hc
    have d3 := fun W => bytesS_any a W ha
    have d4 := fun W => bytesOf_any a W ha
    generalize le 32 (a % ordN) = t at d3 d4
    generalize maN a b c = m at d1 d2
    generalize redN l = r at c5 c6
    generalize fromS l = S at c3 c4
    obtain ⟨s, sb⟩ := S
    simp only at c3 c4
    go_enter Try.func10, Try.ntmps10
    go_wp2_with fail
    refine (c3 _).out.mono ?_
    rintro _ _ ⟨rfl, x3, rfl⟩
    go_wp2_with fail
    refine (c4 _).out.mono ?_
    rintro _ _ ⟨rfl, x4, rfl⟩
    go_wp2_with fail
    refine wp_region_plain 38 61 mixed (by kernel_rfl) (by kernel_rfl) rfl (fun _ _ _ _ _ h => h) ?_
    simp only [List.take_succ_cons, List.take_zero, List.drop_succ_cons, List.drop_zero]
    repeat (first | (refine wpHead_skip rfl ?_) | (refine wpHead_run rfl rfl (fun K hK => ?_); refine headOp_eqS _ _ rfl _ rfl rfl ?_; refine hK _ ?_; clear hK K; simp only [Act.put, List.setIfInBounds_toArray, List.set_cons_succ, List.set_cons_zero]) | (refine wpHead_want rfl rfl (fun K hK => ?_); refine headOp_eqS _ _ rfl _ rfl rfl ?_; refine hK _ ?_; clear hK K; simp only [Act.put, List.setIfInBounds_toArray, List.set_cons_succ, List.set_cons_zero]) | (refine wpHead_run rfl rfl (fun K hK => ?_); go_simp; first | (refine hK _ ?_; clear hK K) | (apply Exists.intro; refine ⟨fun _ => ?_, hK _ ?_⟩; (with_reducible first | exact awake7 _ | exact c5 _ | exact c6 _ | exact d1 _ | exact d2 _ | exact d3 _ | exact d4 _); clear hK K)) | (refine wpHead_want rfl rfl (fun K hK => ?_); go_simp; first | (refine hK _ ?_; clear hK K) | (apply Exists.intro; refine ⟨fun _ => ?_, hK _ ?_⟩; (with_reducible first | exact awake7 _ | exact c5 _ | exact c6 _ | exact d1 _ | exact d2 _ | exact d3 _ | exact d4 _); clear hK K)) | (refine wpHead_pass rfl rfl ?_; simp only [Act.put, List.setIfInBounds_toArray, List.set_cons_succ, List.set_cons_zero]))
    refine wpHead_nil ?_
    intro zz x5
    clear zz
    go_wp2_with fail
    refine bodyPost_ret (v := .bool true) (by simp [results, Try.results10, go_sem]) rfl ⟨rfl, ?_⟩
    repeat (first | exact Below.refl _ _ | refine Below.setCell ?_ (by first | (simp; done) | (simp; omega) | (simp [size_plus]; done) | (simp [size_plus]; omega)) _ | refine Below.alloc ?_ (by first | (simp; done) | (simp; omega) | (simp [size_plus]; done) | (simp [size_plus]; omega)) _ | refine Below.drew ?_ | refine Below.plus ?_ (by first | (simp; done) | (simp; omega) | (simp [size_plus]; done) | (simp [size_plus]; omega)) _)
theorem scalarAll_all (s : ByteArray) (a b c : Nat) (w : World) (_ : s.size ≤ maxLen) (ha : a < B ^ 4) (hb : b < B ^ 4) (hc : c < B ^ 4) : Ret Try.prog 10 #[.string s, numV a, numV b, numV c] w (.bool true) := by
  obtain ⟨⟨l⟩⟩ := s
  exact scalarAll_any l a b c w ha hb hc
end Go.Proofs.Ytihbjlpohjohpaa

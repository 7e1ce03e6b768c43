/- FieldAll: the walk of the law's own function. -/
import Derived.Test.YtihbjlpohjohpaaRootP
import Derived.Test.YtihbjlpohjohpaaLawFB
import Derived.Test.YtihbjlpohjohpaaRef6c
namespace Go.Proofs.Ytihbjlpohjohpaa
open Go.RowKit

theorem eqSame (x : Nat) (w : World) : (Op.equalIn 10000 24 (numV x) (numV x)).run Try.prog w = .ok true w := by rw [eqNum]; simp
theorem headOp_eq {W : World} {a : Act} {o : Oper} {K : Act → Prop} (i j : Nat) (h : o.op = .binOp .eql 24 (.tmp i) (.tmp j) 24) (n : Nat) (hx : a.eval (.tmp i) = numV n) (hy : a.eval (.tmp j) = numV n) (hk : K (a.put o.dst (.bool true))) : headOp Try.prog o a W K := by
  refine ⟨_, fun e => ?_, hk⟩
  obtain ⟨dst, op, type, pos, after, guard⟩ := o
  dsimp only at h
  subst h
  unfold headAt execOp
  simp only [hx, hy]
  go_simp
set_option maxRecDepth 100000 in
set_option maxHeartbeats 4000000 in
theorem fieldAll_any (a b : Nat) (l : List UInt8) (w : World) (ha : a < B ^ 4) (hb : b < B ^ 4) : Ret Try.prog 8 #[numV a, numV b, strV l] w (.bool true) := by
  refine Ret.of ?_
  by_cases h60 : 60 < l.length
  · have hd : decide (60 < l.length) = true := by simp [h60]
    go_enter Try.func8, Try.ntmps8
    go_wp2_with fail
    refine (awake6 _).out.mono ?_
    rintro _ _ ⟨rfl, x1, rfl⟩
    go_wp2_with fail
    refine bodyPost_ret (v := .bool true) (by simp [results, Try.results8, go_sem]) rfl ⟨rfl, ?_⟩
    repeat (first | exact Below.refl _ _ | refine Below.setCell ?_ (by first | (simp; done) | (simp; omega) | (simp [size_plus]; done) | (simp [size_plus]; omega)) _ | refine Below.alloc ?_ (by first | (simp; done) | (simp; omega) | (simp [size_plus]; done) | (simp [size_plus]; omega)) _ | refine Below.drew ?_ | refine Below.plus ?_ (by first | (simp; done) | (simp; omega) | (simp [size_plus]; done) | (simp [size_plus]; omega)) _)
  · have hd : decide (60 < l.length) = false := by simp [h60]
    have c1 := fun W => root_any a W ha
    have c2 := fun W => rootP_any a W ha
    have c3 := fun W => from_any l W
    have c4 := fun W => fromR_any l W
    have c5 := fun W => inv_any a W ha
    have c6 := fun W => invP_any a W ha
    have d1 := fun W => norm_any a W ha
    have d2 := fun W => normR_any a W ha
    have d3 := fun W => add_any a b W ha hb
    have d4 := fun W => addR_any a b W ha hb
    have d5 := fun W => sub_any a b W ha hb
    have d6 := fun W => subR_any a b W ha hb
    have d7 := fun W => mul_any a b W ha hb
    have d8 := fun W => mulP_any a b W ha hb
    have d9 := fun W => bytes_any a W ha
    have e9 := fun W => bytesR_any a W ha
    generalize le 32 (a % Ar.pp) = t at d9 e9
    generalize a % Ar.pp = v1 at d1 d2
    generalize Ar.addN a b = v2 at d3 d4
    generalize Ar.subN a b = v3 at d5 d6
    generalize Ar.mulN a b = v4 at d7 d8
    generalize Ar.rootN a = R at c1 c2
    obtain ⟨r, rb⟩ := R
    generalize fromN l = S at c3 c4
    obtain ⟨s, sb⟩ := S
    generalize Ar.invN a = i at c5 c6
    simp only at c1 c2 c3 c4
    go_enter Try.func8, Try.ntmps8
    go_wp2_with fail
    refine (c1 _).out.mono ?_
    rintro _ _ ⟨rfl, x1, rfl⟩
    go_wp2_with fail
    refine (c2 _).out.mono ?_
    rintro _ _ ⟨rfl, x2, rfl⟩
    go_wp2_with fail
    refine (c3 _).out.mono ?_
    rintro _ _ ⟨rfl, x3, rfl⟩
    go_wp2_with fail
    refine (c4 _).out.mono ?_
    rintro _ _ ⟨rfl, x4, rfl⟩
    go_wp2_with fail
    refine wp_region_plain 73 104 mixed (by kernel_rfl) (by kernel_rfl) rfl (fun _ _ _ _ _ h => h) ?_
    simp only [List.append_eq, List.cons_append, List.nil_append, List.take_succ_cons, List.take_zero, List.drop_succ_cons, List.drop_zero]
    repeat (first | (refine wpHead_skip rfl ?_) | (refine wpHead_run rfl rfl (fun K hK => ?_); refine headOp_eq _ _ rfl _ rfl rfl ?_; refine hK _ ?_; clear hK K; simp only [Act.put, List.setIfInBounds_toArray, List.set_cons_succ, List.set_cons_zero]) | (refine wpHead_want rfl rfl (fun K hK => ?_); refine headOp_eq _ _ rfl _ rfl rfl ?_; refine hK _ ?_; clear hK K; simp only [Act.put, List.setIfInBounds_toArray, List.set_cons_succ, List.set_cons_zero]) | (refine wpHead_run rfl rfl (fun K hK => ?_); go_simp; first | (refine hK _ ?_; clear hK K) | (apply Exists.intro; refine ⟨fun _ => ?_, hK _ ?_⟩; (with_reducible first | exact awake6 _ | exact d1 _ | exact d2 _ | exact d3 _ | exact d4 _ | exact d5 _ | exact d6 _ | exact d7 _ | exact d8 _ | exact c5 _ | exact c6 _ | exact d9 _ | exact e9 _); clear hK K)) | (refine wpHead_want rfl rfl (fun K hK => ?_); go_simp; first | (refine hK _ ?_; clear hK K) | (apply Exists.intro; refine ⟨fun _ => ?_, hK _ ?_⟩; (with_reducible first | exact awake6 _ | exact d1 _ | exact d2 _ | exact d3 _ | exact d4 _ | exact d5 _ | exact d6 _ | exact d7 _ | exact d8 _ | exact c5 _ | exact c6 _ | exact d9 _ | exact e9 _); clear hK K)) | (refine wpHead_pass rfl rfl ?_; simp only [Act.put, List.setIfInBounds_toArray, List.set_cons_succ, List.set_cons_zero]))
    refine wpHead_nil ?_
    intro zz x5
    clear zz
    go_wp2_with fail
    refine bodyPost_ret (v := .bool true) (by simp [results, Try.results8, go_sem]) rfl ⟨rfl, ?_⟩
    repeat (first | exact Below.refl _ _ | refine Below.setCell ?_ (by first | (simp; done) | (simp; omega) | (simp [size_plus]; done) | (simp [size_plus]; omega)) _ | refine Below.alloc ?_ (by first | (simp; done) | (simp; omega) | (simp [size_plus]; done) | (simp [size_plus]; omega)) _ | refine Below.drew ?_ | refine Below.plus ?_ (by first | (simp; done) | (simp; omega) | (simp [size_plus]; done) | (simp [size_plus]; omega)) _)
theorem fieldAll_all (a b : Nat) (s : ByteArray) (w : World) (ha : a < B ^ 4) (hb : b < B ^ 4) (_ : s.size ≤ maxLen) : Ret Try.prog 8 #[numV a, numV b, .string s] w (.bool true) := by
  obtain ⟨⟨l⟩⟩ := s
  exact fieldAll_any a b l w ha hb
end Go.Proofs.Ytihbjlpohjohpaa

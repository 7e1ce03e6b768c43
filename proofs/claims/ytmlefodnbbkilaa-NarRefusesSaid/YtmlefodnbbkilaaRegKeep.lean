/- No program in it: a region that draws its order, by what each operation keeps. -/
import Derived.Test.YtmlefodnbbkilaaPlus
namespace Go.Proofs.Ytmlefodnbbkilaa
open Go.RowKit

section
variable {P : Program} {ops : Array Oper} {md : Region.Mode}
theorem wpAny_keep {Q : Exit → Act → World → Prop} {Inv : Array Bool → Act → World → Prop} (hback : ∀ (i : Nat) (o : Oper), ops[i]? = some o → ∀ e ∈ o.after, Region.binds md e = true → e.on < i) (hg : ∀ (i : Nat) (o : Oper), ops[i]? = some o → o.guard = none)
    (hstep : ∀ (listed : Array Bool) (a : Act) (w : World) (i : Nat) (o : Oper), Inv listed a w → listed.size = ops.size → i < ops.size → ops[i]? = some o → (∀ e ∈ o.after, Region.binds md e = true → listed.getD e.on false = true) → o.wp P a w (Inv (listed.setIfInBounds i true)) Q)
    (hend : ∀ (listed : Array Bool) (a : Act) (w : World), Inv listed a w → (∀ i, i < ops.size → listed.getD i false = true) → Q .normal a w) :
    ∀ (f : Nat) (listed : Array Bool) (a : Act) (w : World), Inv listed a w → listed.size = ops.size → cntU listed ops.size = f → wpAny P md ops Q f listed a w := by
  have hall : ∀ (listed : Array Bool), listed.size = ops.size → cntU listed ops.size = 0 → ∀ i, i < ops.size → listed.getD i false = true := fun listed hs hc i hi => by
    have := cntU_zero ops.size hc i hi
    have hl : i < listed.size := by omega
    simp [hl] at this ⊢
    exact this
  intro f
  induction f with
  | zero =>
    intro listed a w hi hs hc
    refine ⟨?_, hend listed a w hi (hall listed hs hc)⟩
    refine List.eq_nil_iff_forall_not_mem.2 fun j hj => ?_
    obtain ⟨hun, o, ho, -⟩ := mem_ready.1 hj
    have hj' := (Array.getElem?_eq_some_iff.1 ho).1
    have := hall listed hs hc j hj'
    rw [getD_both hun] at this
    cases this
  | succ f ih =>
    intro listed a w hi hs hc
    obtain ⟨i0, hi0, hun0, hmin⟩ := cntU_pos ops.size (by omega : cntU listed ops.size ≠ 0)
    have hr0 : i0 ∈ Region.ready md ops listed := by
      have ho : ops[i0]? = some ops[i0] := Array.getElem?_eq_getElem hi0
      refine mem_ready.2 ⟨hun0, ops[i0], ho, fun e he hb => ?_⟩
      have hlt := hback i0 _ ho e he hb
      have h1 := hmin e.on hlt
      have : e.on < listed.size := by omega
      simp [this] at h1 ⊢; exact h1
    refine ⟨fun he => (by rw [he] at hr0; cases hr0), fun i hi' => ?_⟩
    obtain ⟨hun, o, ho, hdep⟩ := mem_ready.1 hi'
    have hiN := (Array.getElem?_eq_some_iff.1 ho).1
    unfold wpOp
    simp only [ho]
    rw [if_pos (by simp [Region.wanted, hg i o ho])]
    refine .inl ?_
    have h := hstep listed a w i o hi hs hiN ho hdep
    have hk : ∀ a' w', Inv (listed.setIfInBounds i true) a' w' → wpAny P md ops Q f (listed.setIfInBounds i true) a' w' := fun a' w' hi2 =>
      ih _ a' w' hi2 (by simpa using hs) (by have := cntU_set hun ops.size hiN; omega)
    exact Oper.wp_mono hk h
theorem wp_region_keep {id : Nat} {Q : Exit → Act → World → Prop} {a : Act} {W : World} {Inv : Array Bool → Act → World → Prop} (hP : P.follows .mixedOrders = true)
    (hback : ∀ (i : Nat) (o : Oper), ops[i]? = some o → ∀ e ∈ o.after, Region.binds .any e = true → e.on < i) (hg : ∀ (i : Nat) (o : Oper), ops[i]? = some o → o.guard = none)
    (hstart : Inv (Array.replicate ops.size false) a W.drew)
    (hstep : ∀ (listed : Array Bool) (a : Act) (w : World) (i : Nat) (o : Oper), Inv listed a w → listed.size = ops.size → i < ops.size → ops[i]? = some o → (∀ e ∈ o.after, Region.binds .any e = true → listed.getD e.on false = true) → o.wp P a w (Inv (listed.setIfInBounds i true)) Q)
    (hend : ∀ (listed : Array Bool) (a : Act) (w : World), Inv listed a w → (∀ i, i < ops.size → listed.getD i false = true) → Q .normal a w) : (Code.region id ops true).wp P Q a W :=
  wp_region_any hP (wpAny_keep hback hg hstep hend ops.size _ a _ hstart (by simp) (cntU_start ops.size (Nat.le_refl _)))
end
end Go.Proofs.Ytmlefodnbbkilaa

/- No program in it: a drawn region in which one operation turns the world and need not wait for all loads ahead of it ('x, y = .., ..' over boxes; append of a new row), in a round of a loop over a function. -/
import Derived.Test.YtalanaongfnndaaDoorPlusIn
namespace Go.Proofs.YtalanaongfnndaaDoor
open Go.RowKit

section
variable {P : Program} {ops : Array Oper} {md : Region.Mode}

/-- The operations ahead of the two stores: one value each, in the first world; the late ones (b) in the second, too. -/
def pairHead (P : Program) (ops : Array Oper) (W0 W1 : World) (K : Act → Prop) : List Oper → List Bool → Act → Prop
  | o :: rest, b :: bs, a => ∃ v, Region.wanted o (yielded ops a.tmps) = true ∧ (execOp a.eval o).run P W0 = .ok (.value v) W0 ∧ (match b with | true => (execOp a.eval o).run P W1 = .ok (.value v) W1 | false => True) ∧ pairHead P ops W0 W1 K rest bs (a.put o.dst v)
  | [], [], a => K a
  | _, _, _ => False
theorem pairHead_early {W0 W1 : World} {K : Act → Prop} {o : Oper} {rest : List Oper} {bs : List Bool} {a : Act} {v : Value} (hw : Region.wanted o (yielded ops a.tmps) = true) (h : (execOp a.eval o).run P W0 = .ok (.value v) W0)
    (hn : pairHead P ops W0 W1 K rest bs (a.put o.dst v)) : pairHead P ops W0 W1 K (o :: rest) (false :: bs) a := ⟨v, hw, h, trivial, hn⟩
theorem pairHead_late {W0 W1 : World} {K : Act → Prop} {o : Oper} {rest : List Oper} {bs : List Bool} {a : Act} {v : Value} (hw : Region.wanted o (yielded ops a.tmps) = true) (h : (execOp a.eval o).run P W0 = .ok (.value v) W0)
    (h1 : (execOp a.eval o).run P W1 = .ok (.value v) W1) (hn : pairHead P ops W0 W1 K rest bs (a.put o.dst v)) : pairHead P ops W0 W1 K (o :: rest) (true :: bs) a := ⟨v, hw, h, h1, hn⟩
def runs (P : Program) (ops : Array Oper) (a : Act) (o : Oper) (v : Value) (w w' : World) : Prop :=
  Region.wanted o (yielded ops a.tmps) = true ∧ ((execOp a.eval o).run P w = .ok (.value v) w' ∨ ((execOp a.eval o).run P w = .ok .skip w' ∧ v = undef))
theorem pairHead_vals {W0 W1 : World} {K : Act → Prop} : ∀ (l : List Oper) (bs : List Bool) (k : Nat) (a0 a : Act) (vals : Nat → Value), (∀ j, j < l.length → l[j]? = ops[k + j]?) → (∀ o ∈ l, isAlloc o = false) → a = lexAct ops vals a0 k →
    pairHead P ops W0 W1 K l bs a → ∃ vals' : Nat → Value, (∀ i, i < k → vals' i = vals i) ∧
      (∀ (i : Nat) (o : Oper), k ≤ i → i < k + l.length → ops[i]? = some o → runs P ops (lexAct ops vals' a0 i) o (vals' i) W0 W0 ∧ (bs[i - k]? = some true → runs P ops (lexAct ops vals' a0 i) o (vals' i) W1 W1)) ∧ K (lexAct ops vals' a0 (k + l.length))
  | [], [], k, a0, a, vals, _, _, ha, h => ⟨vals, fun _ _ => rfl, fun i o h1 h2 => by simp at h2; omega, by subst ha; exact h⟩
  | [], _ :: _, k, a0, a, vals, _, _, _, h => h.elim
  | _ :: _, [], k, a0, a, vals, _, _, _, h => h.elim
  | o :: rest, b :: bs, k, a0, a, vals, hl, hA, ha, h => by
    have h0 : ops[k]? = some o := by simpa using (hl 0 (by simp)).symm
    have hl' : ∀ j, j < rest.length → rest[j]? = ops[k + 1 + j]? := fun j hj => by
      have := hl (j + 1) (by simp; omega)
      simpa [Nat.add_assoc, Nat.add_comm 1 j] using this
    have hAo := hA o (by simp)
    obtain ⟨v, hw, h1, h2, hr⟩ := h
    have ha' : a.put o.dst v = lexAct ops (fun i => if i = k then v else vals i) a0 (k + 1) := by
      have e : lexAct ops (fun i => if i = k then v else vals i) a0 k = a := by
        rw [ha]; exact lexAct_congr ops a0 k (fun i hi => by rw [if_neg (by omega)])
      simp only [lexAct, h0, e, if_true, hAo]
      simp
    obtain ⟨vals', g1, g2, g3⟩ := pairHead_vals rest bs (k + 1) a0 _ _ hl' (fun x hx => hA x (by simp [hx])) ha' hr
    refine ⟨vals', fun i hi => by rw [g1 i (by omega), if_neg (by omega)], fun i o' h3 h4 h5 => ?_, by simpa [Nat.add_assoc, Nat.add_comm 1] using g3⟩
    by_cases hik : i = k
    · subst hik
      have : o' = o := Option.some.inj (h5.symm.trans h0)
      subst this
      rw [g1 i (by omega), if_pos rfl, lexAct_congr ops a0 i (fun j hj => by rw [g1 j (by omega), if_neg (by omega)]), ← ha]
      refine ⟨⟨hw, .inl h1⟩, fun hb => ?_⟩
      simp at hb
      subst hb
      exact ⟨hw, .inl h2⟩
    · have := g2 i o' (by omega) (by simp at h4; omega) h5
      refine ⟨this.1, fun hb => this.2 ?_⟩
      rw [show i - k = (i - (k + 1)) + 1 by omega] at hb
      simpa using hb

/-- What an operation waits for, through others. -/
def depB (md : Region.Mode) (ops : Array Oper) : Nat → Nat → Nat → Bool
  | 0, _, _ => false
  | f + 1, i, k => Region.waitsFor md ops i k || (List.range ops.size).any fun j => Region.waitsFor md ops i j && depB md ops f j k
theorem depB_listed {listed : Array Bool} (hcl : ∀ (j : Nat) (oj : Oper), ops[j]? = some oj → listed.getD j false = true → ∀ e ∈ oj.after, Region.binds md e = true → listed.getD e.on false = true) :
    ∀ (f i k : Nat), (∀ (o : Oper), ops[i]? = some o → ∀ e ∈ o.after, Region.binds md e = true → listed.getD e.on false = true) → depB md ops f i k = true → listed.getD k false = true
  | 0, _, _, _, h => by cases h
  | f + 1, i, k, hi, h => by
    have one : ∀ k, Region.waitsFor md ops i k = true → listed.getD k false = true := fun k hk => by
      obtain ⟨o, ho, e, he, hb, hon⟩ := Region.waitsFor_spec hk
      rw [← hon]
      exact hi o ho e he hb
    simp only [depB, Bool.or_eq_true] at h
    rcases h with h | h
    · exact one k h
    · obtain ⟨j, _, hj⟩ := List.any_eq_true.1 h
      simp only [Bool.and_eq_true] at hj
      exact depB_listed hcl f j k (fun o ho => hcl j o ho (one j hj.1)) hj.2

def stage (s : Nat) (W0 W1 : World) (listed : Array Bool) : World := if listed.getD s false then W1 else W0

theorem wpAny_late {m s : Nat} {vals : Nat → Value} {a0 : Act} {W0 W1 : World} {Q : Exit → Act → World → Prop} (H : HeadOK md ops ops.size m) (hN : s + 1 ≤ ops.size) (hm : a0.tmps.size = m)
    (hA : ∀ (i : Nat) (o : Oper), ops[i]? = some o → isAlloc o = false) (hdep : ∀ i k, s + 1 ≤ i → i < ops.size → k < s + 1 → depB md ops ops.size i k = true)
    (h0 : ∀ (i : Nat) (o : Oper), i < s → ops[i]? = some o → runs P ops (lexAct ops vals a0 i) o (vals i) W0 W0 ∧ (Region.waitsFor md ops s i = false → runs P ops (lexAct ops vals a0 i) o (vals i) W1 W1))
    (h1 : ∀ o, ops[s]? = some o → runs P ops (lexAct ops vals a0 s) o (vals s) W0 W1)
    (hend : wpAny P md ops Q (ops.size - (s + 1)) ((List.range ops.size).map (fun i => decide (i < s + 1))).toArray (lexAct ops vals a0 (s + 1)) W1) :
    ∀ (f : Nat) (listed : Array Bool) (a : Act), HeadInv md ops (s + 1) listed → cntU listed (s + 1) = f → HeadState ops ops.size m vals (fun _ => .cells #[] 0) a0 W0 listed a W0 → wpAny P md ops Q (f + (ops.size - (s + 1))) listed a (stage s W0 W1 listed) := by
  intro f
  have hput : ∀ {listed : Array Bool} {a : Act} {i : Nat} {o : Oper}, HeadState ops ops.size m vals (fun _ => .cells #[] 0) a0 W0 listed a W0 → i < ops.size → ops[i]? = some o → listed.getD i true = false →
      HeadState ops ops.size m vals (fun _ => .cells #[] 0) a0 W0 (listed.setIfInBounds i true) (a.put o.dst (vals i)) W0 := fun hs hi ho hun =>
    state_put H hs hi ho hun (hA _ _ ho) ⟨⟨#[], W0.drawn⟩, by simp [plus]⟩
  induction f with
  | zero =>
    intro listed a inv hc hs
    have hsz := inv.size
    have he : listed = ((List.range ops.size).map (fun i => decide (i < s + 1))).toArray := by
      apply Array.ext
      · simp [hsz]
      · intro i h1 h2
        have h3 : listed.getD i true = listed[i] := by simp [h1]
        simp only [List.getElem_toArray, List.getElem_map, List.getElem_range]
        rw [← h3]
        by_cases hi : i < s + 1
        · rw [cntU_zero (s + 1) hc i hi]; simp [hi]
        · rw [inv.tail i (by omega) (by omega)]; simp [hi]
    have hf : ∀ i, i < ops.size → listed.getD i false = decide (i < s + 1) := fun i hi => by
      rw [he]
      simp [hi]
    have hst : stage s W0 W1 listed = W1 := by unfold stage; rw [hf s (by omega)]; simp
    rw [Nat.zero_add, hst]
    obtain ⟨_, hdf, hsz', g, _, _, hv⟩ := hs
    have ha : a = lexAct ops vals a0 (s + 1) := act_ext (by rw [(lexAct_size vals a0 _).1]; omega) (fun t => by
      rw [hv t, lexAct_val H vals a0 hm t (s + 1) hN]
      unfold valAt
      cases hw : writer ops t ops.size with
      | none => rfl
      | some i =>
        obtain ⟨hin, hit⟩ := writer_some hw
        simp only [hf i hin]
        cases hoi : ops[i]? with
        | none => rw [hoi] at hit; cases hit
        | some o => by_cases hi : i < s + 1 <;> simp [hA i o hoi, hi]) (hdf.trans (lexAct_size vals a0 _).2.symm)
    rw [ha, he]
    exact hend
  | succ f ih =>
    intro listed a inv hc hs
    have hsz := inv.size
    obtain ⟨i0, hi0, hun0, hmin⟩ := cntU_pos (s + 1) (by omega : cntU listed (s + 1) ≠ 0)
    have hr0 : i0 ∈ Region.ready md ops listed := by
      have ho : ops[i0]? = some ops[i0] := Array.getElem?_eq_getElem (by omega)
      refine mem_ready.2 ⟨hun0, ops[i0], ho, fun e he hb => ?_⟩
      have hlt := (H.at_ i0 _ (by omega) ho).2.1 e he hb
      have h1 := hmin e.on hlt
      have : e.on < listed.size := by omega
      simp [this] at h1 ⊢; exact h1
    rw [show f + 1 + (ops.size - (s + 1)) = (f + (ops.size - (s + 1))) + 1 by omega]
    refine ⟨fun he => (by rw [he] at hr0; cases hr0), fun i hi => ?_⟩
    obtain ⟨hun, o, ho, hall⟩ := mem_ready.1 hi
    have hiN : i < ops.size := (Array.getElem?_eq_some_iff.1 ho).1
    have hlt : i < listed.size := by omega
    have his : i < s + 1 := by
      rcases Nat.lt_or_ge i (s + 1) with h | h
      · exact h
      · exfalso
        have := depB_listed inv.closed ops.size i i0 (fun o' ho' => by
          have : o' = o := Option.some.inj (ho'.symm.trans ho)
          subst this
          exact hall) (hdep i i0 h hiN hi0)
        rw [getD_both hun0] at this
        cases this
    have hA' := hA i o ho
    have hlook := (H.at_ i o hiN ho).2.2.2 hA'
    have hsame : execOp a.eval o = execOp (lexAct ops vals a0 i).eval o ∧ Region.wanted o (yielded ops a.tmps) = Region.wanted o (yielded ops (lexAct ops vals a0 i).tmps) := by
      obtain ⟨_, hdf, hsz', g, _, _, hv⟩ := id hs
      exact exec_same (ops := ops) (o := o) (fun cs b => Region.noSelect_spec H.sel i o cs b ho) (a := a) (a' := lexAct ops vals a0 i) (by rw [(lexAct_size vals a0 i).1]; omega) (fun t ht => by
        rw [hv t, lexAct_val H vals a0 hm t i (by omega)]
        unfold valAt
        cases hw : writer ops t ops.size with
        | none => rfl
        | some j =>
          obtain ⟨hjn, hjt⟩ := writer_some hw
          obtain ⟨hji, hjA, hwait⟩ := hlook j t hjn hjt ht
          obtain ⟨o', ho', e, he, hb, hon⟩ := Region.waitsFor_spec hwait
          have : o' = o := Option.some.inj (ho'.symm.trans ho)
          subst this
          have hl := hall e he hb
          rw [hon] at hl
          have hoj : ops[j]? = some ops[j] := Array.getElem?_eq_getElem (by omega)
          simp only [hl, hji, hoj, hjA _ hoj]
          simp)
    have hwf : ∀ j, Region.waitsFor md ops j i = true → listed.getD j false = false := fun j hw => by
      cases hj : listed.getD j false with
      | false => rfl
      | true =>
        obtain ⟨oj, hoj, e, he, hb, hon⟩ := Region.waitsFor_spec hw
        have := inv.closed j oj hoj hj e he hb
        rw [hon] at this
        rw [getD_both hun] at this
        cases this
    have fin : runs P ops (lexAct ops vals a0 i) o (vals i) (stage s W0 W1 listed) (stage s W0 W1 (listed.setIfInBounds i true)) → wpOp P ops Q i (wpAny P md ops Q (f + (ops.size - (s + 1))) (listed.setIfInBounds i true)) a (stage s W0 W1 listed) := by
      rintro ⟨hw, hrun⟩
      unfold wpOp
      simp only [ho]
      rw [hsame.2, if_pos hw]
      have hk := ih _ _ (inv.set hi his) (by have := cntU_set hun (s + 1) his; omega) (hput hs hiN ho hun)
      refine .inl ?_
      unfold Oper.wp
      rw [hsame.1]
      rcases hrun with hrun | ⟨hrun, hv⟩
      · rw [hrun]; exact hk
      · rw [hrun, Oper.upon_skip, ← hv]; exact hk
    have hne : ∀ j, j ≠ i → (listed.setIfInBounds i true).getD j false = listed.getD j false := fun j hj => getD_set_ne false (Ne.symm hj)
    have hse : (listed.setIfInBounds i true).getD i false = true := by simp [hlt]
    refine fin ?_
    by_cases e2 : i = s
    · subst e2
      have e3 : stage i W0 W1 listed = W0 := by unfold stage; rw [getD_both hun]; rfl
      have e4 : stage i W0 W1 (listed.setIfInBounds i true) = W1 := by unfold stage; rw [hse]; rfl
      rw [e3, e4]
      exact h1 o ho
    · have e4 : stage s W0 W1 (listed.setIfInBounds i true) = stage s W0 W1 listed := by unfold stage; rw [hne s (by omega)]
      rw [e4]
      cases hw : Region.waitsFor md ops s i with
      | true =>
        have e3 : stage s W0 W1 listed = W0 := by unfold stage; rw [hwf s hw]; rfl
        rw [e3]
        exact (h0 i o (by omega) ho).1
      | false =>
        cases hls : listed.getD s false with
        | false =>
          have e3 : stage s W0 W1 listed = W0 := by unfold stage; rw [hls]; rfl
          rw [e3]
          exact (h0 i o (by omega) ho).1
        | true =>
          have e3 : stage s W0 W1 listed = W1 := by unfold stage; rw [hls]; rfl
          rw [e3]
          exact (h0 i o (by omega) ho).2 hw

/-- The region's frame: what follows operation s waits for all to s; which of those ahead of s need not be waited for by it. -/
def pairB (ops : Array Oper) (s : Nat) (bs : List Bool) : Bool :=
  decide (s + 1 ≤ ops.size) && ops.all (fun o => !isAlloc o) && (List.range ops.size).all (fun i => decide (i < s + 1) || (List.range (s + 1)).all fun k => depB .any ops ops.size i k) && decide (bs = (List.range s).map fun i => !Region.waitsFor .any ops s i) &&
  Region.seqB .any ops (ops.size - (s + 1)) (s + 1) ((List.range ops.size).map (fun i => decide (i < s + 1))).toArray

theorem wpIn_region_pair {id N L : Nat} {Q : Exit → Act → World → Prop} {a : Act} {W : World} {l : List Oper} (s m : Nat) (bs : List Bool) (W1 : World) (hP : P.follows .mixedOrders = true) (hB : headB .any l.toArray l.length m = true)
    (hpb : pairB l.toArray s bs = true) (hm : a.tmps.size = m) (hdf : noDefer l = true)
    (h : pairHead P l.toArray W.drew W1 (fun a1 => match l[s]? with
      | some o1 => ∃ v1, runs P l.toArray a1 o1 v1 W.drew W1 ∧ wpList P l.toArray (OnlyN Q) (l.drop (s + 1)) (a1.put o1.dst v1) W1
      | none => False) (l.take s) bs a) : (Code.region id l.toArray true).wpIn (Fence.wide.inRound L) N P Q a W := by
  simp only [pairB, Bool.and_eq_true, decide_eq_true_eq] at hpb
  obtain ⟨⟨⟨⟨hN, hA⟩, hw⟩, hbs⟩, hseq⟩ := hpb
  have hlen : s + 1 ≤ l.length := by simpa using hN
  have H : HeadOK .any l.toArray l.toArray.size m := by
    have := headOK_of hB
    simpa using this
  have hAl : ∀ (i : Nat) (o : Oper), l.toArray[i]? = some o → isAlloc o = false := fun i o ho => by
    have := Array.all_eq_true'.1 hA o (Array.mem_of_getElem? ho)
    simpa using this
  have hdep : ∀ i k, s + 1 ≤ i → i < l.toArray.size → k < s + 1 → depB .any l.toArray l.toArray.size i k = true := fun i k h1 h2 h3 => by
    have := List.all_eq_true.1 hw i (List.mem_range.2 h2)
    simp only [Bool.or_eq_true, decide_eq_true_eq] at this
    rcases this with h4 | h4
    · omega
    · exact List.all_eq_true.1 h4 k (List.mem_range.2 h3)
  obtain ⟨vals, _, g2, g3⟩ := pairHead_vals (ops := l.toArray) (l.take s) bs 0 a a (fun _ => undef) (fun j hj => by
    have hj' : j < s := by simp at hj; omega
    simp [hj']) (fun o ho => by
    obtain ⟨i, hi⟩ := List.mem_iff_getElem?.1 (List.mem_of_mem_take ho)
    exact hAl i o (by simpa using hi)) rfl h
  have htl : (l.take s).length = s := by simp; omega
  rw [Nat.zero_add, htl] at g3
  obtain ⟨o1, ho1⟩ : ∃ o, l[s]? = some o := ⟨l[s], List.getElem?_eq_getElem (by omega)⟩
  simp only [ho1] at g3
  obtain ⟨v1, r1, hq⟩ := g3
  obtain ⟨vs, hvs⟩ : ∃ vs : Nat → Value, vs = fun i => if i = s then v1 else vals i := ⟨_, rfl⟩
  have hlow : ∀ k, k ≤ s → lexAct l.toArray vs a k = lexAct l.toArray vals a k := fun k hk => lexAct_congr _ a k (fun i hi => by rw [hvs]; dsimp only; rw [if_neg (by omega)])
  have hs1 : lexAct l.toArray vs a (s + 1) = (lexAct l.toArray vals a s).put o1.dst v1 := by
    have : l.toArray[s]? = some o1 := by simpa using ho1
    rw [lexAct]
    simp only [this, hAl s o1 this, hlow s (Nat.le_refl _)]
    rw [hvs]
    simp
  refine wpIn_mono (Q := OnlyN Q) (wpIn_region_any hP (wpAny_in hdf (onlyN_lets Q) _ _ _ _ ?_)) (fun e a w h => by cases e <;> first | exact h | exact h.elim)
  have key := wpAny_late (P := P) (Q := OnlyN Q) (vals := vs) (a0 := a) (W0 := W.drew) (W1 := W1) H hN hm hAl hdep (fun i o hi ho => by
      have := g2 i o (Nat.zero_le _) (by rw [htl]; omega) ho
      have hv : vs i = vals i := by rw [hvs]; dsimp only; rw [if_neg (by omega)]
      rw [hlow i (by omega), hv]
      refine ⟨this.1, fun hwf => this.2 ?_⟩
      rw [hbs]
      simp [hi, hwf])
    (fun o ho => by
      have : o = o1 := Option.some.inj ((by simpa using ho : l[s]? = some o).symm.trans ho1)
      subst this
      rw [hlow s (Nat.le_refl _), show vs s = v1 by rw [hvs]; simp]
      exact r1)
    (by
      have hdl : (l.drop (s + 1)).length = l.toArray.size - (s + 1) := by simp
      rw [hs1]
      rw [← hdl] at hseq ⊢
      exact wpAny_of_seq (md := .any) (Q' := OnlyN Q) (l.drop (s + 1)) (s + 1) _ _ W1 (fun j => by simp [List.getElem?_drop]) hseq hq)
    (s + 1) (Array.replicate l.toArray.size false) a (head_start _) (cntU_start _ hN)
    ⟨⟨⟨#[], W.drew.drawn⟩, by simp [plus]; rfl⟩, rfl, hm, fun _ => 0, fun i o _ _ _ hl => (by rw [getD_replicate_false] at hl; cases hl), fun i o j oj _ _ _ hl => (by rw [getD_replicate_false] at hl; cases hl), fun t => by
      unfold valAt
      cases writer l.toArray t l.toArray.size with
      | none => rfl
      | some i => simp only [getD_replicate_false, Bool.false_eq_true, if_false]⟩
  have hst : stage s W.drew W1 (Array.replicate l.toArray.size false) = W.drew := by
    unfold stage
    rw [getD_replicate_false]
    rfl
  rw [hst, show s + 1 + (l.toArray.size - (s + 1)) = l.toArray.size by omega] at key
  exact key
end
end Go.Proofs.YtalanaongfnndaaDoor

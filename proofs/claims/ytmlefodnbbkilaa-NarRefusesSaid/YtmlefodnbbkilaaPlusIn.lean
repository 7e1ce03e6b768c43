/- No program in it: a drawn region in a round of a loop over a function ('wpIn' at the wide fence in a round). -/
import Derived.Test.YtmlefodnbbkilaaPlus
import Derived.ControlIn
import Derived.CallsIn
import Derived.OrdersIn
import Derived.TacticsIn
import Derived.RangeFuncCalls
namespace Go.Proofs.Ytmlefodnbbkilaa
open Go.RowKit

def OnlyN (Q : Exit → Act → World → Prop) : Exit → Act → World → Prop
  | .normal, a, w => Q .normal a w
  | _, _, _ => False
theorem onlyN_normal (Q : Exit → Act → World → Prop) (a : Act) (w : World) : OnlyN Q .normal a w = Q .normal a w := rfl
theorem onlyN_lets (Q : Exit → Act → World → Prop) : ¬ LetsOut (OnlyN Q) := fun ⟨_, _, h⟩ => h
attribute [go_sem] onlyN_normal

theorem rowsIn_of {n : Nat} {P : Program} {row : String} {args : Array Value} {w : World} {R : Value → World → Prop} (h : Rows P row args w R) : RowsIn Fence.wide n P row args w R := by
  intro c cs _
  obtain ⟨v, w', r, s⟩ := h c cs
  exact ⟨v, w', r, stepsIn_wide.2 s⟩

def noDefer (l : List Oper) : Bool := l.all fun o => match o.op with | .defer _ => false | _ => true

theorem wpAny_in {P : Program} {md : Region.Mode} {ops : Array Oper} {Q : Exit → Act → World → Prop} {l n : Nat} (hd : noDefer ops.toList = true) (hL : ¬ LetsOut Q) :
    ∀ (fuel : Nat) (listed : Array Bool) (a : Act) (w : World), wpAny P md ops Q fuel listed a w → wpAnyIn (Fence.wide.inRound l) n P md ops Q fuel listed a w
  | 0, _, _, _, h => h
  | fuel + 1, listed, a, w, h => by
    refine ⟨h.1, fun i hi => ?_⟩
    have ih := wpAny_in (P := P) (md := md) (l := l) (n := n) hd hL fuel (listed.setIfInBounds i true)
    have h2 := h.2 i hi
    unfold wpOp at h2
    unfold wpOpIn
    cases ho : ops[i]? with
    | none => simp only [ho] at h2 ⊢; exact ih _ _ h2
    | some o =>
      simp only [ho] at h2 ⊢
      have hnd : ∀ c, o.op ≠ .defer c := fun c hc => by
        have hm : o ∈ ops.toList := by
          rw [List.mem_iff_getElem?]
          exact ⟨i, by simpa using ho⟩
        have := List.all_eq_true.1 hd o hm
        simp [hc] at this
      by_cases hw : Region.wanted o (yielded ops a.tmps) = true
      · rw [if_pos hw] at h2 ⊢
        rcases h2 with h2 | h2
        · refine ⟨fun _ _ => trivial, ?_⟩
          rw [Fence.inRound_round, Oper.semAt_some l _ _ hnd]
          unfold Oper.wp at h2
          generalize (execOp a.eval o).run P w = r at *
          cases r with
          | ok x w' =>
            cases x <;> simp only [Oper.upon] at h2 <;> simp only [Oper.uponIn]
            case value v => exact ih _ _ h2
            case skip => exact ih _ _ h2
            case defer d => exact ih _ _ h2
            case enter f args =>
              refine ⟨fun h => (by cases h), CallsIn.inRound l (callsIn_wide.2 (Calls.mono h2 fun e w'' he => ?_))⟩
              cases e <;> first | exact ih _ _ he | exact he
            case row row args =>
              refine ⟨fun h => (by cases h), ?_⟩
              exact rowsIn_of (h2.mono fun v w'' he => ih _ _ he)
          | halt x w' => cases x <;> simp only [Oper.upon] at h2 <;> simp only [Oper.uponIn] <;> exact h2
        · exact absurd h2.2 hL
      · rw [if_neg hw] at h2 ⊢
        exact ⟨fun _ _ => trivial, ih _ _ h2⟩

section
variable {P : Program} {ops : Array Oper} {md : Region.Mode}
theorem wpIn_region_head {id N L : Nat} {Q : Exit → Act → World → Prop} {a : Act} {W : World} {l : List Oper} (n m : Nat) (Z : Nat → Obj) (hP : P.follows .mixedOrders = true) (hB : headB .any l.toArray n m = true)
    (hm : a.tmps.size = m) (hdf : noDefer l = true) (hL : ¬ LetsOut Q)
    (hZ : ∀ i o, i < n → l.toArray[i]? = some o → isAlloc o = true → ∀ (ρ : Operand → Value) (w : World), (execOp ρ o).run P w = .ok (.value (.pointer (some ⟨w.heap.size, 0, none⟩))) (w.alloc (Z i)))
    (hQ : ∀ (c : List PanicEntry) (a : Act) (d : Nat) (v : Value) (w : World), Q (.panic c) (a.put (some d) v) w → Q (.panic c) a w)
    (h : wpHead P l.toArray W (fun a' => ∀ (g : Nat → Nat) (w : World) (a'' : Act), (∃ x, w = plus W x) → (∀ i o, i < n → l.toArray[i]? = some o → isAlloc o = true → W.heap.size ≤ g i ∧ w.heap[g i]? = some (Z i)) →
      (∀ i o j oj, i < n → l.toArray[i]? = some o → isAlloc o = true → j < n → l.toArray[j]? = some oj → isAlloc oj = true → i ≠ j → g i ≠ g j) →
      a''.defers = a'.defers → a''.tmps.size = m →
      (∀ t, a''.tmps.getD t undef = match writer l.toArray t n with | some i => (match l.toArray[i]? with | some o => if isAlloc o then .pointer (some ⟨g i, 0, none⟩) else a'.tmps.getD t undef | none => undef) | none => a'.tmps.getD t undef) →
      wpList P l.toArray Q (l.drop n) a'' w) (l.take n) a) : (Code.region id l.toArray true).wpIn (Fence.wide.inRound L) N P Q a W := by
  have H := headOK_of hB
  have hle : n ≤ l.length := by simpa using H.le
  have htl : (l.take n).length = n := by simp; omega
  obtain ⟨vals, _, h2, h3⟩ := wpHead_vals (ops := l.toArray) (l.take n) 0 a a (fun _ => undef) (fun j hj => by
    have hj' : j < n := by omega
    simp [hj']) rfl h
  rw [Nat.zero_add, htl] at h3
  refine wpIn_region_any hP (wpAny_in hdf hL _ _ _ _ ?_)
  have hc := cntU_start (ops := l.toArray) n (by simpa using hle)
  have key := wpAny_head (P := P) (Q := Q) (vals := vals) (Z := Z) (a0 := a) (W := W) H hm hZ
    (fun i o hi ho hA => h2 i o (Nat.zero_le _) (by omega) ho hA) hQ ?_ n (Array.replicate l.toArray.size false) a { W with drawn := W.drawn + 1 } (head_start n) hc
    ⟨⟨⟨#[], W.drawn + 1⟩, by simp [plus]⟩, rfl, hm, fun _ => 0, fun i o _ _ _ hl => (by rw [getD_replicate_false] at hl; cases hl), fun i o j oj _ _ _ hl => (by rw [getD_replicate_false] at hl; cases hl), fun t => by
      unfold valAt
      cases writer l.toArray t n with
      | none => rfl
      | some i => simp only [getD_replicate_false, Bool.false_eq_true, if_false]⟩
  · rw [show n + (l.toArray.size - n) = l.toArray.size by simp; omega] at key
    exact key
  · intro a' w hs
    obtain ⟨hx, hdf, hsz, g, hg, hap, hv⟩ := hs
    have hL : ∀ i, i < n → (((List.range l.toArray.size).map (fun i => decide (i < n))).toArray).getD i false = true := fun i hi => by
      have : i < l.length := by omega
      simp [this, hi]
    have hw := h3 g w a' hx (fun i o hi ho hA => hg i o hi ho hA (hL i hi)) (fun i o j oj hi ho hA hj hoj hAj hne => hap i o j oj hi ho hA (hL i hi) hj hoj hAj (hL j hj) hne) (by rw [hdf, (lexAct_size vals a n).2]) hsz (fun t => by
      rw [hv t, lexAct_val H vals a hm t n (Nat.le_refl _)]
      unfold valAt
      cases hwr : writer l.toArray t n with
      | none => rfl
      | some i =>
        obtain ⟨hin, hit⟩ := writer_some hwr
        simp only [hL i hin, if_true, hin]
        cases hoi : l.toArray[i]? with
        | none => rfl
        | some o =>
          by_cases hA : isAlloc o = true
          · simp [hA]
          · simp [hA])
    have hseq := H.seq
    have hdl : (l.drop n).length = l.toArray.size - n := by simp
    rw [← hdl] at hseq ⊢
    exact wpAny_of_seq (md := .any) (Q' := Q) (l.drop n) n _ a' w (fun j => by simp [List.getElem?_drop]) hseq hw

theorem wpIn_region_plain {id N L : Nat} {Q : Exit → Act → World → Prop} {a : Act} {W : World} {l : List Oper} (n m : Nat) (hP : P.follows .mixedOrders = true) (hB : headB .any l.toArray n m = true)
    (hA : noAlloc (l.take n) = true) (hm : a.tmps.size = m) (hdf : noDefer l = true)
    (h : wpHead P l.toArray W (fun a' => a'.tmps.size = m → ∀ x : Ext, wpList P l.toArray (OnlyN Q) (l.drop n) a' (plus W x)) (l.take n) a) : (Code.region id l.toArray true).wpIn (Fence.wide.inRound L) N P Q a W := by
  have hno : ∀ i o, i < n → l.toArray[i]? = some o → isAlloc o = true → False := fun i o hi ho hAo => by
    have : o ∈ l.take n := by
      rw [List.mem_iff_getElem?]
      exact ⟨i, by simpa [hi] using ho⟩
    have := List.all_eq_true.1 hA o this
    rw [hAo] at this
    cases this
  refine wpIn_mono (Q := OnlyN Q) ?_ (fun e a w h => by cases e <;> first | exact h | exact h.elim)
  refine wpIn_region_head n m (fun _ => .cells #[] 0) hP hB hm hdf (onlyN_lets Q) (fun i o hi ho hAo => (hno i o hi ho hAo).elim) (fun _ _ _ _ _ h => h) ?_
  refine wpHead_mono ?_ _ _ hm h
  rintro a1 hsz hq g w a'' ⟨x, rfl⟩ _ _ hdf hsz' hv
  have : a'' = a1 := act_ext (by omega) (fun t => by
    rw [hv t]
    cases hw : writer l.toArray t n with
    | none => rfl
    | some i =>
      obtain ⟨hin, hit⟩ := writer_some hw
      cases hoi : l.toArray[i]? with
      | none => rw [hoi] at hit; cases hit
      | some o =>
        simp only [hoi]
        rw [if_neg (fun hAo => hno i o hin hoi hAo)]) hdf
  subst this
  exact hq hsz x

theorem wpIn_region_one {id N L : Nat} {Q : Exit → Act → World → Prop} {a : Act} {W : World} {l : List Oper} (n m k : Nat) (d : Nat) (T : TypeId) (Z : Obj) (hP : P.follows .mixedOrders = true) (hB : headB .any l.toArray n m = true)
    (hk : ((l.take n).drop (k + 1)).all (fun o => !isAlloc o) && (l.take k).all (fun o => !isAlloc o) && decide (k < n) && (match l[k]? with | some o => isAllocOf T o && o.dst == some d | none => false) = true) (hm : a.tmps.size = m) (hdf : noDefer l = true)
    (hZ : ∀ o : Oper, o.op = .alloc T → ∀ (ρ : Operand → Value) (w : World), (execOp ρ o).run P w = .ok (.value (.pointer (some ⟨w.heap.size, 0, none⟩))) (w.alloc Z))
    (h : wpHead P l.toArray W (fun a' => a'.tmps.size = m → ∀ x1 x2 : Ext, wpList P l.toArray (OnlyN Q) (l.drop n) (a'.put (some d) (.pointer (some ⟨(plus W x1).heap.size, 0, none⟩))) (plus ((plus W x1).alloc Z) x2)) (l.take n) a) :
    (Code.region id l.toArray true).wpIn (Fence.wide.inRound L) N P Q a W := by
  simp only [Bool.and_eq_true, decide_eq_true_eq] at hk
  obtain ⟨⟨⟨hk1, hk2⟩, hkn⟩, hk3⟩ := hk
  have H := headOK_of hB
  obtain ⟨ok, hok, hokT, hokA, hokd⟩ : ∃ o, l[k]? = some o ∧ o.op = .alloc T ∧ isAlloc o = true ∧ o.dst = some d := by
    split at hk3
    · rename_i o ho
      simp only [Bool.and_eq_true, beq_iff_eq] at hk3
      exact ⟨o, ho, isAllocOf_op hk3.1, isAllocOf_is hk3.1, hk3.2⟩
    · cases hk3
  have honly : ∀ i o, i < n → l.toArray[i]? = some o → isAlloc o = true → i = k := fun i o hi ho hAo => by
    have ho' : l[i]? = some o := by simpa using ho
    rcases Nat.lt_trichotomy i k with h1 | h1 | h1
    · have hmem : o ∈ l.take k := by
        rw [List.mem_iff_getElem?]
        exact ⟨i, by rw [List.getElem?_take, if_pos h1]; exact ho'⟩
      have := List.all_eq_true.1 hk2 o hmem
      rw [hAo] at this; cases this
    · exact h1
    · have hmem : o ∈ (l.take n).drop (k + 1) := by
        rw [List.mem_iff_getElem?]
        exact ⟨i - (k + 1), by rw [List.getElem?_drop, show k + 1 + (i - (k + 1)) = i by omega, List.getElem?_take, if_pos hi]; exact ho'⟩
      have := List.all_eq_true.1 hk1 o hmem
      rw [hAo] at this; cases this
  refine wpIn_mono (Q := OnlyN Q) ?_ (fun e a w h => by cases e <;> first | exact h | exact h.elim)
  refine wpIn_region_head n m (fun _ => Z) hP hB hm hdf (onlyN_lets Q) (fun i o hi ho hAo => by
    have := honly i o hi ho hAo
    subst this
    have h1 : l[i]? = some o := by simpa using ho
    rw [hok] at h1
    exact hZ o (Option.some.inj h1 ▸ hokT)) (fun _ _ _ _ _ h => h) ?_
  refine wpHead_mono ?_ _ _ hm h
  rintro a1 hsz hq g w a'' ⟨x, rfl⟩ hg _ hdf hsz' hv
  obtain ⟨g1, g2⟩ := hg k ok hkn (by simpa using hok) hokA
  obtain ⟨x1, x2, e1, e2⟩ := alloc_split g1 g2
  have hdm := ((H.at_ k ok hkn (by simpa using hok)).1 d hokd)
  have : a'' = a1.put (some d) (.pointer (some ⟨(plus W x1).heap.size, 0, none⟩)) := act_ext (by rw [size_put]; omega) (fun t => by
    rw [hv t, getD_put _ _ _ _ (by omega)]
    by_cases htd : t = d
    · subst htd
      rw [if_pos rfl]
      have hwk : writer l.toArray t n = some k := by
        cases hw : writer l.toArray t n with
        | none =>
          have := writer_none hw k hkn
          simp [hok, hokd] at this
        | some i =>
          by_cases hik : i = k
          · rw [hik]
          · exact absurd (writer_some hw).2 (hdm.2 i (writer_some hw).1 hik)
      have hok' : l.toArray[k]? = some ok := by simpa using hok
      simp only [hwk, hok', hokA, if_true, e2]
    · rw [if_neg htd]
      cases hw : writer l.toArray t n with
      | none => rfl
      | some i =>
        obtain ⟨hin, hit⟩ := writer_some hw
        cases hoi : l.toArray[i]? with
        | none => rw [hoi] at hit; cases hit
        | some o =>
          simp only [hoi]
          rw [if_neg (fun hAo => by
            have := honly i o hin hoi hAo
            subst this
            rw [hoi] at hit
            have : o = ok := by
              have h1 : l[i]? = some o := by simpa using hoi
              rw [hok] at h1; exact (Option.some.inj h1).symm
            subst this
            simp [hokd] at hit
            exact htd hit.symm)]) (by rw [hdf, defers_put])
  subst this
  rw [e1]
  exact hq hsz x1 x2

end
end Go.Proofs.Ytmlefodnbbkilaa

/- No program in it: a world with new blocks behind it ('plus'); a region that draws its order, whose head reads, reckons, calls (the callees lay new blocks alone) and makes variables, and whose tail comes in the order of the text. -/
import Derived.StillTail
import Derived.Below
import Derived.WalkKit
namespace Go.Proofs.Ytmlefodnbbkilaa
open Go.RowKit

structure Ext where
  blocks : Array Obj
  draws : Nat
instance : Nonempty Ext := ⟨⟨#[], 0⟩⟩

/-- w with new blocks. -/
def plus (w : World) (e : Ext) : World := { w with heap := w.heap ++ e.blocks, drawn := e.draws }
/-- Block b is there. -/
def has (w : World) (b : Nat) : Prop := b < w.heap.size

theorem plus_of_below {w w' : World} (h : Below w.heap.size w w') : ∃ e, w' = plus w e := by
  refine ⟨⟨w'.heap.extract w.heap.size w'.heap.size, w'.drawn⟩, ?_⟩
  have hh : w'.heap = w.heap ++ w'.heap.extract w.heap.size w'.heap.size := by
    apply Array.ext_getElem?
    intro i
    rw [Array.getElem?_append]
    split
    · exact h.block i ‹_›
    · rename_i hi
      rw [Array.getElem?_extract]
      have hs := h.size
      by_cases h2 : i < w'.heap.size
      · rw [if_pos (by omega), show w.heap.size + (i - w.heap.size) = i by omega]
      · rw [if_neg (by omega), Array.getElem?_eq_none (by omega)]
  obtain ⟨h1, h2, h3, _, _⟩ := h
  cases w'
  simp only [plus] at *
  subst h1 h2 h3
  congr 1

theorem size_plus (w : World) (e : Ext) : (plus w e).heap.size = w.heap.size + e.blocks.size := by simp [plus]
theorem heap_plus {w : World} (e : Ext) {k : Nat} (h : has w k) : (plus w e).heap[k]? = w.heap[k]? := by
  unfold has at h
  simp only [plus]
  rw [Array.getElem?_append, if_pos h]
theorem below_plus (w : World) (e : Ext) : Below w.heap.size w (plus w e) := ⟨rfl, rfl, rfl, by simp [plus], fun _ hk => heap_plus e hk⟩
theorem cell?_plus {w : World} {e : Ext} {a : Addr} (h : has w a.block) : (plus w e).cell? a = w.cell? a := by unfold World.cell?; rw [heap_plus e h]
theorem frozen?_plus {w : World} {e : Ext} {a : Addr} (h : has w a.block) : (plus w e).frozen? a = w.frozen? a := by unfold World.frozen?; rw [heap_plus e h]
theorem shape?_plus {w : World} {e : Ext} {r : Nat} (h : has w r) : (plus w e).shape? r = w.shape? r := by unfold World.shape?; rw [heap_plus e h]
theorem setCell_plus {w : World} {e : Ext} {a : Addr} {v : Value} (h : has w a.block) : (plus w e).setCell a v = plus (w.setCell a v) e := by
  unfold has at h
  unfold World.setCell plus
  simp only
  congr 1
  apply Array.ext_getElem?
  intro i
  simp only [Array.getElem?_modify, Array.getElem?_append, Array.size_modify]
  by_cases h1 : i < w.heap.size
  · simp only [h1, if_true]
  · simp only [h1, if_false]
    rw [if_neg (by omega)]
theorem drew_plus (w : World) (e : Ext) : plus w.drew e = plus w e := rfl
theorem plus_drew (w : World) (e : Ext) : (plus w e).drew = plus w ⟨e.blocks, e.draws + 1⟩ := rfl
theorem tape_plus (w : World) (e : Ext) : (plus w e).tape = w.tape := rfl
theorem os_plus (w : World) (e : Ext) : (plus w e).os = w.os := rfl
theorem output_plus (w : World) (e : Ext) : (plus w e).output = w.output := rfl
theorem plus_plus (w : World) (e e' : Ext) : plus (plus w e) e' = plus w ⟨e.blocks ++ e'.blocks, e'.draws⟩ := by simp [plus, Array.append_assoc]
theorem drew_is_plus (w : World) : w.drew = plus w ⟨#[], w.drawn + 1⟩ := by simp [plus]
theorem has_alloc (w : World) (o : Obj) (b : Nat) : has (w.alloc o) b ↔ b = w.heap.size ∨ has w b := by simp [has]; omega
theorem has_plus {w : World} {e : Ext} {b : Nat} (h : has w b) : has (plus w e) b := by unfold has at *; rw [size_plus]; omega
theorem has_plus_iff (w : World) (e : Ext) (b : Nat) : has (plus w e) b ↔ has w b ∨ (w.heap.size ≤ b ∧ b < w.heap.size + e.blocks.size) := by unfold has; rw [size_plus]; omega
theorem has_setCell (w : World) (a : Addr) (v : Value) (b : Nat) : has (w.setCell a v) b ↔ has w b := by simp [has, World.setCell]
theorem has_drew (w : World) (b : Nat) : has w.drew b ↔ has w b := Iff.rfl
theorem has_of_cell {w : World} {a : Addr} {v : Value} (h : w.cell? a = some v) : has w a.block := World.block_lt_of_cell? w a h
theorem cell?_alloc_has {w : World} {o : Obj} {a : Addr} (h : has w a.block) : (w.alloc o).cell? a = w.cell? a := World.cell?_of_block (Below.heap_alloc w o a.block h)
theorem frozen?_alloc_has {w : World} {o : Obj} {a : Addr} (h : has w a.block) : (w.alloc o).frozen? a = w.frozen? a := World.frozen?_of_block (Below.heap_alloc w o a.block h)
theorem setCell_alloc_has {w : World} {o : Obj} {a : Addr} {v : Value} (h : has w a.block) : (w.alloc o).setCell a v = (w.setCell a v).alloc o := by
  unfold has at h
  unfold World.setCell World.alloc
  simp only
  congr 1
  apply Array.ext_getElem?
  intro i
  simp only [Array.getElem?_modify, Array.getElem?_push, Array.size_modify]
  by_cases h1 : i = w.heap.size
  · subst h1
    have : a.block ≠ w.heap.size := by omega
    simp [this]
  · simp [h1]

/-- A call that hands back v, and lays new blocks alone. -/
def Ret (P : Program) (f : FuncId) (args : Array Value) (w : World) (v : Value) : Prop := Calls P f args w fun e w' => e = .returned v ∧ ∃ x, w' = plus w x
theorem Ret.of {P : Program} {f : FuncId} {args : Array Value} {w : World} {v : Value} (h : Calls P f args w fun e w' => e = .returned v ∧ Below w.heap.size w w') : Ret P f args w v :=
  h.mono fun _ _ ⟨h1, h2⟩ => ⟨h1, plus_of_below h2⟩
theorem Ret.out {P : Program} {f : FuncId} {args : Array Value} {w : World} {v : Value} (h : Ret P f args w v) : Calls P f args w fun e w' => e = .returned v ∧ ∃ x, w' = plus w x := h
theorem Ret.below {P : Program} {f : FuncId} {args : Array Value} {w : World} {v : Value} (h : Ret P f args w v) : Calls P f args w fun e w' => e = .returned v ∧ Below w.heap.size w w' :=
  h.out.mono fun _ _ ⟨h1, x, h2⟩ => ⟨h1, h2 ▸ below_plus w x⟩
theorem Below.plus {B : Nat} {a w : World} (h : Below B a w) (hB : B ≤ w.heap.size) (e : Ext) : Below B a (plus w e) := h.trans ((below_plus w e).mono hB)

/-! ### Regions that draw their order -/
section
variable {P : Program} {ops : Array Oper} {md : Region.Mode}

def headUpon (P : Program) (w : World) (v : Value) : Result Next → Prop
  | .ok (.value u) w' => w' = w ∧ u = v
  | .ok .skip w' => w' = w ∧ v = undef
  | .ok (.enter f args) w' => w' = w ∧ Ret P f args w v
  | _ => False
def headAt (P : Program) (o : Oper) (a : Act) (w : World) (v : Value) : Prop := headUpon P w v ((execOp a.eval o).run P w)
/-- One value, in every world that has new blocks behind W. -/
def headOp (P : Program) (o : Oper) (a : Act) (W : World) (next : Act → Prop) : Prop := ∃ v, (∀ x : Ext, headAt P o a (plus W x) v) ∧ next (a.put o.dst v)
def isAlloc (o : Oper) : Bool := match o.op with | .alloc _ => true | _ => false
/-- A copy, or a part of what a call handed back: it hangs on no world. -/
def isPure (o : Oper) : Bool := match o.op with | .move _ => true | .extract _ _ => true | _ => false
theorem pure_run {o : Oper} (hp : isPure o = true) {ρ : Operand → Value} {v : Value} {w w1 : World} (h : (execOp ρ o).run P w = .ok (.value v) w1) : ∀ w', (execOp ρ o).run P w' = .ok (.value v) w' := by
  obtain ⟨dst, op, type, pos, after, guard⟩ := o
  intro w'
  cases op <;> simp only [isPure, Bool.false_eq_true] at hp
  case move x =>
    simp [execOp] at h ⊢
    exact h.1
  case extract x i =>
    simp only [execOp, Instr.extract] at h ⊢
    cases hx : ρ x with
    | tuple vs =>
      simp only [hx] at h ⊢
      cases hv : vs[i]? with
      | some u =>
        simp only [hv] at h ⊢
        simp at h ⊢
        exact h.1
      | none => simp only [hv] at h; simp [stuck] at h
    | _ => simp only [hx] at h; simp [stuck] at h
theorem pure_not_alloc {o : Oper} (h : isPure o = true) : isAlloc o = false := by
  unfold isPure at h
  unfold isAlloc
  split at h <;> first | (split <;> simp_all) | cases h
/-- The head, in the order of the text; what makes a variable is passed over. -/
def wpHead (P : Program) (ops : Array Oper) (W : World) (Q : Act → Prop) : List Oper → Act → Prop
  | [], a => Q a
  | o :: rest, a => if isAlloc o then wpHead P ops W Q rest a else if Region.wanted o (yielded ops a.tmps) then headOp P o a W (wpHead P ops W Q rest) else wpHead P ops W Q rest (a.put o.dst undef)

/-- What operation i leaves, of the values vals. -/
def lexAct (ops : Array Oper) (vals : Nat → Value) (a : Act) : Nat → Act
  | 0 => a
  | i + 1 => match ops[i]? with
    | some o => if isAlloc o then lexAct ops vals a i else (lexAct ops vals a i).put o.dst (vals i)
    | none => lexAct ops vals a i

def stepOK (P : Program) (ops : Array Oper) (W : World) (o : Oper) (a : Act) (v : Value) : Prop :=
  (Region.wanted o (yielded ops a.tmps) = true ∧ ∀ x : Ext, headAt P o a (plus W x) v) ∨ (Region.wanted o (yielded ops a.tmps) = false ∧ v = undef)

theorem lexAct_congr (ops : Array Oper) {vals vals' : Nat → Value} (a : Act) : ∀ n, (∀ i, i < n → vals i = vals' i) → lexAct ops vals a n = lexAct ops vals' a n
  | 0, _ => rfl
  | n + 1, h => by
    have ih := lexAct_congr ops a n (fun i hi => h i (by omega))
    simp only [lexAct, ih, h n (by omega)]

theorem wpHead_vals {W : World} {Q : Act → Prop} : ∀ (l : List Oper) (k : Nat) (a0 a : Act) (vals : Nat → Value), (∀ j, j < l.length → l[j]? = ops[k + j]?) → a = lexAct ops vals a0 k →
    wpHead P ops W Q l a → ∃ vals' : Nat → Value, (∀ i, i < k → vals' i = vals i) ∧
      (∀ i o, k ≤ i → i < k + l.length → ops[i]? = some o → isAlloc o = false → stepOK P ops W o (lexAct ops vals' a0 i) (vals' i)) ∧ Q (lexAct ops vals' a0 (k + l.length))
  | [], k, a0, a, vals, _, ha, h => ⟨vals, fun _ _ => rfl, fun i o h1 h2 => by simp at h2; omega, by subst ha; exact h⟩
  | o :: rest, k, a0, a, vals, hl, ha, h => by
    have h0 : ops[k]? = some o := by simpa using (hl 0 (by simp)).symm
    have hl' : ∀ j, j < rest.length → rest[j]? = ops[k + 1 + j]? := fun j hj => by
      have := hl (j + 1) (by simp; omega)
      simpa [Nat.add_assoc, Nat.add_comm 1 j] using this
    have go : ∀ v, (isAlloc o = false → stepOK P ops W o a v) → wpHead P ops W Q rest (if isAlloc o then a else a.put o.dst v) → ∃ vals' : Nat → Value, (∀ i, i < k → vals' i = vals i) ∧
      (∀ i o', k ≤ i → i < k + (o :: rest).length → ops[i]? = some o' → isAlloc o' = false → stepOK P ops W o' (lexAct ops vals' a0 i) (vals' i)) ∧ Q (lexAct ops vals' a0 (k + (o :: rest).length)) := fun v hv hr => by
      have ha' : (if isAlloc o then a else a.put o.dst v) = lexAct ops (fun i => if i = k then v else vals i) a0 (k + 1) := by
        have e : lexAct ops (fun i => if i = k then v else vals i) a0 k = a := by
          rw [ha]; exact lexAct_congr ops a0 k (fun i hi => by rw [if_neg (by omega)])
        simp only [lexAct, h0, e, if_true]
      obtain ⟨vals', g1, g2, g3⟩ := wpHead_vals rest (k + 1) a0 _ _ hl' ha' hr
      refine ⟨vals', fun i hi => by rw [g1 i (by omega), if_neg (by omega)], fun i o' h1 h2 h3 h4 => ?_, by simpa [Nat.add_assoc, Nat.add_comm 1] using g3⟩
      by_cases hik : i = k
      · subst hik
        have : o' = o := Option.some.inj (h3.symm.trans h0)
        subst this
        rw [g1 i (by omega), if_pos rfl, lexAct_congr ops a0 i (fun j hj => by rw [g1 j (by omega), if_neg (by omega)]), ← ha]
        exact hv h4
      · exact g2 i o' (by omega) (by simp at h2; omega) h3 h4
    simp only [wpHead] at h
    by_cases hA : isAlloc o = true
    · rw [if_pos hA] at h
      exact go undef (fun h' => by rw [hA] at h'; cases h') (by rw [if_pos hA]; exact h)
    · have hA' : isAlloc o = false := by simpa using hA
      rw [if_neg hA] at h
      by_cases hw : Region.wanted o (yielded ops a.tmps) = true
      · rw [if_pos hw] at h
        obtain ⟨v, h1, h2⟩ := h
        exact go v (fun _ => .inl ⟨hw, h1⟩) (by rw [if_neg hA]; exact h2)
      · rw [if_neg hw] at h
        exact go undef (fun _ => .inr ⟨by simpa using hw, rfl⟩) (by rw [if_neg hA]; exact h)

/-- Who writes temporary t, of the first n. -/
def writer (ops : Array Oper) (t : Nat) : Nat → Option Nat
  | 0 => none
  | n + 1 => if (ops[n]?).bind (·.dst) = some t then some n else writer ops t n

theorem writer_some {t : Nat} : ∀ {n i : Nat}, writer ops t n = some i → i < n ∧ (ops[i]?).bind (·.dst) = some t
  | 0, i, h => by cases h
  | n + 1, i, h => by
    simp only [writer] at h
    split at h
    · cases h; exact ⟨by omega, ‹_›⟩
    · obtain ⟨h1, h2⟩ := writer_some h; exact ⟨by omega, h2⟩
theorem writer_none {t : Nat} : ∀ {n : Nat}, writer ops t n = none → ∀ i, i < n → (ops[i]?).bind (·.dst) ≠ some t
  | n + 1, h, i, hi => by
    simp only [writer] at h
    split at h
    · cases h
    · by_cases hin : i = n
      · subst hin; assumption
      · exact writer_none h i (by omega)

/-- What an operation waits for, as bits. -/
def maskOf (md : Region.Mode) (o : Oper) : Nat := o.after.foldl (fun m e => if Region.binds md e then m ||| (1 <<< e.on) else m) 0
/-- What is waited for at any distance, as bits. -/
def coverN (md : Region.Mode) (ops : Array Oper) : Nat → Nat → Nat
  | 0, m => m
  | j + 1, m => coverN md ops j (if m.testBit j then (match ops[j]? with | some o => m ||| maskOf md o | none => m) else m)
def coverB (md : Region.Mode) (ops : Array Oper) (n : Nat) : Bool :=
  match ops[n]? with
  | none => false
  | some o => (List.range n).all fun i => ((ops[i]?).map isPure).getD false || (coverN md ops n (maskOf md o)).testBit i
theorem maskOf_spec {o : Oper} {L : Nat → Prop} (h : ∀ e ∈ o.after, Region.binds md e = true → L e.on) {i : Nat} (hi : (maskOf md o).testBit i = true) : L i := by
  unfold maskOf at hi
  rw [← Array.foldl_toList] at hi
  have h' : ∀ e ∈ o.after.toList, Region.binds md e = true → L e.on := fun e he => h e (by simpa using he)
  have key : ∀ (l : List _) (m : Nat), (∀ e ∈ l, Region.binds md e = true → L e.on) → (∀ i, m.testBit i = true → L i) → ∀ i, (l.foldl (fun m e => if Region.binds md e then m ||| (1 <<< e.on) else m) m).testBit i = true → L i := by
    intro l
    induction l with
    | nil => intro m _ hm i hi; exact hm i hi
    | cons e l ih =>
      intro m hl hm i hi
      refine ih _ (fun e' he' => hl e' (List.mem_cons_of_mem _ he')) (fun i hi => ?_) i hi
      dsimp only at hi
      split at hi
      · rename_i hb
        rw [Nat.testBit_or, Bool.or_eq_true] at hi
        rcases hi with hi | hi
        · exact hm i hi
        · rw [Nat.testBit_shiftLeft] at hi
          simp only [Bool.and_eq_true, decide_eq_true_eq] at hi
          have : i = e.on := by
            have h2 := hi.2
            rcases Nat.lt_or_ge (i - e.on) 1 with h3 | h3
            · omega
            · exfalso
              rw [Nat.testBit_lt_two_pow (Nat.lt_of_lt_of_le (by decide : 1 < 2 ^ 1) (Nat.pow_le_pow_right (by decide) h3))] at h2
              cases h2
          rw [this]
          exact hl e List.mem_cons_self hb
      · exact hm i hi
  exact key _ 0 h' (fun i hi => by simp at hi) i hi
theorem coverN_spec {L : Nat → Prop} (hc : ∀ j oj, ops[j]? = some oj → L j → ∀ e ∈ oj.after, Region.binds md e = true → L e.on) : ∀ (k m : Nat), (∀ i, m.testBit i = true → L i) → ∀ i, (coverN md ops k m).testBit i = true → L i
  | 0, m, hm, i, hi => hm i hi
  | j + 1, m, hm, i, hi => by
    refine coverN_spec hc j _ (fun i hi => ?_) i hi
    split at hi
    · rename_i hj
      split at hi
      · rename_i o ho
        rw [Nat.testBit_or, Bool.or_eq_true] at hi
        rcases hi with hi | hi
        · exact hm i hi
        · exact maskOf_spec (hc j o ho (hm j hj)) hi
      · exact hm i hi
    · exact hm i hi

/-- The Bool over a region: n operations ahead, all temporaries below m. -/
def headB (md : Region.Mode) (ops : Array Oper) (n m : Nat) : Bool :=
  Region.noSelect ops && decide (n ≤ ops.size) &&
  ((List.range n).all fun i => match ops[i]? with
    | none => false
    | some o =>
      (match o.dst with
        | some d => decide (d < m) && (List.range n).all (fun j => decide (j = i) || (ops[j]?).bind (·.dst) != some d)
        | none => true) &&
      (o.after.all fun e => !Region.binds md e || decide (e.on < i)) &&
      (if isAlloc o then o.guard.isNone && o.dst.isSome else
        (List.range n).all fun j => match (ops[j]?).bind (·.dst) with
          | none => true
          | some d => !(o.looksAt ops).contains d || (decide (j < i) && !((ops[j]?).map isAlloc).getD true && Region.waitsFor md ops i j))) &&
  (if n = ops.size then true else ((List.range n).all (fun i => ((ops[i]?).map isPure).getD false || Region.waitsFor md ops n i || (List.range n).any (fun j => Region.waitsFor md ops n j && Region.waitsFor md ops j i)) || coverB md ops n) && Region.chainB md ops n) &&
  ((List.range n).all fun i => match ops[i]? with
    | none => false
    | some o => !isPure o || (List.range ops.size).all fun j => decide (j = i) || Region.waitsFor md ops j i || Region.waitsFor md ops i j || (match ops[j]? with | some oj => o.apart ops oj | none => true)) &&
  Region.seqB md ops (ops.size - n) n ((List.range ops.size).map (fun i => decide (i < n))).toArray

structure HeadOK (md : Region.Mode) (ops : Array Oper) (n m : Nat) : Prop where
  sel : Region.noSelect ops = true
  le : n ≤ ops.size
  at_ : ∀ i o, i < n → ops[i]? = some o → (∀ d : Nat, o.dst = some d → d < m ∧ ∀ j, j < n → j ≠ i → (ops[j]?).bind (·.dst) ≠ some d) ∧ (∀ e ∈ o.after, Region.binds md e = true → e.on < i) ∧
    (isAlloc o = true → o.guard = none ∧ ∃ d, o.dst = some d) ∧
    (isAlloc o = false → ∀ j d, j < n → (ops[j]?).bind (·.dst) = some d → d ∈ o.looksAt ops → j < i ∧ (∀ oj, ops[j]? = some oj → isAlloc oj = false) ∧ Region.waitsFor md ops i j = true)
  tail : n = ops.size ∨ ((∀ L : Nat → Prop, (∀ o, ops[n]? = some o → ∀ e ∈ o.after, Region.binds md e = true → L e.on) → (∀ j oj, ops[j]? = some oj → L j → ∀ e ∈ oj.after, Region.binds md e = true → L e.on) → ∀ i o, i < n → ops[i]? = some o → isPure o = false → L i) ∧ Region.chainB md ops n = true)
  free : ∀ i o, i < n → ops[i]? = some o → isPure o = true → ∀ j oj, ops[j]? = some oj → j ≠ i → Region.waitsFor md ops j i = true ∨ Region.waitsFor md ops i j = true ∨ o.apart ops oj = true
  seq : Region.seqB md ops (ops.size - n) n ((List.range ops.size).map (fun i => decide (i < n))).toArray = true

theorem headOK_of {n m : Nat} (h : headB md ops n m = true) : HeadOK md ops n m := by
  simp only [headB, Bool.and_eq_true, decide_eq_true_eq] at h
  obtain ⟨⟨⟨⟨⟨h1, h2⟩, h3⟩, h4⟩, h6⟩, h5⟩ := h
  refine ⟨h1, h2, fun i o hi ho => ?_, ?_, ?_, h5⟩
  · have h6 := List.all_eq_true.1 h3 i (List.mem_range.2 hi)
    simp only [ho, Bool.and_eq_true] at h6
    obtain ⟨⟨h7, h8⟩, h9⟩ := h6
    refine ⟨fun d hd => ?_, fun e he hb => ?_, fun hA => ?_, fun hA j d hj hjd hdl => ?_⟩
    · rw [hd] at h7
      simp only [Bool.and_eq_true, decide_eq_true_eq] at h7
      refine ⟨h7.1, fun j hj hji => ?_⟩
      have := List.all_eq_true.1 h7.2 j (List.mem_range.2 hj)
      simpa [hji] using this
    · have := Array.all_eq_true'.1 h8 e he
      simpa [hb] using this
    · rw [if_pos hA] at h9
      simp only [Bool.and_eq_true, Option.isNone_iff_eq_none, Option.isSome_iff_exists] at h9
      exact h9
    · rw [if_neg (by simp [hA])] at h9
      have := List.all_eq_true.1 h9 j (List.mem_range.2 hj)
      simp only [hjd] at this
      have hc : (o.looksAt ops).contains d = true := by simpa using hdl
      simp only [hc, Bool.not_true, Bool.false_or, Bool.and_eq_true, decide_eq_true_eq] at this
      refine ⟨this.1.1, fun oj hoj => ?_, this.2⟩
      have h10 := this.1.2
      simpa [hoj] using h10
  · split at h4
    · exact .inl ‹_›
    · simp only [Bool.and_eq_true] at h4
      refine .inr ⟨fun L hn hc i o hi ho hp => ?_, h4.2⟩
      rcases (by simpa only [Bool.or_eq_true] using h4.1 : _ ∨ coverB md ops n = true) with h5 | h5
      · have h7 := List.all_eq_true.1 h5 i (List.mem_range.2 hi)
        simp only [ho, hp, Option.map_some, Option.getD_some, Bool.false_or, Bool.or_eq_true] at h7
        rcases h7 with h7 | h7
        · obtain ⟨on, hon, e, he, hb, h8⟩ := Region.waitsFor_spec h7
          exact h8 ▸ hn on hon e he hb
        · obtain ⟨j, _, h8⟩ := List.any_eq_true.1 h7
          simp only [Bool.and_eq_true] at h8
          obtain ⟨on, hon, e, he, hb, h9⟩ := Region.waitsFor_spec h8.1
          obtain ⟨oj, hoj, e', he', hb', h10⟩ := Region.waitsFor_spec h8.2
          exact h10 ▸ hc j oj hoj (h9 ▸ hn on hon e he hb) e' he' hb'
      · unfold coverB at h5
        split at h5
        · cases h5
        · rename_i on hon
          have h7 := List.all_eq_true.1 h5 i (List.mem_range.2 hi)
          simp only [ho, hp, Option.map_some, Option.getD_some, Bool.false_or] at h7
          exact coverN_spec hc n _ (fun i hi => maskOf_spec (hn on hon) hi) i h7
  · intro i o hi ho hp j oj hoj hji
    have h7 := List.all_eq_true.1 h6 i (List.mem_range.2 hi)
    simp only [ho, hp, Bool.not_true, Bool.false_or] at h7
    have h8 := List.all_eq_true.1 h7 j (List.mem_range.2 (Array.getElem?_eq_some_iff.1 hoj).1)
    simp only [hoj, hji, decide_false, Bool.false_or, Bool.or_eq_true] at h8
    rcases h8 with (h8 | h8) | h8
    · exact .inl h8
    · exact .inr (.inl h8)
    · exact .inr (.inr h8)

def cntU (listed : Array Bool) : Nat → Nat
  | 0 => 0
  | k + 1 => cntU listed k + if listed.getD k true then 0 else 1
theorem cntU_same {listed : Array Bool} {i : Nat} : ∀ k, k ≤ i → cntU (listed.setIfInBounds i true) k = cntU listed k
  | 0, _ => rfl
  | k + 1, h => by simp only [cntU]; rw [cntU_same k (by omega), getD_set_ne true (by omega)]
theorem cntU_set {listed : Array Bool} {i : Nat} (hi : listed.getD i true = false) : ∀ k, i < k → cntU (listed.setIfInBounds i true) k + 1 = cntU listed k
  | k + 1, h => by
    simp only [cntU]
    by_cases hik : i = k
    · subst hik
      rw [cntU_same i (Nat.le_refl _), hi]
      have : (listed.setIfInBounds i true).getD i true = true := by
        rcases Nat.lt_or_ge i listed.size with h' | h'
        · simp [h']
        · simp
      rw [this]; simp
    · rw [getD_set_ne true hik]
      have := cntU_set hi k (by omega)
      omega
theorem cntU_zero {listed : Array Bool} : ∀ k, cntU listed k = 0 → ∀ i, i < k → listed.getD i true = true
  | k + 1, h, i, hi => by
    simp only [cntU] at h
    by_cases hik : i = k
    · subst hik
      cases hc : listed.getD i true
      · rw [hc] at h; simp at h
      · rfl
    · exact cntU_zero k (by omega) i (by omega)
theorem cntU_pos {listed : Array Bool} : ∀ k, cntU listed k ≠ 0 → ∃ i, i < k ∧ listed.getD i true = false ∧ ∀ j, j < i → listed.getD j true = true
  | 0, h => absurd rfl h
  | k + 1, h => by
    by_cases h0 : cntU listed k = 0
    · refine ⟨k, by omega, ?_, fun j hj => cntU_zero k h0 j hj⟩
      simp only [cntU, h0] at h
      cases hc : listed.getD k true
      · rfl
      · rw [hc] at h; simp at h
    · obtain ⟨i, h1, h2, h3⟩ := cntU_pos k h0
      exact ⟨i, by omega, h2, h3⟩

/-- The value of temporary t. -/
def valAt (ops : Array Oper) (n : Nat) (vals : Nat → Value) (g : Nat → Nat) (a0 : Act) (listed : Array Bool) (t : Nat) : Value :=
  match writer ops t n with
  | none => a0.tmps.getD t undef
  | some i => if listed.getD i false then (match ops[i]? with | some o => if isAlloc o then .pointer (some ⟨g i, 0, none⟩) else vals i | none => undef) else a0.tmps.getD t undef

structure HeadState (ops : Array Oper) (n m : Nat) (vals : Nat → Value) (Z : Nat → Obj) (a0 : Act) (W : World) (listed : Array Bool) (a : Act) (w : World) : Prop where
  world : ∃ x, w = plus W x
  defers : a.defers = a0.defers
  size : a.tmps.size = m
  news : ∃ g : Nat → Nat, (∀ i o, i < n → ops[i]? = some o → isAlloc o = true → listed.getD i false = true → W.heap.size ≤ g i ∧ w.heap[g i]? = some (Z i)) ∧
    (∀ i o j oj, i < n → ops[i]? = some o → isAlloc o = true → listed.getD i false = true → j < n → ops[j]? = some oj → isAlloc oj = true → listed.getD j false = true → i ≠ j → g i ≠ g j) ∧
    ∀ t, a.tmps.getD t undef = valAt ops n vals g a0 listed t

theorem getD_put (a : Act) (d : Nat) (v : Value) (t : Nat) (hd : d < a.tmps.size) : (a.put (some d) v).tmps.getD t undef = if t = d then v else a.tmps.getD t undef := by
  by_cases h : t = d
  · subst h
    simp [Act.put, hd]
  · rw [if_neg h]
    have : d ≠ t := fun e => h e.symm
    simp [Act.put, Array.getElem?_setIfInBounds_ne this]
theorem size_put (a : Act) (d : Option Tmp) (v : Value) : (a.put d v).tmps.size = a.tmps.size := by cases d <;> simp [Act.put]
theorem defers_put (a : Act) (d : Option Tmp) (v : Value) : (a.put d v).defers = a.defers := by cases d <;> rfl

theorem lexAct_size (vals : Nat → Value) (a : Act) : ∀ n, (lexAct ops vals a n).tmps.size = a.tmps.size ∧ (lexAct ops vals a n).defers = a.defers
  | 0 => ⟨rfl, rfl⟩
  | n + 1 => by
    have ih := lexAct_size vals a n
    simp only [lexAct]
    split
    · split
      · exact ih
      · exact ⟨(size_put _ _ _).trans ih.1, (defers_put _ _ _).trans ih.2⟩
    · exact ih

theorem lexAct_val {n m : Nat} (H : HeadOK md ops n m) (vals : Nat → Value) (a : Act) (hm : a.tmps.size = m) (t : Nat) : ∀ k, k ≤ n →
    (lexAct ops vals a k).tmps.getD t undef = match writer ops t n with
      | none => a.tmps.getD t undef
      | some i => if i < k then (match ops[i]? with | some o => if isAlloc o then a.tmps.getD t undef else vals i | none => a.tmps.getD t undef) else a.tmps.getD t undef
  | 0, _ => by cases writer ops t n <;> simp [lexAct]
  | k + 1, hk => by
    have ih := lexAct_val H vals a hm t k (by omega)
    simp only [lexAct]
    cases ho : ops[k]? with
    | none =>
      rw [show (match (none : Option Oper) with | some o => if isAlloc o then lexAct ops vals a k else (lexAct ops vals a k).put o.dst (vals k) | none => lexAct ops vals a k) = lexAct ops vals a k from rfl, ih]
      cases hw : writer ops t n with
      | none => rfl
      | some i =>
        have := (writer_some hw).2
        have hik : i ≠ k := by rintro rfl; rw [ho] at this; cases this
        simp only [show i < k + 1 ↔ i < k by omega]
    | some o =>
      simp only
      have hok := (H.at_ k o (by omega) ho).1
      by_cases hA : isAlloc o = true
      · rw [if_pos hA, ih]
        cases hw : writer ops t n with
        | none => rfl
        | some i =>
          by_cases hik : i = k
          · subst hik; simp [ho, hA]
          · simp only [show i < k + 1 ↔ i < k by omega]
      · rw [if_neg hA]
        cases hd : o.dst with
        | none =>
          show (lexAct ops vals a k).tmps.getD t undef = _
          rw [ih]
          cases hw : writer ops t n with
          | none => rfl
          | some i =>
            have := (writer_some hw).2
            have hik : i ≠ k := by rintro rfl; rw [ho] at this; simp [hd] at this
            simp only [show i < k + 1 ↔ i < k by omega]
        | some d =>
          obtain ⟨hdm, huniq⟩ := hok d hd
          rw [getD_put _ _ _ _ (by rw [(lexAct_size vals a k).1, hm]; exact hdm)]
          by_cases htd : t = d
          · subst htd
            rw [if_pos rfl]
            have hwk : writer ops t n = some k := by
              cases hw : writer ops t n with
              | none => exact absurd (by simp [ho, hd]) (writer_none hw k (by omega))
              | some i =>
                by_cases hik : i = k
                · rw [hik]
                · exact absurd (writer_some hw).2 (huniq i (writer_some hw).1 hik)
            simp [hwk, ho, hA]
          · rw [if_neg htd, ih]
            cases hw : writer ops t n with
            | none => rfl
            | some i =>
              have := (writer_some hw).2
              have hik : i ≠ k := by rintro rfl; rw [ho] at this; simp [hd] at this; exact htd this.symm
              simp only [show i < k + 1 ↔ i < k by omega]

theorem exec_same {o : Oper} (hs : ∀ cs b, o.op ≠ .select cs b) {a a' : Act} (hsz : a.tmps.size = a'.tmps.size) (h : ∀ t, t ∈ o.looksAt ops → a.tmps.getD t undef = a'.tmps.getD t undef) :
    execOp a.eval o = execOp a'.eval o ∧ Region.wanted o (yielded ops a.tmps) = Region.wanted o (yielded ops a'.tmps) := by
  constructor
  · refine execOp_congr o hs fun x hx => ?_
    cases x with
    | tmp t => exact h t (List.mem_append_left _ (List.mem_filterMap.2 ⟨.tmp t, by simpa using hx, rfl⟩))
    | _ => rfl
  · unfold Region.wanted
    cases hg : o.guard with
    | none => rfl
    | some gw =>
      obtain ⟨g, want⟩ := gw
      have hy : yielded ops a.tmps g = yielded ops a'.tmps g := by
        unfold yielded
        cases ht : (ops[g]?).bind (·.dst) with
        | none => rfl
        | some t =>
          have h1 := h t (by simp [Oper.looksAt, hg, ht])
          simp only [Option.bind_some]
          rcases Nat.lt_or_ge t a.tmps.size with h2 | h2
          · have h3 : t < a'.tmps.size := by rw [← hsz]; exact h2
            simp [h2, h3] at h1 ⊢
            rw [h1]
          · rw [Array.getElem?_eq_none h2, Array.getElem?_eq_none (by rw [← hsz]; exact h2)]
      simp only [hy]

theorem state_put {n m : Nat} {vals : Nat → Value} {Z : Nat → Obj} {a0 : Act} {W : World} {listed : Array Bool} {a : Act} {w w' : World} {i : Nat} {o : Oper} (H : HeadOK md ops n m)
    (hs : HeadState ops n m vals Z a0 W listed a w) (hi : i < n) (ho : ops[i]? = some o) (hun : listed.getD i true = false) (hA : isAlloc o = false) (hx : ∃ x, w' = plus w x) :
    HeadState ops n m vals Z a0 W (listed.setIfInBounds i true) (a.put o.dst (vals i)) w' := by
  obtain ⟨⟨x, rfl⟩, h2, h3, g, h4, h6, h5⟩ := hs
  obtain ⟨y, rfl⟩ := hx
  have hlt : i < listed.size := by
    rcases Nat.lt_or_ge i listed.size with h | h
    · exact h
    · simp [Array.getElem?_eq_none h] at hun
  have hset : (listed.setIfInBounds i true).getD i false = true := by simp [hlt]
  refine ⟨⟨_, plus_plus W x y⟩, (defers_put _ _ _).trans h2, (size_put _ _ _).trans h3, g, fun j oj hj hoj hAj hl => ?_, fun j oj k ok hj hoj hAj hlj hk hok hAk hlk hne => ?_, fun t => ?_⟩
  · by_cases hji : j = i
    · subst hji; rw [ho] at hoj; cases hoj; rw [hA] at hAj; cases hAj
    · rw [getD_set_ne false (Ne.symm hji)] at hl
      obtain ⟨g1, g2⟩ := h4 j oj hj hoj hAj hl
      refine ⟨g1, ?_⟩
      rw [heap_plus y (Array.getElem?_eq_some_iff.1 g2).1]
      exact g2
  · have hji : j ≠ i := by rintro rfl; rw [ho] at hoj; cases hoj; rw [hA] at hAj; cases hAj
    have hki : k ≠ i := by rintro rfl; rw [ho] at hok; cases hok; rw [hA] at hAk; cases hAk
    rw [getD_set_ne false (Ne.symm hji)] at hlj
    rw [getD_set_ne false (Ne.symm hki)] at hlk
    exact h6 j oj k ok hj hoj hAj hlj hk hok hAk hlk hne
  · cases hd : o.dst with
    | none =>
      show a.tmps.getD t undef = _
      rw [h5 t]
      unfold valAt
      cases hw : writer ops t n with
      | none => rfl
      | some k =>
        have := (writer_some hw).2
        have hki : k ≠ i := by rintro rfl; rw [ho] at this; simp [hd] at this
        simp only
        rw [getD_set_ne false (Ne.symm hki)]
    | some d =>
      obtain ⟨hdm, huniq⟩ := (H.at_ i o hi ho).1 d hd
      rw [getD_put a d (vals i) t (by omega)]
      by_cases htd : t = d
      · subst htd
        rw [if_pos rfl]
        have hwk : writer ops t n = some i := by
          cases hw : writer ops t n with
          | none => exact absurd (by simp [ho, hd]) (writer_none hw i hi)
          | some k =>
            by_cases hki : k = i
            · rw [hki]
            · exact absurd (writer_some hw).2 (huniq k (writer_some hw).1 hki)
        unfold valAt
        simp only [hwk, hset, ho, hA]
        simp
      · rw [if_neg htd, h5 t]
        unfold valAt
        cases hw : writer ops t n with
        | none => rfl
        | some k =>
          have := (writer_some hw).2
          have hki : k ≠ i := by rintro rfl; rw [ho] at this; simp [hd] at this; exact htd this.symm
          simp only
          rw [getD_set_ne false (Ne.symm hki)]

theorem state_alloc {n m : Nat} {vals : Nat → Value} {Z : Nat → Obj} {a0 : Act} {W : World} {listed : Array Bool} {a : Act} {w : World} {i d : Nat} {o : Oper} (H : HeadOK md ops n m)
    (hs : HeadState ops n m vals Z a0 W listed a w) (hi : i < n) (ho : ops[i]? = some o) (hun : listed.getD i true = false) (hA : isAlloc o = true) (hd : o.dst = some d) :
    HeadState ops n m vals Z a0 W (listed.setIfInBounds i true) (a.put o.dst (.pointer (some ⟨w.heap.size, 0, none⟩))) (w.alloc (Z i)) := by
  obtain ⟨⟨x, rfl⟩, h2, h3, g, h4, h6, h5⟩ := hs
  have hlt : i < listed.size := by
    rcases Nat.lt_or_ge i listed.size with h | h
    · exact h
    · simp [Array.getElem?_eq_none h] at hun
  have hset : (listed.setIfInBounds i true).getD i false = true := by simp [hlt]
  have hal : (plus W x).alloc (Z i) = plus W ⟨x.blocks.push (Z i), x.draws⟩ := by simp [plus, World.alloc, -World.alloc_eq]
  refine ⟨⟨_, hal⟩, (defers_put _ _ _).trans h2, (size_put _ _ _).trans h3, fun j => if j = i then (plus W x).heap.size else g j, fun j oj hj hoj hAj hl => ?_, fun j oj k ok hj hoj hAj hlj hk hok hAk hlk hne => ?_, fun t => ?_⟩
  · by_cases hji : j = i
    · subst hji
      dsimp only
      rw [if_pos rfl]
      exact ⟨by rw [size_plus]; omega, by simp [World.alloc, -World.alloc_eq]⟩
    · rw [getD_set_ne false (Ne.symm hji)] at hl
      obtain ⟨g1, g2⟩ := h4 j oj hj hoj hAj hl
      dsimp only
      rw [if_neg hji]
      exact ⟨g1, (Below.heap_alloc _ _ _ (Array.getElem?_eq_some_iff.1 g2).1).trans g2⟩
  · dsimp only
    by_cases hji : j = i
    · have hki : k ≠ i := fun e => hne (hji.trans e.symm)
      rw [getD_set_ne false (Ne.symm hki)] at hlk
      rw [if_pos hji, if_neg hki]
      have := (Array.getElem?_eq_some_iff.1 (h4 k ok hk hok hAk hlk).2).1
      omega
    · rw [getD_set_ne false (Ne.symm hji)] at hlj
      rw [if_neg hji]
      by_cases hki : k = i
      · rw [if_pos hki]
        have := (Array.getElem?_eq_some_iff.1 (h4 j oj hj hoj hAj hlj).2).1
        omega
      · rw [getD_set_ne false (Ne.symm hki)] at hlk
        rw [if_neg hki]
        exact h6 j oj k ok hj hoj hAj hlj hk hok hAk hlk hne
  · obtain ⟨hdm, huniq⟩ := (H.at_ i o hi ho).1 d hd
    rw [hd, getD_put a d _ t (by omega)]
    by_cases htd : t = d
    · subst htd
      rw [if_pos rfl]
      have hwk : writer ops t n = some i := by
        cases hw : writer ops t n with
        | none => exact absurd (by simp [ho, hd]) (writer_none hw i hi)
        | some k =>
          by_cases hki : k = i
          · rw [hki]
          · exact absurd (writer_some hw).2 (huniq k (writer_some hw).1 hki)
      unfold valAt
      simp only [hwk, hset, ho, hA]
      simp
    · rw [if_neg htd, h5 t]
      unfold valAt
      cases hw : writer ops t n with
      | none => rfl
      | some k =>
        have := (writer_some hw).2
        have hki : k ≠ i := by rintro rfl; rw [ho] at this; simp [hd] at this; exact htd this.symm
        simp only
        rw [getD_set_ne false (Ne.symm hki), if_neg hki]

theorem wpAny_head {n m : Nat} {vals : Nat → Value} {Z : Nat → Obj} {a0 : Act} {W : World} {Q : Exit → Act → World → Prop} (H : HeadOK md ops n m) (hm : a0.tmps.size = m)
    (hZ : ∀ i o, i < n → ops[i]? = some o → isAlloc o = true → ∀ (ρ : Operand → Value) (w : World), (execOp ρ o).run P w = .ok (.value (.pointer (some ⟨w.heap.size, 0, none⟩))) (w.alloc (Z i)))
    (hstep : ∀ i o, i < n → ops[i]? = some o → isAlloc o = false → stepOK P ops W o (lexAct ops vals a0 i) (vals i))
    (hQ : ∀ (c : List PanicEntry) (a : Act) (d : Nat) (v : Value) (w : World), Q (.panic c) (a.put (some d) v) w → Q (.panic c) a w)
    (hend : ∀ a w, HeadState ops n m vals Z a0 W ((List.range ops.size).map (fun i => decide (i < n))).toArray a w → wpAny P md ops Q (ops.size - n) ((List.range ops.size).map (fun i => decide (i < n))).toArray a w) :
    ∀ (f : Nat) (listed : Array Bool) (a : Act) (w : World), HeadInv md ops n listed → cntU listed n = f → HeadState ops n m vals Z a0 W listed a w → wpAny P md ops Q (f + (ops.size - n)) listed a w := by
  intro f
  induction f with
  | zero =>
    intro listed a w inv hc hs
    have he : listed = ((List.range ops.size).map (fun i => decide (i < n))).toArray := by
      have hsz := inv.size
      apply Array.ext
      · simp [hsz]
      · intro i h1 h2
        have h3 : listed.getD i true = listed[i] := by simp [h1]
        simp only [List.getElem_toArray, List.getElem_map, List.getElem_range]
        rw [← h3]
        by_cases hi : i < n
        · rw [cntU_zero n hc i hi]; simp [hi]
        · rw [inv.tail i (by omega) (by omega)]; simp [hi]
    rw [Nat.zero_add, he]
    rw [he] at hs
    exact hend a w hs
  | succ f ih =>
    intro listed a w inv hc hs
    obtain ⟨i0, hi0, hun0, hmin⟩ := cntU_pos n (by omega : cntU listed n ≠ 0)
    have hsz : ops.size = listed.size := inv.size.symm
    have hle := H.le
    have hr0 : i0 ∈ Region.ready md ops listed := by
      have ho : ops[i0]? = some ops[i0] := Array.getElem?_eq_getElem (by omega)
      refine mem_ready.2 ⟨hun0, ops[i0], ho, fun e he hb => ?_⟩
      have hlt := (H.at_ i0 _ hi0 ho).2.1 e he hb
      have h1 := hmin e.on hlt
      have : e.on < listed.size := by omega
      simp [this] at h1 ⊢; exact h1
    rw [show f + 1 + (ops.size - n) = (f + (ops.size - n)) + 1 by omega]
    -- what an operation that is no making of a variable leaves
    have hgo : ∀ i o, i < n → ops[i]? = some o → isAlloc o = false → (∀ e ∈ o.after, Region.binds md e = true → listed.getD e.on false = true) →
        execOp a.eval o = execOp (lexAct ops vals a0 i).eval o ∧ Region.wanted o (yielded ops a.tmps) = Region.wanted o (yielded ops (lexAct ops vals a0 i).tmps) := fun i o hin ho hA' hall => by
      have hlook := (H.at_ i o hin ho).2.2.2 hA'
      obtain ⟨_, hdf, hsz', g, hg, _, hv⟩ := id hs
      exact exec_same (ops := ops) (o := o) (fun cs b => Region.noSelect_spec H.sel i o cs b ho) (a := a) (a' := lexAct ops vals a0 i) (by rw [(lexAct_size vals a0 i).1]; omega) (fun t ht => by
        rw [hv t, lexAct_val H vals a0 hm t i (by omega)]
        unfold valAt
        cases hw : writer ops t n with
        | none => rfl
        | some j =>
          obtain ⟨hjn, hjt⟩ := writer_some hw
          obtain ⟨hji, hjA, hwait⟩ := hlook j t hjn hjt ht
          obtain ⟨o', ho', e, he, hb, hon⟩ := Region.waitsFor_spec hwait
          have : o' = o := Option.some.inj (ho'.symm.trans ho)
          subst this
          have hl := hall e he hb
          rw [hon] at hl
          have hoj : ops[j]? = some ops[j] := Array.getElem?_eq_getElem (by omega)
          simp only [hl, hji, hoj, hjA _ hoj]
          simp)
    by_cases hp : ∃ i o, i < n ∧ i ∈ Region.ready md ops listed ∧ ops[i]? = some o ∧ isPure o = true
    · -- A COPY IS TAKEN FIRST
      obtain ⟨i, o, hin, hi, ho, hpo⟩ := hp
      obtain ⟨hun, o', ho', hall⟩ := mem_ready.1 hi
      have : o' = o := Option.some.inj (ho'.symm.trans ho)
      subst this
      have hA' := pure_not_alloc hpo
      obtain ⟨he, hwd⟩ := hgo i o' hin ho hA' hall
      have hy : Yields P ops o' (vals i) a := by
        have hst := hstep i o' hin ho hA'
        unfold stepOK at hst
        rw [← hwd] at hst
        rcases hst with ⟨hw, hq⟩ | ⟨hw, hq⟩
        · refine .inl ⟨hw, fun w' => ?_⟩
          have hq' := hq ⟨#[], 0⟩
          unfold headAt at hq'
          rw [← he] at hq'
          generalize hr : (execOp a.eval o').run P (plus W ⟨#[], 0⟩) = r at hq'
          cases r with
          | ok nx w1 =>
            cases nx <;> simp only [headUpon] at hq'
            case value u =>
              obtain ⟨_, rfl⟩ := hq'
              exact pure_run hpo hr w'
            case skip =>
              exfalso
              obtain ⟨dst, op, type, pos, after, guard⟩ := o'
              cases op <;> simp only [isPure, Bool.false_eq_true] at hpo
              case move x => simp [execOp] at hr
              case extract x k =>
                simp only [execOp, Instr.extract] at hr
                cases hx : a.eval x with
                | tuple vs =>
                  simp only [hx] at hr
                  cases hv : vs[k]? with
                  | some u => simp only [hv] at hr; simp at hr
                  | none => simp only [hv] at hr; simp [stuck] at hr
                | _ => simp only [hx] at hr; simp [stuck] at hr
            case enter fn args =>
              exfalso
              obtain ⟨dst, op, type, pos, after, guard⟩ := o'
              cases op <;> simp only [isPure, Bool.false_eq_true] at hpo
              case move x => simp [execOp] at hr
              case extract x k =>
                simp only [execOp, Instr.extract] at hr
                cases hx : a.eval x with
                | tuple vs =>
                  simp only [hx] at hr
                  cases hv : vs[k]? with
                  | some u => simp only [hv] at hr; simp at hr
                  | none => simp only [hv] at hr; simp [stuck] at hr
                | _ => simp only [hx] at hr; simp [stuck] at hr
          | halt h w1 => simp only [headUpon] at hq'
        · exact .inr ⟨hw, hq⟩
      refine wpAny_first ho (Region.noSelect_spec H.sel) (fun c a1 w1 h1 => ?_) _ listed a w (fun j oj hoj hji hjun hno => ?_) hi hy
        (ih _ _ _ (inv.set hi hin) (by have := cntU_set hun n hin; omega) (state_put H hs hin ho hun hA' ⟨⟨#[], w.drawn⟩, by simp [plus]⟩))
      · cases hd : o'.dst with
        | none => rw [hd] at h1; exact h1
        | some d => rw [hd] at h1; exact hQ c a1 d _ w1 h1
      · rcases H.free i o' hin ho hpo j oj hoj hji with h1 | h1 | h1
        · obtain ⟨oj', hoj', e, he', hb, hon⟩ := Region.waitsFor_spec h1
          have : oj' = oj := Option.some.inj (hoj'.symm.trans hoj)
          subst this
          exact absurd hon (hno e he' hb)
        · obtain ⟨oi', hoi', e, he', hb, hon⟩ := Region.waitsFor_spec h1
          have : oi' = o' := Option.some.inj (hoi'.symm.trans ho)
          subst this
          have := hall e he' hb
          rw [hon, getD_both hjun] at this
          cases this
        · exact h1
    have himp0 : ∀ o, ops[i0]? = some o → isPure o = false := fun o ho => by
      cases hc' : isPure o
      · rfl
      · exact absurd ⟨i0, o, hi0, hr0, ho, hc'⟩ hp
    refine ⟨fun h0 => (by rw [h0] at hr0; cases hr0), fun i hi => ?_⟩
    obtain ⟨hun, o, ho, hall⟩ := mem_ready.1 hi
    have hin : i < n := by
      rcases Nat.lt_or_ge i n with h | h
      · exact h
      · have hilt := (Array.getElem?_eq_some_iff.1 ho).1
        have ho0 : ops[i0]? = some ops[i0] := Array.getElem?_eq_getElem (by omega)
        rcases H.tail with h' | ⟨h', h''⟩
        · omega
        · exfalso
          rcases Nat.lt_or_ge n i with h3 | h3
          · have h1 := List.all_eq_true.1 h'' i (List.mem_range.2 hilt)
            simp only [Bool.or_eq_true, decide_eq_true_eq] at h1
            rcases h1 with h1 | h1
            · omega
            · obtain ⟨o', ho', e, he, hb, hon⟩ := Region.waitsFor_spec h1
              have : o' = o := Option.some.inj (ho'.symm.trans ho)
              subst this
              have h2 := hall e he hb
              rw [hon, getD_both (inv.tail (i - 1) (by omega) (by omega))] at h2
              cases h2
          · have : i = n := by omega
            subst this
            have h3 := h' (fun i => listed.getD i false = true) (fun o' ho' e he hb => by
              have : o' = o := Option.some.inj (ho'.symm.trans ho)
              subst this
              exact hall e he hb) (fun j oj hoj h2 e he hb => inv.closed j oj hoj h2 e he hb) i0 _ hi0 ho0 (himp0 _ ho0)
            rw [getD_both hun0] at h3
            cases h3
    have inv' := inv.set hi hin
    have hc' : cntU (listed.setIfInBounds i true) n = f := by have := cntU_set hun n hin; omega
    unfold wpOp
    simp only [ho]
    by_cases hA : isAlloc o = true
    · obtain ⟨hg, d, hd⟩ := (H.at_ i o hin ho).2.2.1 hA
      rw [if_pos (by simp [Region.wanted, hg])]
      refine .inl ?_
      unfold Oper.wp
      rw [hZ i o hin ho hA]
      exact ih _ _ _ inv' hc' (state_alloc H hs hin ho hun hA hd)
    · have hA' : isAlloc o = false := by simpa using hA
      obtain ⟨⟨x, hx⟩, _, _, _⟩ := id hs
      have hsame := hgo i o hin ho hA' hall
      have hst := hstep i o hin ho hA'
      unfold stepOK at hst
      rw [← hsame.2] at hst
      rcases hst with ⟨hw, hq⟩ | ⟨hw, hq⟩
      · rw [if_pos hw]
        refine .inl ?_
        have hq' := hq x
        unfold headAt at hq'
        rw [← hsame.1, ← hx] at hq'
        unfold Oper.wp
        generalize (execOp a.eval o).run P w = r at hq'
        cases r with
        | ok nx w' =>
          cases nx <;> simp only [headUpon] at hq' <;> simp only [Oper.upon]
          case value u =>
            obtain ⟨rfl, rfl⟩ := hq'
            exact ih _ _ _ inv' hc' (state_put H hs hin ho hun hA' ⟨⟨#[], w'.drawn⟩, by simp [plus]⟩)
          case skip =>
            obtain ⟨rfl, hq'⟩ := hq'
            rw [← hq']
            exact ih _ _ _ inv' hc' (state_put H hs hin ho hun hA' ⟨⟨#[], w'.drawn⟩, by simp [plus]⟩)
          case enter fn args =>
            obtain ⟨rfl, hq'⟩ := hq'
            exact hq'.out.mono fun e w'' ⟨he, hx'⟩ => by
              subst he
              exact ih _ _ _ inv' hc' (state_put H hs hin ho hun hA' hx')
        | halt h w' => simp only [headUpon] at hq'
      · rw [if_neg (by rw [hw]; exact Bool.false_ne_true), ← hq]
        exact ih _ _ _ inv' hc' (state_put H hs hin ho hun hA' ⟨⟨#[], w.drawn⟩, by simp [plus]⟩)

theorem act_ext {a b : Act} (hs : a.tmps.size = b.tmps.size) (h : ∀ t, a.tmps.getD t undef = b.tmps.getD t undef) (hd : a.defers = b.defers) : a = b := by
  cases a; cases b
  simp only [Act.mk.injEq] at *
  refine ⟨?_, hd⟩
  apply Array.ext hs
  intro i h1 h2
  have := h i
  simpa [h1, h2] using this

theorem head_start (n : Nat) : HeadInv md ops n (Array.replicate ops.size false) :=
  ⟨by simp, fun j oj _ hl => (by rw [getD_replicate_false] at hl; cases hl), fun t _ ht => getD_in (by simpa using ht) (getD_replicate_false _ _)⟩
theorem cntU_start : ∀ n, n ≤ ops.size → cntU (Array.replicate ops.size false) n = n
  | 0, _ => rfl
  | n + 1, h => by
    simp only [cntU]
    rw [cntU_start n (by omega), getD_in (by simp; omega) (getD_replicate_false _ _)]
    simp

/-- A region that draws, in general: behind the head each new variable lies somewhere among the new blocks. -/
theorem wp_region_head {id : Nat} {Q : Exit → Act → World → Prop} {a : Act} {W : World} {l : List Oper} (n m : Nat) (Z : Nat → Obj) (hP : P.follows .mixedOrders = true) (hB : headB .any l.toArray n m = true)
    (hm : a.tmps.size = m)
    (hZ : ∀ i o, i < n → l.toArray[i]? = some o → isAlloc o = true → ∀ (ρ : Operand → Value) (w : World), (execOp ρ o).run P w = .ok (.value (.pointer (some ⟨w.heap.size, 0, none⟩))) (w.alloc (Z i)))
    (hQ : ∀ (c : List PanicEntry) (a : Act) (d : Nat) (v : Value) (w : World), Q (.panic c) (a.put (some d) v) w → Q (.panic c) a w)
    (h : wpHead P l.toArray W (fun a' => ∀ (g : Nat → Nat) (w : World) (a'' : Act), (∃ x, w = plus W x) → (∀ i o, i < n → l.toArray[i]? = some o → isAlloc o = true → W.heap.size ≤ g i ∧ w.heap[g i]? = some (Z i)) →
      (∀ i o j oj, i < n → l.toArray[i]? = some o → isAlloc o = true → j < n → l.toArray[j]? = some oj → isAlloc oj = true → i ≠ j → g i ≠ g j) →
      a''.defers = a'.defers → a''.tmps.size = m →
      (∀ t, a''.tmps.getD t undef = match writer l.toArray t n with | some i => (match l.toArray[i]? with | some o => if isAlloc o then .pointer (some ⟨g i, 0, none⟩) else a'.tmps.getD t undef | none => undef) | none => a'.tmps.getD t undef) →
      wpList P l.toArray Q (l.drop n) a'' w) (l.take n) a) : (Code.region id l.toArray true).wp P Q a W := by
  have H := headOK_of hB
  have hle : n ≤ l.length := by simpa using H.le
  have htl : (l.take n).length = n := by simp; omega
  obtain ⟨vals, _, h2, h3⟩ := wpHead_vals (ops := l.toArray) (l.take n) 0 a a (fun _ => undef) (fun j hj => by
    have hj' : j < n := by omega
    simp [hj']) rfl h
  rw [Nat.zero_add, htl] at h3
  refine wp_region_any hP ?_
  have hc := cntU_start (ops := l.toArray) n (by simpa using hle)
  have key := wpAny_head (P := P) (Q := Q) (vals := vals) (Z := Z) (a0 := a) (W := W) H hm hZ
    (fun i o hi ho hA => h2 i o (Nat.zero_le _) (by omega) ho hA) hQ ?_ n (Array.replicate l.toArray.size false) a { W with drawn := W.drawn + 1 } (head_start n) hc
    ⟨⟨⟨#[], W.drawn + 1⟩, by simp [plus]⟩, rfl, hm, fun _ => 0, fun i o _ _ _ hl => (by rw [getD_replicate_false] at hl; cases hl), fun i o j oj _ _ _ hl => (by rw [getD_replicate_false] at hl; cases hl), fun t => by
      unfold valAt
      cases writer l.toArray t n with
      | none => rfl
      | some i => simp only [getD_replicate_false, Bool.false_eq_true, if_false]⟩
  · rw [show n + (l.toArray.size - n) = l.toArray.size by simp; omega] at key
    exact key
  · intro a' w hs
    obtain ⟨hx, hdf, hsz, g, hg, hap, hv⟩ := hs
    have hL : ∀ i, i < n → (((List.range l.toArray.size).map (fun i => decide (i < n))).toArray).getD i false = true := fun i hi => by
      have : i < l.length := by omega
      simp [this, hi]
    have hw := h3 g w a' hx (fun i o hi ho hA => hg i o hi ho hA (hL i hi)) (fun i o j oj hi ho hA hj hoj hAj hne => hap i o j oj hi ho hA (hL i hi) hj hoj hAj (hL j hj) hne) (by rw [hdf, (lexAct_size vals a n).2]) hsz (fun t => by
      rw [hv t, lexAct_val H vals a hm t n (Nat.le_refl _)]
      unfold valAt
      cases hwr : writer l.toArray t n with
      | none => rfl
      | some i =>
        obtain ⟨hin, hit⟩ := writer_some hwr
        simp only [hL i hin, if_true, hin]
        cases hoi : l.toArray[i]? with
        | none => rfl
        | some o =>
          by_cases hA : isAlloc o = true
          · simp [hA]
          · simp [hA])
    have hseq := H.seq
    have hdl : (l.drop n).length = l.toArray.size - n := by simp
    rw [← hdl] at hseq ⊢
    exact wpAny_of_seq (md := .any) (Q' := Q) (l.drop n) n _ a' w (fun j => by simp [List.getElem?_drop]) hseq hw

theorem wpHead_mono {W : World} {m : Nat} {Q Q' : Act → Prop} (hq : ∀ a, a.tmps.size = m → Q a → Q' a) : ∀ (l : List Oper) (a : Act), a.tmps.size = m → wpHead P ops W Q l a → wpHead P ops W Q' l a
  | [], a, hm, h => hq a hm h
  | o :: rest, a, hm, h => by
    simp only [wpHead] at h ⊢
    split
    · rename_i hAo; rw [if_pos hAo] at h; exact wpHead_mono hq rest a hm h
    · rename_i hAo
      rw [if_neg hAo] at h
      split
      · rename_i hw
        rw [if_pos hw] at h
        obtain ⟨v, h1, h2⟩ := h
        exact ⟨v, h1, wpHead_mono hq rest _ ((size_put _ _ _).trans hm) h2⟩
      · rename_i hw
        rw [if_neg hw] at h
        exact wpHead_mono hq rest _ ((size_put _ _ _).trans hm) h

def noAlloc (l : List Oper) : Bool := l.all fun o => !isAlloc o

/-- No variable is made. -/
theorem wp_region_plain {id : Nat} {Q : Exit → Act → World → Prop} {a : Act} {W : World} {l : List Oper} (n m : Nat) (hP : P.follows .mixedOrders = true) (hB : headB .any l.toArray n m = true)
    (hA : noAlloc (l.take n) = true) (hm : a.tmps.size = m)
    (hQ : ∀ (c : List PanicEntry) (a : Act) (d : Nat) (v : Value) (w : World), Q (.panic c) (a.put (some d) v) w → Q (.panic c) a w)
    (h : wpHead P l.toArray W (fun a' => a'.tmps.size = m → ∀ x : Ext, wpList P l.toArray Q (l.drop n) a' (plus W x)) (l.take n) a) : (Code.region id l.toArray true).wp P Q a W := by
  have hno : ∀ i o, i < n → l.toArray[i]? = some o → isAlloc o = true → False := fun i o hi ho hAo => by
    have : o ∈ l.take n := by
      rw [List.mem_iff_getElem?]
      exact ⟨i, by simpa [hi] using ho⟩
    have := List.all_eq_true.1 hA o this
    rw [hAo] at this
    cases this
  refine wp_region_head n m (fun _ => .cells #[] 0) hP hB hm (fun i o hi ho hAo => (hno i o hi ho hAo).elim) hQ ?_
  refine wpHead_mono ?_ _ _ hm h
  rintro a1 hsz hq g w a'' ⟨x, rfl⟩ _ _ hdf hsz' hv
  have : a'' = a1 := act_ext (by omega) (fun t => by
    rw [hv t]
    cases hw : writer l.toArray t n with
    | none => rfl
    | some i =>
      obtain ⟨hin, hit⟩ := writer_some hw
      cases hoi : l.toArray[i]? with
      | none => rw [hoi] at hit; cases hit
      | some o =>
        simp only [hoi]
        rw [if_neg (fun hAo => hno i o hin hoi hAo)]) hdf
  subst this
  exact hq hsz x

theorem alloc_split {W : World} {x : Ext} {g : Nat} {o : Obj} (hg : W.heap.size ≤ g) (h : (plus W x).heap[g]? = some o) :
    ∃ x1 x2 : Ext, plus W x = plus ((plus W x1).alloc o) x2 ∧ g = (plus W x1).heap.size := by
  simp only [plus] at h
  rw [Array.getElem?_append, if_neg (by omega)] at h
  obtain ⟨hlt, ho⟩ := Array.getElem?_eq_some_iff.1 h
  refine ⟨⟨x.blocks.extract 0 (g - W.heap.size), 0⟩, ⟨x.blocks.extract (g - W.heap.size + 1) x.blocks.size, x.draws⟩, ?_, ?_⟩
  · simp only [plus, World.alloc]
    congr 1
    rw [Array.push_eq_append, Array.append_assoc, Array.append_assoc]
    congr 1
    apply Array.ext_getElem?
    intro i
    rw [Array.getElem?_append, Array.getElem?_append]
    simp only [Array.size_extract, List.size_toArray, List.length_cons, List.length_nil, Array.getElem?_extract]
    by_cases h1 : i < g - W.heap.size
    · rw [if_pos (by omega), if_pos (by omega), Nat.zero_add]
    · rw [if_neg (by omega)]
      by_cases h2 : i = g - W.heap.size
      · subst h2
        rw [if_pos (by omega), Array.getElem?_eq_getElem hlt, ho]
        have : g - W.heap.size - (min (g - W.heap.size) x.blocks.size - 0) = 0 := by omega
        rw [this]
        rfl
      · rw [if_neg (by omega)]
        by_cases h3 : i < x.blocks.size
        · rw [if_pos (by omega)]
          congr 1
          omega
        · rw [if_neg (by omega), Array.getElem?_eq_none (by omega)]
  · simp only [size_plus, Array.size_extract]
    omega

def isAllocOf (T : TypeId) (o : Oper) : Bool := match o.op with | .alloc t => t == T | _ => false
theorem isAllocOf_op {T : TypeId} {o : Oper} (h : isAllocOf T o = true) : o.op = .alloc T := by
  unfold isAllocOf at h
  split at h
  · rename_i t ho; rw [ho]; simp at h; rw [h]
  · cases h
theorem isAllocOf_is {T : TypeId} {o : Oper} (h : isAllocOf T o = true) : isAlloc o = true := by simp [isAlloc, isAllocOf_op h]

/-- One variable is made, by operation k. -/
theorem wp_region_one {id : Nat} {Q : Exit → Act → World → Prop} {a : Act} {W : World} {l : List Oper} (n m k : Nat) (d : Nat) (T : TypeId) (Z : Obj) (hP : P.follows .mixedOrders = true) (hB : headB .any l.toArray n m = true)
    (hk : ((l.take n).drop (k + 1)).all (fun o => !isAlloc o) && (l.take k).all (fun o => !isAlloc o) && decide (k < n) && (match l[k]? with | some o => isAllocOf T o && o.dst == some d | none => false) = true) (hm : a.tmps.size = m)
    (hZ : ∀ o : Oper, o.op = .alloc T → ∀ (ρ : Operand → Value) (w : World), (execOp ρ o).run P w = .ok (.value (.pointer (some ⟨w.heap.size, 0, none⟩))) (w.alloc Z))
    (hQ : ∀ (c : List PanicEntry) (a : Act) (d : Nat) (v : Value) (w : World), Q (.panic c) (a.put (some d) v) w → Q (.panic c) a w)
    (h : wpHead P l.toArray W (fun a' => a'.tmps.size = m → ∀ x1 x2 : Ext, wpList P l.toArray Q (l.drop n) (a'.put (some d) (.pointer (some ⟨(plus W x1).heap.size, 0, none⟩))) (plus ((plus W x1).alloc Z) x2)) (l.take n) a) :
    (Code.region id l.toArray true).wp P Q a W := by
  simp only [Bool.and_eq_true, decide_eq_true_eq] at hk
  obtain ⟨⟨⟨hk1, hk2⟩, hkn⟩, hk3⟩ := hk
  have H := headOK_of hB
  obtain ⟨ok, hok, hokT, hokA, hokd⟩ : ∃ o, l[k]? = some o ∧ o.op = .alloc T ∧ isAlloc o = true ∧ o.dst = some d := by
    split at hk3
    · rename_i o ho
      simp only [Bool.and_eq_true, beq_iff_eq] at hk3
      exact ⟨o, ho, isAllocOf_op hk3.1, isAllocOf_is hk3.1, hk3.2⟩
    · cases hk3
  have honly : ∀ i o, i < n → l.toArray[i]? = some o → isAlloc o = true → i = k := fun i o hi ho hAo => by
    have ho' : l[i]? = some o := by simpa using ho
    rcases Nat.lt_trichotomy i k with h1 | h1 | h1
    · have hmem : o ∈ l.take k := by
        rw [List.mem_iff_getElem?]
        exact ⟨i, by rw [List.getElem?_take, if_pos h1]; exact ho'⟩
      have := List.all_eq_true.1 hk2 o hmem
      rw [hAo] at this; cases this
    · exact h1
    · have hmem : o ∈ (l.take n).drop (k + 1) := by
        rw [List.mem_iff_getElem?]
        exact ⟨i - (k + 1), by rw [List.getElem?_drop, show k + 1 + (i - (k + 1)) = i by omega, List.getElem?_take, if_pos hi]; exact ho'⟩
      have := List.all_eq_true.1 hk1 o hmem
      rw [hAo] at this; cases this
  refine wp_region_head n m (fun _ => Z) hP hB hm (fun i o hi ho hAo => by
    have := honly i o hi ho hAo
    subst this
    have h1 : l[i]? = some o := by simpa using ho
    rw [hok] at h1
    exact hZ o (Option.some.inj h1 ▸ hokT)) hQ ?_
  refine wpHead_mono ?_ _ _ hm h
  rintro a1 hsz hq g w a'' ⟨x, rfl⟩ hg _ hdf hsz' hv
  obtain ⟨g1, g2⟩ := hg k ok hkn (by simpa using hok) hokA
  obtain ⟨x1, x2, e1, e2⟩ := alloc_split g1 g2
  have hdm := ((H.at_ k ok hkn (by simpa using hok)).1 d hokd)
  have : a'' = a1.put (some d) (.pointer (some ⟨(plus W x1).heap.size, 0, none⟩)) := act_ext (by rw [size_put]; omega) (fun t => by
    rw [hv t, getD_put _ _ _ _ (by omega)]
    by_cases htd : t = d
    · subst htd
      rw [if_pos rfl]
      have hwk : writer l.toArray t n = some k := by
        cases hw : writer l.toArray t n with
        | none =>
          have := writer_none hw k hkn
          simp [hok, hokd] at this
        | some i =>
          by_cases hik : i = k
          · rw [hik]
          · exact absurd (writer_some hw).2 (hdm.2 i (writer_some hw).1 hik)
      have hok' : l.toArray[k]? = some ok := by simpa using hok
      simp only [hwk, hok', hokA, if_true, e2]
    · rw [if_neg htd]
      cases hw : writer l.toArray t n with
      | none => rfl
      | some i =>
        obtain ⟨hin, hit⟩ := writer_some hw
        cases hoi : l.toArray[i]? with
        | none => rw [hoi] at hit; cases hit
        | some o =>
          simp only [hoi]
          rw [if_neg (fun hAo => by
            have := honly i o hin hoi hAo
            subst this
            rw [hoi] at hit
            have : o = ok := by
              have h1 : l[i]? = some o := by simpa using hoi
              rw [hok] at h1; exact (Option.some.inj h1).symm
            subst this
            simp [hokd] at hit
            exact htd hit.symm)]) (by rw [hdf, defers_put])
  subst this
  rw [e1]
  exact hq hsz x1 x2

/-- Two new blocks of one making, in whatever order. -/
theorem alloc_split_two {W : World} {x : Ext} {g1 g2 : Nat} {o : Obj} (h1 : W.heap.size ≤ g1) (e1 : (plus W x).heap[g1]? = some o) (e2 : (plus W x).heap[g2]? = some o) (hlt : g1 < g2) :
    ∃ x1 x2 x3 : Ext, plus W x = plus ((plus ((plus W x1).alloc o) x2).alloc o) x3 ∧ g1 = (plus W x1).heap.size ∧ g2 = (plus ((plus W x1).alloc o) x2).heap.size := by
  obtain ⟨x1, y, hy, hg1⟩ := alloc_split h1 e1
  rw [hy] at e2
  obtain ⟨x2, x3, hz, hg2⟩ := alloc_split (W := (plus W x1).alloc o) (by simp [World.alloc, -World.alloc_eq]; omega) e2
  exact ⟨x1, x2, x3, hy.trans hz, hg1, hg2⟩

/-- Two variables of one type are made, by operations k and k'. -/
theorem wp_region_two {id : Nat} {Q : Exit → Act → World → Prop} {a : Act} {W : World} {l : List Oper} (n m k k' : Nat) (d d' : Nat) (T : TypeId) (Z : Obj) (hP : P.follows .mixedOrders = true) (hB : headB .any l.toArray n m = true)
    (hk : ((List.range n).all fun i => decide (i = k) || decide (i = k') || (match l[i]? with | some o => !isAlloc o | none => true)) && decide (k < n) && decide (k' < n) && decide (k ≠ k') && decide (d ≠ d') &&
      (match l[k]? with | some o => isAllocOf T o && o.dst == some d | none => false) && (match l[k']? with | some o => isAllocOf T o && o.dst == some d' | none => false) = true) (hm : a.tmps.size = m)
    (hZ : ∀ o : Oper, o.op = .alloc T → ∀ (ρ : Operand → Value) (w : World), (execOp ρ o).run P w = .ok (.value (.pointer (some ⟨w.heap.size, 0, none⟩))) (w.alloc Z))
    (hQ : ∀ (c : List PanicEntry) (a : Act) (d : Nat) (v : Value) (w : World), Q (.panic c) (a.put (some d) v) w → Q (.panic c) a w)
    (h : wpHead P l.toArray W (fun a' => a'.tmps.size = m → ∀ x1 x2 x3 : Ext,
      wpList P l.toArray Q (l.drop n) ((a'.put (some d) (.pointer (some ⟨(plus W x1).heap.size, 0, none⟩))).put (some d') (.pointer (some ⟨(plus ((plus W x1).alloc Z) x2).heap.size, 0, none⟩))) (plus ((plus ((plus W x1).alloc Z) x2).alloc Z) x3) ∧
      wpList P l.toArray Q (l.drop n) ((a'.put (some d) (.pointer (some ⟨(plus ((plus W x1).alloc Z) x2).heap.size, 0, none⟩))).put (some d') (.pointer (some ⟨(plus W x1).heap.size, 0, none⟩))) (plus ((plus ((plus W x1).alloc Z) x2).alloc Z) x3)) (l.take n) a) :
    (Code.region id l.toArray true).wp P Q a W := by
  simp only [Bool.and_eq_true, decide_eq_true_eq] at hk
  obtain ⟨⟨⟨⟨⟨⟨hk0, hkn⟩, hkn'⟩, hkk⟩, hdd⟩, hk1⟩, hk2⟩ := hk
  have H := headOK_of hB
  have find : ∀ (k d : Nat), (match l[k]? with | some o => isAllocOf T o && o.dst == some d | none => false) = true → ∃ o, l[k]? = some o ∧ o.op = .alloc T ∧ isAlloc o = true ∧ o.dst = some d := fun k d hk3 => by
    split at hk3
    · rename_i o ho
      simp only [Bool.and_eq_true, beq_iff_eq] at hk3
      exact ⟨o, ho, isAllocOf_op hk3.1, isAllocOf_is hk3.1, hk3.2⟩
    · cases hk3
  obtain ⟨ok, hok, hokT, hokA, hokd⟩ := find k d hk1
  obtain ⟨ok', hok', hokT', hokA', hokd'⟩ := find k' d' hk2
  have honly : ∀ i o, i < n → l.toArray[i]? = some o → isAlloc o = true → i = k ∨ i = k' := fun i o hi ho hAo => by
    have ho' : l[i]? = some o := by simpa using ho
    have := List.all_eq_true.1 hk0 i (List.mem_range.2 hi)
    simp only [ho', hAo, Bool.not_true, Bool.or_false, Bool.or_eq_true, decide_eq_true_eq] at this
    exact this
  have hoka : l.toArray[k]? = some ok := by simpa using hok
  have hoka' : l.toArray[k']? = some ok' := by simpa using hok'
  refine wp_region_head n m (fun _ => Z) hP hB hm (fun i o hi ho hAo => by
    rcases honly i o hi ho hAo with rfl | rfl
    · exact hZ o (Option.some.inj (hoka.symm.trans ho) ▸ hokT)
    · exact hZ o (Option.some.inj (hoka'.symm.trans ho) ▸ hokT')) hQ ?_
  refine wpHead_mono ?_ _ _ hm h
  rintro a1 hsz hq g w a'' ⟨x, rfl⟩ hg hap hdf hsz' hv
  obtain ⟨g1, g2⟩ := hg k ok hkn hoka hokA
  obtain ⟨g1', g2'⟩ := hg k' ok' hkn' hoka' hokA'
  have hne := hap k ok k' ok' hkn hoka hokA hkn' hoka' hokA' hkk
  have hdm := (H.at_ k ok hkn hoka).1 d hokd
  have hdm' := (H.at_ k' ok' hkn' hoka').1 d' hokd'
  have hwr : ∀ (k : Nat) (o : Oper) (d : Nat), k < n → l.toArray[k]? = some o → o.dst = some d → (∀ j, j < n → j ≠ k → (l.toArray[j]?).bind (·.dst) ≠ some d) → writer l.toArray d n = some k := fun k o d hkn ho hd hu => by
    cases hw : writer l.toArray d n with
    | none =>
      have := writer_none hw k hkn
      rw [ho] at this
      exact absurd hd this
    | some i =>
      by_cases hik : i = k
      · rw [hik]
      · exact absurd (writer_some hw).2 (hu i (writer_some hw).1 hik)
  have hwk := hwr k ok d hkn hoka hokd hdm.2
  have hwk' := hwr k' ok' d' hkn' hoka' hokd' hdm'.2
  have key : a'' = (a1.put (some d) (.pointer (some ⟨g k, 0, none⟩))).put (some d') (.pointer (some ⟨g k', 0, none⟩)) := act_ext (by rw [size_put, size_put]; omega) (fun t => by
    rw [hv t, getD_put _ _ _ _ (by rw [size_put]; omega), getD_put _ _ _ _ (by omega)]
    by_cases htd' : t = d'
    · subst htd'
      rw [if_pos rfl]
      simp only [hwk', hoka', hokA', if_true]
    · rw [if_neg htd']
      by_cases htd : t = d
      · subst htd
        rw [if_pos rfl]
        simp only [hwk, hoka, hokA, if_true]
      · rw [if_neg htd]
        cases hw : writer l.toArray t n with
        | none => rfl
        | some i =>
          obtain ⟨hin, hit⟩ := writer_some hw
          cases hoi : l.toArray[i]? with
          | none => rw [hoi] at hit; cases hit
          | some o =>
            simp only [hoi]
            rw [if_neg (fun hAo => by
              rcases honly i o hin hoi hAo with rfl | rfl
              · rw [hoka] at hit
                exact htd (Option.some.inj (hit.symm.trans hokd))
              · rw [hoka'] at hit
                exact htd' (Option.some.inj (hit.symm.trans hokd')))]) (by rw [hdf, defers_put, defers_put])
  subst key
  rcases Nat.lt_or_gt_of_ne hne with hlt | hlt
  · obtain ⟨x1, x2, x3, e, e1, e2⟩ := alloc_split_two g1 g2 g2' hlt
    rw [e, e1, e2]
    exact (hq hsz x1 x2 x3).1
  · obtain ⟨x1, x2, x3, e, e1, e2⟩ := alloc_split_two g1' g2' g2 hlt
    rw [e, e1, e2]
    exact (hq hsz x1 x2 x3).2

theorem wpHead_nil {W : World} {Q : Act → Prop} {a : Act} (h : Q a) : wpHead P ops W Q [] a := h
/-- One operation at a time, what follows behind a variable. -/
theorem wpHead_step {W : World} {Q : Act → Prop} {a : Act} {o : Oper} {rest : List Oper}
    (h : ∀ K : Act → Prop, (∀ a, wpHead P ops W Q rest a → K a) → if isAlloc o then K a else if Region.wanted o (yielded ops a.tmps) then headOp P o a W K else K (a.put o.dst undef)) : wpHead P ops W Q (o :: rest) a :=
  h _ (fun _ h => h)

theorem wpHead_skip {W : World} {Q : Act → Prop} {a : Act} {o : Oper} {rest : List Oper} (hA : isAlloc o = true) (h : wpHead P ops W Q rest a) : wpHead P ops W Q (o :: rest) a := by
  unfold wpHead; rw [if_pos hA]; exact h
theorem wpHead_run {W : World} {Q : Act → Prop} {a : Act} {o : Oper} {rest : List Oper} (hA : isAlloc o = false) (hg : o.guard = none)
    (h : ∀ K : Act → Prop, (∀ a, wpHead P ops W Q rest a → K a) → headOp P o a W K) : wpHead P ops W Q (o :: rest) a := by
  unfold wpHead; rw [if_neg (by simp [hA]), if_pos (by simp [Region.wanted, hg])]; exact h _ (fun _ h => h)
theorem wpHead_want {W : World} {Q : Act → Prop} {a : Act} {o : Oper} {rest : List Oper} (hA : isAlloc o = false) (hg : Region.wanted o (yielded ops a.tmps) = true)
    (h : ∀ K : Act → Prop, (∀ a, wpHead P ops W Q rest a → K a) → headOp P o a W K) : wpHead P ops W Q (o :: rest) a := by
  unfold wpHead; rw [if_neg (by simp [hA]), if_pos hg]; exact h _ (fun _ h => h)
theorem wpHead_pass {W : World} {Q : Act → Prop} {a : Act} {o : Oper} {rest : List Oper} (hA : isAlloc o = false) (hg : Region.wanted o (yielded ops a.tmps) = false)
    (h : wpHead P ops W Q rest (a.put o.dst undef)) : wpHead P ops W Q (o :: rest) a := by
  unfold wpHead; rw [if_neg (by simp [hA]), if_neg (by simp [hg])]; exact h
theorem headOp_move {W : World} {a : Act} {o : Oper} {K : Act → Prop} (x : Operand) (h : o.op = .move x) (hk : K (a.put o.dst (a.eval x))) : headOp P o a W K :=
  ⟨_, fun e => by unfold headAt; simp [execOp, h, headUpon], hk⟩
theorem headOp_assign {W : World} {a : Act} {o : Oper} {K : Act → Prop} (x : Operand) (h : o.op = .assign x) (hk : K (a.put o.dst (a.eval x))) : headOp P o a W K :=
  ⟨_, fun e => by unfold headAt; simp [execOp, h, headUpon], hk⟩

end
end Go.Proofs.Ytmlefodnbbkilaa

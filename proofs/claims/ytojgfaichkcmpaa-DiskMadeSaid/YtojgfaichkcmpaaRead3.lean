/- A range over an iterator of one answer at most, whose body always returns. -/
import Derived.Test.YtojgfaichkcmpaaRead2
namespace Go.Proofs.Ytojgfaichkcmpaa
open Go.RowKit Go.Shelf

/-- A body that leaves by return: what lay from B on lies as it lay. -/
def oncePost (B : Nat) (Jr : World → Prop) (W : World) : Exit → Act → World → Prop
  | .ret, _, W' => W.heap.size ≤ W'.heap.size ∧ (∀ k o, B ≤ k → W.heap[k]? = some o → W'.heap[k]? = some o) ∧ Jr W'
  | _, _, _ => False
theorem wpIn_rangeFunc_once {P : Program} {n : Nat} {g : Operand} {ps : Array Tmp} {assign body : Code} {Q : Exit → Act → World → Prop} {a : Act} {w : World}
    (h1 : 1 ≤ n) {gf : Nat} {lb : Array Value} (hg : a.eval g = .func (.func gf) #[] lb) (eg : ∀ args w, (callFunc gf args).run P w = .ok (.enter gf args) w)
    {encs : List UInt8 → Array Value} {opt : Option (List UInt8)} (hps : ∀ x, (encs x).size = ps.size) (Jr : List UInt8 → World → Prop) (hJr : ∀ s A B, Jr s A → Below w.heap.size A B → Jr s B)
    (hseq : ∀ (l : Nat) (W : World), Below w.heap.size w W → ∀ (J0 : World → Prop) (Jx : List UInt8 → World → Prop), (∀ A B, J0 A → Below W.heap.size A B → J0 B) → (∀ s A B, Jx s A → Below W.heap.size A B → Jx s B) →
      (∀ W1 s, J0 W1 → Below W.heap.size W W1 → YieldAt Fence.wide (n - 1 - 1) P l (encs s) W1 fun e W' => e = .returned (.bool false) ∧ Jx s W' ∧ Above W.heap.size W1 W') →
      J0 W → CallsIn Fence.wide (n - 1) P gf (#[.func (.yield l) #[] #[]] ++ lb) W fun e W' => (∃ v, e = .returned v) ∧ ((opt = none ∧ J0 W') ∨ ∃ s, opt = some s ∧ Jx s W'))
    (a₁ : List UInt8 → Act)
    (hassign : ∀ (l : Nat) (x : List UInt8) (W : World) (K : Act → World → Prop), K (a₁ x) W →
      assign.wpIn (Fence.wide.inRound l) (n - 1 - 1) P (Exit.then K (fun _ _ _ => False)) { tmps := (ps.zip (encs x)).foldl (fun t (p, v) => t.setIfInBounds p v) a.tmps, defers := [] } W)
    (hbody : ∀ (l : Nat) (x : List UInt8) (W : World), Below w.heap.size w W → body.wpIn (Fence.wide.inRound l) (n - 1 - 1) P (oncePost w.heap.size (Jr x) W) (a₁ x) W)
    (hdone : ∀ (D : Nat) (W : World), w.heap.size ≤ D → opt = none → Below w.heap.size w W → W.heap[D]? = some (.deferred (some [])) → Q .normal { a with defers := { target := .collected D, args := #[] } :: a.defers } W)
    (hstop : ∀ (D : Nat) (s : List UInt8) (W : World), w.heap.size ≤ D → opt = some s → Jr s W → W.heap[D]? = some (.deferred (some [])) → Code.ret.wpIn Fence.wide n P Q { a with defers := { target := .collected D, args := #[] } :: a.defers } W) :
    (Code.rangeFunc g ps assign body).wpIn Fence.wide n P Q a w := by
  refine wpIn_rangeFunc ?_
  intro fn hfn
  obtain ⟨rec, hrec⟩ : ∃ rec : LoopState → Option Code → Loop, rec = fun st pe => { state := st, pending := pe, fn, tmps := a.tmps, params := ps, assign, body, defers := w.heap.size } := ⟨_, rfl⟩
  obtain ⟨W1, hW1⟩ : ∃ W1, (w.alloc (.deferred (some []))).alloc (.loop (rec .ready none)) = W1 := ⟨_, rfl⟩
  have hL1 : W1.heap[w.heap.size + 1]? = some (.loop (rec .ready none)) := by
    rw [← hW1]; have := World.alloc_heap_new (w.alloc (.deferred (some []))) (.loop (rec .ready none)); rwa [World.size_alloc] at this
  have hK1 : W1.heap[w.heap.size]? = some (.deferred (some [])) := by
    rw [← hW1]; exact (Below.heap_alloc _ _ _ (by simp)).trans (World.alloc_heap_new w _)
  have hs1 : W1.heap.size = w.heap.size + 2 := by rw [← hW1]; simp
  have hb1 : Below w.heap.size w W1 := by
    rw [← hW1]; exact (((Below.refl _ w).alloc (Nat.le_refl _) _).alloc (by simp) _)
  refine ⟨w.heap.size + 1, [{ target := .collected w.heap.size, args := #[] }], W1, { target := .fn (.func gf) lb, args := #[.func (.yield (w.heap.size + 1)) #[] #[]] }, W1, gf,
    #[.func (.yield (w.heap.size + 1)) #[] #[]] ++ lb, W1, ?_, ?_, ?_, ?_, fun _ => h1, ?_⟩
  · rw [← hW1, hrec]; exact run_enterLoop_outer _ _ _ _ _
  · simp only [resolve, hg]
    simp [go_sem]
  · intro f' hf'; trivial
  · simp [invoke, go_sem, eg]
  · refine (hseq (w.heap.size + 1) W1 hb1 (fun W => Below W1.heap.size W1 W) (fun s W => Jr s W ∧ w.heap.size + 2 ≤ W.heap.size ∧ W.heap[w.heap.size + 1]? = some (.loop (rec .done (some .ret))) ∧ W.heap[w.heap.size]? = some (.deferred (some [])))
      (fun A B h k => h.trans k) (fun s A B h k => ⟨hJr s A B h.1 (k.mono (by omega)), Nat.le_trans h.2.1 k.size, (k.block _ (by omega)).trans h.2.2.1, (k.block _ (by omega)).trans h.2.2.2⟩)
      ?_ (Below.refl _ _)).mono ?_
    · rintro W s hj hb
      have hl : W.heap[w.heap.size + 1]? = some (.loop (rec .ready none)) := (hj.block _ (by omega)).trans hL1
      have hk : W.heap[w.heap.size]? = some (.deferred (some [])) := (hj.block _ (by omega)).trans hK1
      have hlt : w.heap.size + 1 < W.heap.size := (Array.getElem?_eq_some_iff.1 hl).1
      have hy := run_yield (P := P) (args := encs s) hl (by rw [hrec]; exact hps s)
      rw [hrec] at hy
      refine ⟨fn, _, assign, body, hy, roundIn_of_wpIn hfn (hassign _ s W _ ⟨_, run_beginRound hl (by rw [hrec]), ?_⟩)⟩
      obtain ⟨W2, hW2⟩ : ∃ W2, W.putObj (w.heap.size + 1) (.loop { rec .ready none with state := .busy }) = W2 := ⟨_, rfl⟩
      have hl2 : W2.heap[w.heap.size + 1]? = some (.loop { rec .ready none with state := .busy }) := by rw [← hW2]; exact World.putObj_heap_same hlt
      have hk2 : W2.heap[w.heap.size]? = some (.deferred (some [])) := by rw [← hW2]; exact (World.putObj_heap_other (by omega)).trans hk
      have hs2 : W2.heap.size = W.heap.size := by rw [← hW2]; simp
      have ho2 : ∀ k, w.heap.size + 2 ≤ k → W2.heap[k]? = W.heap[k]? := fun k hk => by rw [← hW2]; exact World.putObj_heap_other (by omega)
      have hb2 : Below w.heap.size w W2 := (hb1.trans (hj.mono (by omega))).trans (by rw [← hW2]; exact put_below _ _ (by omega))
      rw [hrec] at hW2 hl2
      rw [hrec]
      dsimp only at hW2 hl2 ⊢
      rw [hW2]
      refine wpIn_mono (hbody _ s W2 hb2) ?_
      rintro e a3 W3 hp
      cases e with
      | ret =>
        obtain ⟨hz, hkk, hJ⟩ := hp
        have hl3 := hkk _ _ (by omega) hl2
        have hr := run_endRound (P := P) (some .ret) hl3
        refine ⟨_, _, hr, rfl, ⟨hJr s W3 _ hJ (put_below _ _ (by omega)), by simp; omega, ?_, ?_⟩, ?_⟩
        · rw [World.putObj_heap_same (Array.getElem?_eq_some_iff.1 hl3).1]
          rfl
        · exact (World.putObj_heap_other (by omega)).trans (hkk _ _ (by omega) hk2)
        · refine ⟨by simp; omega, fun k o h3 h4 => ?_⟩
          rw [World.putObj_heap_other (by omega)]
          exact hkk k o (by omega) ((ho2 k (by omega)).trans h4)
      | _ => exact hp.elim
    · rintro e W2 ⟨⟨v, rfl⟩, (⟨ho, hj⟩ | ⟨s, ho, hJ, hz, hl, hk⟩)⟩
      · have hl : W2.heap[w.heap.size + 1]? = some (.loop (rec .ready none)) := (hj.block _ (by omega)).trans hL1
        have hk : W2.heap[w.heap.size]? = some (.deferred (some [])) := (hj.block _ (by omega)).trans hK1
        exact ⟨none, _, by have := run_endLoop (P := P) hl (by rw [hrec]; simp); rw [hrec] at this; exact this, hdone _ _ (Nat.le_refl _) ho ((hb1.trans (hj.mono (by omega))).trans (put_below _ _ (by omega))) ((World.putObj_heap_other (by omega)).trans hk)⟩
      · exact ⟨some .ret, _, by have := run_endLoop (P := P) hl (by rw [hrec]; simp); rw [hrec] at this; exact this, hstop _ s _ (Nat.le_refl _) ho (hJr s _ _ hJ (put_below _ _ (by omega))) ((World.putObj_heap_other (by omega)).trans hk)⟩
end Go.Proofs.Ytojgfaichkcmpaa

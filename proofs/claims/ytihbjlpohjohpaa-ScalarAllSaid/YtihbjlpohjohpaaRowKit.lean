/- Rows: a number of four words, by value, opened and shut; a world with new blocks is grown. -/
import Derived.Test.YtihbjlpohjohpaaRows
import Derived.Test.YtihbjlpohjohpaaNum
import Derived.WalkKit
import Derived.ProofKit
import Derived.OpenShut
import Derived.Lib.SmallJoins
import Derived.Laws.IdiomArrays
import Derived.RowKit3
namespace Go.Proofs.Ytihbjlpohjohpaa
open Go.ChangeShapes Go.WideShapes Go.ChangeAt Go.RowKit Go.Joins

theorem own : ownKnob Try.prog.godebug = none := by kernel_rfl
theorem cells22 : Try.prog.cellsOf 22 = 1 := by kernel_rfl
theorem cells24 : Try.prog.cellsOf 24 = 4 := by kernel_rfl

/-- What the row asks behind a call that laid new blocks alone. -/
theorem post_plus {P : Program} {H : Type} {enc : TypeId × Value → H} {f : Func} {s : ChangeSpec} {apart fresh handsOn again : Bool} {W : World} {x : Ext} {args : Array Value} {v : Value} {ds gs : List (DataW H)} {before pa pv : List MemPlace}
    (hW : DataW.Whole enc P f.params.toList s.vars apart W args.toList ds gs before)
    (hres : ∀ (b : Nat) (sp : Nat → Bool) (hd : Bool), DataW.TrodAll enc P (plus W x) b sp hd f.resultTypes.toList (v.resultList f.resultTypes.size) (s.fn H (ds ++ gs)).results [])
    (hargs : ∀ sp : Nat → Bool, (∀ p ∈ before, sp p.block = true) → DataW.TrodAll enc P (plus W x) 0 sp true f.params.toList args.toList (s.fn H (ds ++ gs)).args pa)
    (hvars : ∀ sp : Nat → Bool, (∀ p ∈ before, sp p.block = true) → DataW.TrodVars enc P (plus W x) sp s.vars (s.fn H (ds ++ gs)).vars pv)
    (hps : before = pa ++ pv)
    (hok : ∀ (j : Nat) (t : TypeId) (r : Value), f.resultTypes[j]? = some t → (v.resultList f.resultTypes.size)[j]? = some r → Value.okWide P (plus W x) .any 0 t r) :
    s.post enc P f apart fresh handsOn again W args v (plus W x) := by
  have old : ∀ p ∈ before, decide (p.block < W.heap.size) = true := fun p hp => by simpa using hW.lt p hp
  refine ⟨ds, gs, before, [], pa, pv, hW, hres _ _ _, hargs _ old, hvars _ old, World.keptBut_mono (fun p hp => ⟨hp, Or.inr (by rw [hps] at hp; exact List.mem_append.1 hp)⟩) ((below_plus W x).frame (· ∈ before)), fun _ => ?_⟩
  have lt := hW.lt
  obtain ⟨_, _, _, _, _, hz, hn⟩ := hW
  have e : before = ([] ++ pa) ++ pv := hps
  refine ⟨hok, _, _, ([] ++ pa) ++ pv, ⟨[] ++ pa, pv, trodAll_append (hargs _ (fun _ _ => rfl)) (hres _ _ _), hvars _ (fun _ _ => rfl), rfl, fun b off hp => ?_, fun ha => e ▸ hn ha⟩, fun p hp _ => e ▸ hp⟩
  have hp' : MemPlace.cell b off ∈ before := e ▸ hp
  rw [(below_plus W x).frozen (p := ⟨b, off, none⟩) (lt _ hp')]
  exact hz b off hp'

abbrev numD {H : Type} (n : Nat) : DataW H := .agg [.lit (.int .u64 (nw n 0)), .lit (.int .u64 (nw n 1)), .lit (.int .u64 (nw n 2)), .lit (.int .u64 (nw n 3))]

theorem wf64 {n : Int} (h : (Lit.int .u64 n).wf = true) : ∃ m : Nat, n = m ∧ m < B := by
  simp [Lit.wf, IntKind.min, IntKind.max, IntKind.signed, IntKind.bits] at h
  exact ⟨n.toNat, by omega, by unfold B; omega⟩
theorem wf8 {n : Int} (h : (Lit.int .u8 n).wf = true) : ∃ m : Nat, n = m ∧ m < 256 := by
  simp [Lit.wf, IntKind.min, IntKind.max, IntKind.signed, IntKind.bits] at h
  exact ⟨n.toNat, by omega, by omega⟩
theorem wf64_nat {m : Nat} (h : m < B) : (Lit.int .u64 (m : Int)).wf = true := by
  unfold B at h
  simp [Lit.wf, IntKind.min, IntKind.max, IntKind.signed, IntKind.bits]
  omega

theorem open_num {H : Type} {enc : TypeId × Value → H} {W : World} {base b0 : Nat} {spare : Nat → Bool} {held : Bool} {v : Value} {d : DataW H} {p : List MemPlace} {r : Reach}
    (hv : Value.okWide Try.prog W r b0 24 v) (h : DataW.Trod enc Try.prog W base spare held 24 v d p) : ∃ n : Nat, n < B ^ 4 ∧ v = numV n ∧ d = numD n ∧ p = [] := by
  obtain ⟨cs, rfl, hsz, _⟩ : ∃ cs, v = .agg cs ∧ cs.size = Try.prog.cellsOf 24 ∧ Row.okWide Try.prog W r b0 24 cs := by
    simpa [Value.okWide, Try.underlying24] using hv
  rw [cells24] at hsz
  obtain ⟨c0, c1, c2, c3, rfl⟩ := array4 hsz
  obtain ⟨fuel, hf⟩ := h
  obtain ⟨y0, y1, y2, y3, m, hx, hy0, hy1, hy2, hy3⟩ := trod_array4 Try.underlying24 cells22 hf
  obtain ⟨x0, e0, rfl, w0⟩ := DataW.trod_int Try.underlying22 hy0
  obtain ⟨x1, e1, rfl, w1⟩ := DataW.trod_int Try.underlying22 hy1
  obtain ⟨x2, e2, rfl, w2⟩ := DataW.trod_int Try.underlying22 hy2
  obtain ⟨x3, e3, rfl, w3⟩ := DataW.trod_int Try.underlying22 hy3
  simp at e0 e1 e2 e3
  subst e0 e1 e2 e3
  simp only [Prod.mk.injEq] at hx
  obtain ⟨rfl, rfl⟩ := hx
  obtain ⟨m0, rfl, l0⟩ := wf64 w0
  obtain ⟨m1, rfl, l1⟩ := wf64 w1
  obtain ⟨m2, rfl, l2⟩ := wf64 w2
  obtain ⟨m3, rfl, l3⟩ := wf64 w3
  obtain ⟨k0, k1, k2, k3⟩ := ofw_words l0 l1 l2 l3
  exact ⟨ofw m0 m1 m2 m3, ofw_lt l0 l1 l2 l3, by rw [numV, k0, k1, k2, k3], by rw [numD, k0, k1, k2, k3], rfl⟩

theorem shut_num {H : Type} {enc : TypeId × Value → H} (n : Nat) (W : World) (spare : Nat → Bool) : DataW.Trod enc Try.prog W 0 spare true 24 (numV n) (numD n) [] :=
  ⟨2, by
    have w0 := wf64_nat (nw_lt' n 0)
    have w1 := wf64_nat (nw_lt' n 1)
    have w2 := wf64_nat (nw_lt' n 2)
    have w3 := wf64_nat (nw_lt' n 3)
    simp [DataW.trod, Value.cells, Try.underlying24, Try.underlying22, cells24, cells22, w0, w1, w2, w3, show List.range 4 = [0, 1, 2, 3] from rfl]⟩

end Go.Proofs.Ytihbjlpohjohpaa

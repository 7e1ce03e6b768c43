/- Rows that are no tree, and what the region that lays them keeps. -/
import Derived.Test.YtmlefodnbbkilaaRegKeep
import Derived.Test.YtmlefodnbbkilaaMade
namespace Go.Proofs.Ytmlefodnbbkilaa
open Go.RowKit

/-- What a temporary holds. -/
inductive Kd where
  | val (v : Value)
  | row (l : List Nd)
  | rows (L : List (List Nd))
def Holds : Kd → Value → World → Prop
  | .val c, v, _ => v = c
  | .row l, v, w => NIn w v l
  | .rows L, v, w => ∃ g, v = .slice (some ⟨g, 0, none⟩) L.length L.length ∧ g < w.heap.size ∧ ∀ j l, L[j]? = some l → ∃ u, w.cell? ⟨g, j, none⟩ = some u ∧ NIn w u l
theorem Holds.on {k : Kd} {v : Value} {w w' : World} (h : Holds k v w) (hb : Below w.heap.size w w') : Holds k v w' := by
  cases k with
  | val c => exact h
  | row l => exact XIn.on h hb
  | rows L =>
    obtain ⟨g, h1, h2, h3⟩ := h
    refine ⟨g, h1, Nat.lt_of_lt_of_le h2 hb.size, fun j l hj => ?_⟩
    obtain ⟨u, h4, h5⟩ := h3 j l hj
    exact ⟨u, (cell_below hb h2).trans h4, h5.on hb⟩
def ndV (x : Nd) : Value := .agg #[strV x.1, .int .i64 x.2.1, strV x.2.2]
def nF : Nd := ([], 1, [])
def nD : Nd := ([], 4, [])
def nN (s : Bs) (k : Int) : Nd := (s, k, [])
def badL : List (List Nd) := [[], [nN [97] 1], [nF, nN [97] 1], [nD, nN [98] 1, nN [97] 1], [nD, nN [97] 1, nN [97] 1], [nD, nN [97, 47, 98] 1], [nD, nN [97] 1, nN [97, 47, 98] 1], [nD, nN [46, 46] 1], [nD, nN [97] 3], [([], 4, [120])], [nN [] 5],
  [nD, nN [97] 4, nN [98] 4, nN [97, 47, 99] 1], [nD, nN [97, 0] 1], [([], 3, [0])], [nD, nN [] 1], [nD, nN [47, 97] 1]]
theorem bad_may : ∀ j, j < 16 → mayN (badL.getD j []) = false := by decide +kernel
theorem bad_small : ∀ j, j < 16 → (badL.getD j []).length ≤ 4 ∧ ∀ x ∈ badL.getD j [], x.1.length ≤ 10 := by decide +kernel
/-- The operations of the region, by what they hold: each row's nodes, then the row. -/
def kdsOf : List (List Nd) → List Kd
  | [] => []
  | l :: r => (l.map fun x => Kd.val (ndV x)) ++ .row l :: kdsOf r
def kds : List Kd := kdsOf badL.tail ++ [.rows badL, .rows badL]
def kdN (i : Nat) : Kd := kds.getD i (.val undef)
def dstN (i : Nat) : Nat := if i = 47 then 5 else i + 11
theorem tmpD (a : Act) (t : Nat) : a.tmps[t]?.getD undef = a.tmps.getD t undef := by simp
theorem dstN_inj {i j : Nat} (hi : i < 48) (hj : j < 48) (h : dstN i = dstN j) : i = j := by
  unfold dstN at h
  split at h <;> split at h <;> omega
structure Inv4 (W : World) (a0 : Act) (listed : Array Bool) (a : Act) (w : World) : Prop where
  defers : a.defers = a0.defers
  size : a.tmps.size = 86
  below : Below W.heap.size W w
  old : ∀ t, t ≠ 5 → (t < 11 ∨ 57 < t) → a.tmps.getD t undef = a0.tmps.getD t undef
  has : ∀ i, i < 48 → listed.getD i false = true → Holds (kdN i) (a.tmps.getD (dstN i) undef) w
theorem Inv4.put {W : World} {a0 : Act} {listed : Array Bool} {a : Act} {w w' : World} {i d : Nat} {v : Value} (H : Inv4 W a0 listed a w) (hi : i < 48) (hd : d = dstN i) (hw : Below w.heap.size w w') (hv : Holds (kdN i) v w') : Inv4 W a0 (listed.setIfInBounds i true) (a.put (some d) v) w' := by
  subst hd
  have hdl : dstN i < a.tmps.size := by rw [H.size]; unfold dstN; split <;> omega
  refine ⟨H.defers, (size_put _ _ _).trans H.size, H.below.trans (hw.mono H.below.size), fun t h5 ht => ?_, fun j hj hl => ?_⟩
  · rw [getD_put _ _ _ _ hdl, if_neg (by unfold dstN; split <;> omega)]
    exact H.old t h5 ht
  · rw [getD_put _ _ _ _ hdl]
    by_cases hij : j = i
    · subst hij
      rw [if_pos rfl]
      exact hv
    · rw [if_neg fun e => hij (dstN_inj hj hi e)]
      rw [getD_set_ne false (Ne.symm hij)] at hl
      exact (H.has j hj hl).on hw
theorem Inv4.val {W : World} {a0 : Act} {listed : Array Bool} {a : Act} {w : World} (H : Inv4 W a0 listed a w) (i : Nat) (c : Value) (hi : i < 48) (hl : listed.getD i false = true) (hk : kdN i = .val c) (t : Nat) (ht : t = dstN i) : a.eval (.tmp t) = c := by
  have := H.has i hi hl
  rw [hk] at this
  subst ht
  exact this
theorem Inv4.row {W : World} {a0 : Act} {listed : Array Bool} {a : Act} {w : World} (H : Inv4 W a0 listed a w) (i : Nat) (l : List Nd) (hi : i < 48) (hl : listed.getD i false = true) (hk : kdN i = .row l) (t : Nat) (ht : t = dstN i) : ∃ v, a.eval (.tmp t) = v ∧ NIn w v l := by
  have := H.has i hi hl
  rw [hk] at this
  subst ht
  exact ⟨_, rfl, this⟩
end Go.Proofs.Ytmlefodnbbkilaa

/- Nodes, as they come in, opened. -/
import Derived.Deep.Slices
import Derived.ChangeArms
import Derived.ChangeSlices
import Derived.Test.YtmlefodnbbkilaaRowPost
import Derived.Test.YtmlefodnbbkilaaNa6
namespace Go.Proofs.Ytmlefodnbbkilaa
open Go.RowKit Go.ChangeShapes Go.WideShapes

set_option maxRecDepth 100000 in
theorem open_nd {H : Type} {enc : TypeId × Value → H} {W : World} {fuel : Nat} {cs : List Value} {x : DataW H × List MemPlace} (h : DataW.trod enc Try.prog W 0 (fun _ => true) true fuel 37 cs = some x) :
    ∃ a : Nd, cs = encNd a := by
  obtain ⟨xs, n, rfl, -, hlen, hxl, hf⟩ := DataW.trod_struct Try.underlying37 h
  have ce : Try.prog.cellsOf 37 = 3 := by kernel_rfl
  have c3 : Try.prog.cellsOf 3 = 1 := by kernel_rfl
  have c9 : Try.prog.cellsOf 9 = 1 := by kernel_rfl
  rw [ce] at hlen
  match xs, hxl, cs, hlen with
  | [y0, y1, y2], _, [v0, v1, v2], _ =>
    have g0 := hf 0 _ rfl
    have g1 := hf 1 _ rfl
    have g2 := hf 2 _ rfl
    simp [c3, c9] at g0 g1 g2
    obtain ⟨s0, e0, -, w0⟩ := DataW.trod_string Try.underlying9 g0
    obtain ⟨n1, e1, -, w1⟩ := DataW.trod_int Try.underlying3 g1
    obtain ⟨s2, e2, -, w2⟩ := DataW.trod_string Try.underlying9 g2
    simp only [List.cons.injEq, and_true] at e0 e1 e2
    subst e0 e1 e2
    exact ⟨(s0.data.toList, n1, s2.data.toList), by simp [encNd, strV]⟩
set_option maxRecDepth 100000 in
theorem open_nds {H : Type} {enc : TypeId × Value → H} {W : World} {fuel : Nat} {v : Value} {x : DataW H × List MemPlace} (h : DataW.trod enc Try.prog W 0 (fun _ => true) true fuel 25 [v] = some x) : ∃ l, NIn W v l ∧ l.length ≤ 9223372036854775807 := by
  have ce : Try.prog.cellsOf 37 = 3 := by kernel_rfl
  rcases Deep.open_slice Try.underlying25 h with ⟨hcs, _⟩ | ⟨a, len, cap, m, n, D, Pl, hcs, hb, hl, hm, hmm, rfl, hx⟩
  · simp only [List.cons.injEq, and_true] at hcs
    subst hcs
    exact ⟨[], .inl ⟨rfl, .inl rfl⟩, by simp⟩
  · simp only [List.cons.injEq, and_true] at hcs
    subst hcs
    have hmc : m = cap := by simpa using hmm
    subst hmc
    haveI : Inhabited Nd := ⟨([], 0, [])⟩
    obtain ⟨X, hX⟩ := Deep.choose_lt (α := Nd) (p := fun i y => ∀ k u, (encNd y)[k]? = some u → W.cell? ((a.add (i * 3)).add k) = some u) (fun i hi => by
      obtain ⟨cs', h1, h2⟩ := hx i hi
      obtain ⟨y, hy⟩ := open_nd h2
      rw [ce] at h1
      obtain ⟨_, hlen, hcell⟩ := World.cells?_some h1
      refine ⟨y, fun k u hu => ?_⟩
      have hk : k < 3 := by
        have := (List.getElem?_eq_some_iff.1 hu).1
        simpa [encNd] using this
      rw [hcell k hk, hy, hu])
    refine ⟨(List.range len).map X, ?_, by simp; unfold maxLen at hm; omega⟩
    rcases Nat.eq_zero_or_pos len with rfl | h0
    · exact .inl ⟨by simp, .inr ⟨_, _, rfl⟩⟩
    · obtain ⟨b, off, spot⟩ := a
      have hc := hX 0 (by omega) 0 _ rfl
      have hspot : spot = none := by simpa [Addr.add] using World.cell?_spot hc
      subst hspot
      refine .inr ⟨b, off, m, by simp, by simpa using hl, ?_, fun j y hy i hi => ?_⟩
      · have := World.block_lt_of_cell? _ _ hc
        simpa [Addr.add] using this
      · obtain ⟨hj, rfl⟩ : j < len ∧ X j = y := by
          simp only [List.getElem?_map, Option.map_eq_some_iff] at hy
          obtain ⟨k, hk, rfl⟩ := hy
          have := List.getElem?_eq_some_iff.1 hk
          simp at this
          exact ⟨this.1, by rw [this.2]⟩
        have hii : i < (encNd (X j)).length := by simpa [encNd] using hi
        have := hX j (by omega) i _ (List.getElem?_eq_getElem hii)
        rw [Deep.add_add] at this
        rw [show (⟨b, off, none⟩ : Addr).add (j * 3 + i) = ⟨b, off + j * 3 + i, none⟩ by
          unfold Addr.add
          split
          · next h =>
            have h3 : j * 3 = 0 := by omega
            have h4 : i = 0 := by omega
            rw [h3, h4]
            rfl
          · rw [Nat.add_assoc]] at this
        rw [this, List.getElem?_eq_getElem hii]
end Go.Proofs.Ytmlefodnbbkilaa

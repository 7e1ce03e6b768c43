/- What is asked, as it comes in, opened. -/
import Derived.Deep.Slices
import Derived.ChangeArms
import Derived.ChangeSlices
import Derived.Test.YtojgfaichkcmpaaRowPost
import Derived.Test.YtojgfaichkcmpaaRun0
namespace Go.Proofs.Ytojgfaichkcmpaa
open Go.RowKit Go.ChangeShapes Go.WideShapes

theorem IntsW.of {w : World} {x : Addr} {len cap : Nat} {zs : List Int} (hl : len ≤ cap) (hm : cap ≤ maxLen) (hz : zs.length = cap) (hcell : ∀ i, i < zs.length → w.cell? (x.add i) = some (.int .i64 (zs.getD i 0))) :
    IntsW w (.slice (some x) len cap) (zs.take len) := by
  have hlen : (zs.take len).length = len := by simp; omega
  rcases Nat.eq_zero_or_pos len with rfl | h0
  · exact .inl ⟨by simp, _, _, rfl⟩
  · obtain ⟨b, off, spot⟩ := x
    have hc := hcell 0 (by omega)
    have hspot : spot = none := by simpa [Addr.add] using World.cell?_spot hc
    subst hspot
    refine .inr ⟨b, off, cap, by rw [hlen], ?_, by rw [hlen]; unfold maxLen at hm; omega, fun j hj => ?_⟩
    · have := World.block_lt_of_cell? _ _ hc
      simpa [Addr.add] using this
    · rw [hlen] at hj
      have h2 := hcell j (by omega)
      have e : (⟨b, off, none⟩ : Addr).add j = ⟨b, off + j, none⟩ := by simp [Addr.add]
      rw [e] at h2
      rw [h2]
      simp only [List.getD_eq_getElem?_getD, List.getElem?_take, if_pos hj]
theorem open_ask {H : Type} {enc : TypeId × Value → H} {W : World} {fuel : Nat} {cs : List Value} {x : DataW H × List MemPlace} (h : DataW.trod enc Try.prog W 0 (fun _ => true) true fuel 62 cs = some x) :
    ∃ a : AskN, cs = a.cells ∧ IntsW W a.lv a.zs ∧ a.n ≤ 9223372036854775807 := by
  obtain ⟨xs, n, rfl, -, hlen, hxl, hf⟩ := DataW.trod_struct Try.underlying62 h
  have ce : Try.prog.cellsOf 62 = 5 := by kernel_rfl
  have c3 : Try.prog.cellsOf 3 = 1 := by kernel_rfl
  have c9 : Try.prog.cellsOf 9 = 1 := by kernel_rfl
  have c34 : Try.prog.cellsOf 34 = 1 := by kernel_rfl
  rw [ce] at hlen
  match xs, hxl, cs, hlen with
  | [y0, y1, y2, y3, y4], _, [v0, v1, v2, v3, v4], _ =>
    have g0 := hf 0 _ rfl
    have g1 := hf 1 _ rfl
    have g2 := hf 2 _ rfl
    have g3 := hf 3 _ rfl
    have g4 := hf 4 _ rfl
    simp [c3, c9, c34] at g0 g1 g2 g3 g4
    obtain ⟨n0, e0, -, w0⟩ := DataW.trod_int Try.underlying3 g0
    obtain ⟨n1, e1, -, w1⟩ := DataW.trod_int Try.underlying3 g1
    obtain ⟨n2, e2, -, w2⟩ := DataW.trod_int Try.underlying3 g2
    obtain ⟨s, e3, -, w3⟩ := DataW.trod_string Try.underlying9 g3
    simp only [List.cons.injEq, and_true] at e0 e1 e2 e3
    subst e0 e1 e2 e3
    have hn : n2 ≤ 9223372036854775807 := (wfI64 w2).2
    rcases open_ints Try.underlying34 Try.underlying3 c3 g4 with ⟨hcs, _⟩ | ⟨a, l, c, zs, hcs, _, hl, hm, hz, _, hcell, _⟩
    · simp only [List.cons.injEq, and_true] at hcs
      subst hcs
      exact ⟨⟨n0, n1, n2, s.data.toList, .slice none 0 0, []⟩, by simp [AskN.cells, strV], .inl ⟨rfl, _, _, rfl⟩, hn⟩
    · simp only [List.cons.injEq, and_true] at hcs
      subst hcs
      exact ⟨⟨n0, n1, n2, s.data.toList, .slice (some a) l c, zs.take l⟩, by simp [AskN.cells, strV], IntsW.of hl hm (by simpa using hz) hcell, hn⟩
theorem open_asks {H : Type} {enc : TypeId × Value → H} {W : World} {fuel : Nat} {v : Value} {x : DataW H × List MemPlace} (h : DataW.trod enc Try.prog W 0 (fun _ => true) true fuel 42 [v] = some x) : ∃ l, AsksW W v l := by
  have ce : Try.prog.cellsOf 62 = 5 := by kernel_rfl
  rcases Deep.open_slice Try.underlying42 h with ⟨hcs, _⟩ | ⟨a, len, cap, m, n, D, Pl, hcs, hb, hl, hm, hmm, rfl, hx⟩
  · simp only [List.cons.injEq, and_true] at hcs
    subst hcs
    exact ⟨[], .inl ⟨rfl, _, _, rfl⟩⟩
  · simp only [List.cons.injEq, and_true] at hcs
    subst hcs
    have hmc : m = cap := by simpa using hmm
    subst hmc
    haveI : Inhabited AskN := ⟨⟨0, 0, 0, [], .slice none 0 0, []⟩⟩
    obtain ⟨X, hX⟩ := Deep.choose_lt (α := AskN) (p := fun i y => IntsW W y.lv y.zs ∧ y.n ≤ 9223372036854775807 ∧ ∀ k u, y.cells[k]? = some u → W.cell? ((a.add (i * 5)).add k) = some u) (fun i hi => by
      obtain ⟨cs', h1, h2⟩ := hx i hi
      obtain ⟨y, hy, hz, hn⟩ := open_ask h2
      rw [ce] at h1
      obtain ⟨_, hlen, hcell⟩ := World.cells?_some h1
      refine ⟨y, hz, hn, fun k u hu => ?_⟩
      have hk : k < 5 := by
        have := (List.getElem?_eq_some_iff.1 hu).1
        simpa [AskN.cells] using this
      rw [hcell k hk, hy, hu])
    refine ⟨(List.range len).map X, ?_⟩
    rcases Nat.eq_zero_or_pos len with rfl | h0
    · exact .inl ⟨by simp, _, _, rfl⟩
    · obtain ⟨b, off, spot⟩ := a
      have hc := (hX 0 (by omega)).2.2 0 _ rfl
      have hspot : spot = none := by simpa [Addr.add] using World.cell?_spot hc
      subst hspot
      refine .inr ⟨b, off, m, by simp, ?_, fun j y hy => ?_⟩
      · have := World.block_lt_of_cell? _ _ hc
        simpa [Addr.add] using this
      · obtain ⟨hj, rfl⟩ : j < len ∧ X j = y := by
          simp only [List.getElem?_map, Option.map_eq_some_iff] at hy
          obtain ⟨k, hk, rfl⟩ := hy
          have := List.getElem?_eq_some_iff.1 hk
          simp at this
          exact ⟨this.1, by rw [this.2]⟩
        obtain ⟨h1, h2, h3⟩ := hX j (by omega)
        refine ⟨h1, h2, fun k u hu => ?_⟩
        have := h3 k u hu
        rw [Deep.add_add] at this
        rw [show (⟨b, off, none⟩ : Addr).add (j * 5 + k) = ⟨b, off + j * 5 + k, none⟩ by
          unfold Addr.add
          split
          · next h =>
            have h3 : j * 5 = 0 := by omega
            have h4 : k = 0 := by omega
            rw [h3, h4]
            rfl
          · rw [Nat.add_assoc]] at this
        exact this
end Go.Proofs.Ytojgfaichkcmpaa

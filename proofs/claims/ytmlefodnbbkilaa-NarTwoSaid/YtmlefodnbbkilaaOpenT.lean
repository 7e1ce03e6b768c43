/- Bytes and texts, as they come in, opened. -/
import Derived.Deep.Slices
import Derived.ChangeArms
import Derived.ChangeSlices
import Derived.SizedLaws
import Derived.Test.YtmlefodnbbkilaaRowPost
import Derived.Test.YtmlefodnbbkilaaMk1
namespace Go.Proofs.Ytmlefodnbbkilaa
open Go.RowKit Go.ChangeShapes Go.WideShapes

theorem addr_at (b off j : Nat) : (⟨b, off, none⟩ : Addr).add j = ⟨b, off + j * 1 + 0, none⟩ := by
  rw [Nat.mul_one, Nat.add_zero]
  unfold Addr.add
  split
  · rename_i h
    rw [h, Nat.add_zero]
  · rfl
set_option maxRecDepth 100000 in
theorem open_bys {H : Type} {enc : TypeId × Value → H} {W : World} {fuel : Nat} {v : Value} {d : DataW H} {pl : List MemPlace} (h : DataW.trod enc Try.prog W 0 (fun _ => true) true fuel 22 [v] = some (d, pl)) :
    ∃ l : Bs, BIn W v l ∧ (l.length = 0 ∨ ∃ el sp, d = .slice el sp ∧ el.length = l.length) := by
  rcases Deep.open_slice1 Try.underlying22 (by kernel_rfl) h with ⟨hcs, _⟩ | ⟨a, len, cap, m, n, V, D, Pl, hcs, hb, hl, hm, hmm, hd, hx⟩
  · simp only [List.cons.injEq, and_true] at hcs
    subst hcs
    exact ⟨[], .inl ⟨rfl, .inl rfl⟩, .inl rfl⟩
  · simp only [List.cons.injEq, and_true] at hcs
    subst hcs
    have hmc : m = cap := by simpa using hmm
    subst hmc
    obtain ⟨rfl, -⟩ := Prod.mk.inj hd
    have hX : ∀ i, i < m → ∃ y : UInt8, W.cell? (a.add i) = some (.int .u8 (y.toNat : Int)) := fun i hi => by
      obtain ⟨h1, h2⟩ := hx i hi
      obtain ⟨z, e1, -, w1⟩ := DataW.trod_int Try.underlying5 h2
      simp only [List.cons.injEq, and_true] at e1
      simp [Lit.wf, IntKind.min, IntKind.max, IntKind.signed, IntKind.bits] at w1
      refine ⟨UInt8.ofNat z.toNat, ?_⟩
      rw [h1, e1, UInt8.toNat_ofNat']
      congr 2
      omega
    haveI : Inhabited UInt8 := ⟨0⟩
    obtain ⟨X, hX⟩ := Deep.choose_lt (α := UInt8) (p := fun i y => W.cell? (a.add i) = some (.int .u8 (y.toNat : Int))) hX
    refine ⟨(List.range len).map X, ?_, .inr ⟨_, _, rfl, by simp⟩⟩
    rcases Nat.eq_zero_or_pos len with rfl | h0
    · exact .inl ⟨by simp, .inr ⟨_, _, rfl⟩⟩
    · obtain ⟨b, off, spot⟩ := a
      have hc := hX 0 (by omega)
      have hspot : spot = none := by simpa [Addr.add] using World.cell?_spot hc
      subst hspot
      refine .inr ⟨b, off, m, by simp, by simpa using hl, ?_, fun j y hy i hi => ?_⟩
      · have := World.block_lt_of_cell? _ _ hc
        simpa [Addr.add] using this
      · obtain rfl : i = 0 := by omega
        obtain ⟨hj, rfl⟩ : j < len ∧ X j = y := by
          simp only [List.getElem?_map, Option.map_eq_some_iff] at hy
          obtain ⟨k, hk, rfl⟩ := hy
          have := List.getElem?_eq_some_iff.1 hk
          simp at this
          exact ⟨this.1, by rw [this.2]⟩
        have := hX j (by omega)
        rw [addr_at] at this
        exact this
set_option maxRecDepth 100000 in
theorem open_sts {H : Type} {enc : TypeId × Value → H} {W : World} {fuel : Nat} {v : Value} {d : DataW H} {pl : List MemPlace} (h : DataW.trod enc Try.prog W 0 (fun _ => true) true fuel 23 [v] = some (d, pl)) :
    ∃ l : List Bs, SIn W v l ∧ l.length ≤ 9223372036854775807 := by
  rcases Deep.open_slice1 Try.underlying23 (by kernel_rfl) h with ⟨hcs, _⟩ | ⟨a, len, cap, m, n, V, D, Pl, hcs, hb, hl, hm, hmm, hd, hx⟩
  · simp only [List.cons.injEq, and_true] at hcs
    subst hcs
    exact ⟨[], .inl ⟨rfl, .inl rfl⟩, by simp⟩
  · simp only [List.cons.injEq, and_true] at hcs
    subst hcs
    have hmc : m = cap := by simpa using hmm
    subst hmc
    have hX : ∀ i, i < m → ∃ y : Bs, W.cell? (a.add i) = some (strV y) := fun i hi => by
      obtain ⟨h1, h2⟩ := hx i hi
      obtain ⟨s, e1, -, w1⟩ := DataW.trod_string Try.underlying9 h2
      simp only [List.cons.injEq, and_true] at e1
      refine ⟨s.data.toList, ?_⟩
      rw [h1, e1]
    haveI : Inhabited Bs := ⟨[]⟩
    obtain ⟨X, hX⟩ := Deep.choose_lt (α := Bs) (p := fun i y => W.cell? (a.add i) = some (strV y)) hX
    refine ⟨(List.range len).map X, ?_, by simp; unfold maxLen at hm; omega⟩
    rcases Nat.eq_zero_or_pos len with rfl | h0
    · exact .inl ⟨by simp, .inr ⟨_, _, rfl⟩⟩
    · obtain ⟨b, off, spot⟩ := a
      have hc := hX 0 (by omega)
      have hspot : spot = none := by simpa [Addr.add] using World.cell?_spot hc
      subst hspot
      refine .inr ⟨b, off, m, by simp, by simpa using hl, ?_, fun j y hy i hi => ?_⟩
      · have := World.block_lt_of_cell? _ _ hc
        simpa [Addr.add] using this
      · obtain rfl : i = 0 := by omega
        obtain ⟨hj, rfl⟩ : j < len ∧ X j = y := by
          simp only [List.getElem?_map, Option.map_eq_some_iff] at hy
          obtain ⟨k, hk, rfl⟩ := hy
          have := List.getElem?_eq_some_iff.1 hk
          simp at this
          exact ⟨this.1, by rw [this.2]⟩
        have := hX j (by omega)
        rw [addr_at] at this
        exact this
theorem bys_len {H : Type} {ts : List TypeId} {ds : List (DataW H)} {l : Bs} (hsz : (DataW.weightsEach Try.prog ts ds).all (· ≤ reachBytes) = true) {j : Nat} {d : DataW H} (ht : ts[j]? = some 22) (hd : ds[j]? = some d) (h : l.length = 0 ∨ ∃ el sp, d = .slice el sp ∧ el.length = l.length) : l.length ≤ 140737488355328 := by
  rcases h with h | ⟨el, sp, rfl, h⟩
  · omega
  · have h1 := sized_slice hsz ht hd Try.underlying22
    have h2 : Try.prog.bytesOf 5 = 1 := by kernel_rfl
    have h3 := reachBytes_lt
    rw [h2] at h1
    omega
end Go.Proofs.Ytmlefodnbbkilaa

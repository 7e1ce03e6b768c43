/- Bytes that came in. -/
import Derived.IntWalk
import Derived.Test.YtbdiombbknmlaaaBase
namespace Go.Proofs.Ytbdiombbknmlaaa
open Go.RowKit

/-- Bytes that came in. -/
def U8s (w : World) (v : Value) (l : List UInt8) : Prop :=
  (l = [] ∧ ∃ a c, v = .slice a 0 c) ∨ ∃ b off c, v = .slice (some ⟨b, off, none⟩) l.length c ∧ b < w.heap.size ∧ l.length ≤ maxLen ∧ ∀ j, j < l.length → w.cell? ⟨b, off + j, none⟩ = some (.int .u8 ((l.getD j 0).toNat : Int))
theorem U8s.form {w : World} {v : Value} {l : List UInt8} (h : U8s w v l) : (∃ a c, v = .slice a l.length c) ∧ l.length ≤ maxLen := by
  rcases h with ⟨rfl, a, c, rfl⟩ | ⟨b, off, c, rfl, _, h2, _⟩
  · exact ⟨⟨_, _, rfl⟩, by simp⟩
  · exact ⟨⟨_, _, rfl⟩, h2⟩
theorem U8s.at {w W : World} {v : Value} {l : List UInt8} (h : U8s w v l) (hb : Below w.heap.size w W) (j : Nat) (hj : j < l.length) :
    ∃ b off c, v = .slice (some ⟨b, off, none⟩) l.length c ∧ W.cell? ⟨b, off + j, none⟩ = some (.int .u8 ((l.getD j 0).toNat : Int)) ∧ has W b := by
  rcases h with ⟨rfl, _⟩ | ⟨b, off, c, rfl, h1, _, h3⟩
  · simp at hj
  · exact ⟨b, off, c, rfl, (hb.cell (p := ⟨b, off + j, none⟩) h1).trans (h3 j hj), by have := hb.size; unfold has; omega⟩
/-- Out of a row that was read. -/
theorem U8s.of {w : World} {x : Addr} {len cap : Nat} {zs : List Int} (hl : len ≤ cap) (hm : cap ≤ maxLen) (hz : zs.length = cap) (hcell : ∀ i, i < zs.length → w.cell? (x.add i) = some (.int .u8 (zs.getD i 0))) (hw : ∀ n ∈ zs, (Lit.int .u8 n).wf = true) :
    ∃ l, U8s w (.slice (some x) len cap) l ∧ l.length = len := by
  refine ⟨(zs.take len).map fun n => UInt8.ofNat n.toNat, ?_, by simp; omega⟩
  rcases Nat.eq_zero_or_pos len with rfl | h0
  · exact .inl ⟨by simp, _, _, rfl⟩
  · obtain ⟨b, off, spot⟩ := x
    have hc := hcell 0 (by omega)
    have hspot : spot = none := by simpa [Addr.add] using World.cell?_spot hc
    subst hspot
    have hlen : ((zs.take len).map fun n => UInt8.ofNat n.toNat).length = len := by simp; omega
    refine .inr ⟨b, off, cap, by rw [hlen], ?_, by rw [hlen]; omega, fun j hj => ?_⟩
    · have := World.block_lt_of_cell? _ _ hc
      simpa [Addr.add] using this
    · rw [hlen] at hj
      have hj' : j < zs.length := by omega
      have h2 := hcell j hj'
      have e : (⟨b, off, none⟩ : Addr).add j = ⟨b, off + j, none⟩ := by simp [Addr.add]
      rw [e] at h2
      rw [h2]
      have hwf := hw (zs.getD j 0) (by rw [List.getD_eq_getElem?_getD, List.getElem?_eq_getElem hj']; exact List.getElem_mem _)
      simp [Lit.wf, IntKind.min, IntKind.max, IntKind.signed, IntKind.bits] at hwf
      have e2 : ((zs.take len).map fun n => UInt8.ofNat n.toNat).getD j 0 = UInt8.ofNat (zs.getD j 0).toNat := by
        simp [hj, hj']
      rw [e2, UInt8.toNat_ofNat']
      congr 2
      simp [hj'] at hwf ⊢
      omega
/-- A byte that came in, by its place. -/
theorem U8s.spot {w : World} {A : Option Addr} {c : Nat} {l : List UInt8} (h : U8s w (.slice A l.length c) l) (i : Nat) (h1 : i < l.length) :
    ∃ b o, A = some ⟨b, o, none⟩ ∧ ∀ {X : World}, Below w.heap.size w X → X.cell? ⟨b, o + i, none⟩ = some (.int .u8 ((l.getD i 0).toNat : Int)) ∧ has X b := by
  obtain ⟨b0, o0, c0, hv, -, -⟩ := h.at (Below.refl _ _) i h1
  obtain ⟨rfl, -, -⟩ := by simpa only [Value.slice.injEq] using hv
  refine ⟨b0, o0, rfl, fun {X} hX => ?_⟩
  obtain ⟨b1, o1, c1, hv1, hc1, hh1⟩ := h.at hX i h1
  obtain ⟨he, -, -⟩ := by simpa only [Value.slice.injEq] using hv1
  simp only [Option.some.injEq, Addr.mk.injEq] at he
  obtain ⟨rfl, rfl, -⟩ := he
  exact ⟨hc1, hh1⟩
theorem u8_remW (y : UInt8) (m : Nat) : (IntKind.i64.wrap (y.toNat : Int)).tmod (m : Int) = ((y.toNat % m : Nat) : Int) := by
  have hy256 := y.toNat_lt
  rw [IntWalk.i64_in _ (by omega), Int.tmod_eq_emod_of_nonneg (by omega)]
  omega
end Go.Proofs.Ytbdiombbknmlaaa

/- Walks: two rows of numbers that are one; appends of any row. -/
import Derived.Laws.AppendOwnNone
import Derived.Test.YtbdiombbknmlaaaSec2
namespace Go.Proofs.Ytbdiombbknmlaaa
open Go.RowKit

/-- Numbers that are read. -/
def I64s (w : World) (v : Value) (l : List Int) : Prop :=
  (l = [] ∧ ∃ a c, v = .slice a 0 c) ∨ ∃ b off c, v = .slice (some ⟨b, off, none⟩) l.length c ∧ b < w.heap.size ∧ ∀ j, j < l.length → w.cell? ⟨b, off + j, none⟩ = some (.int .i64 (l.getD j 0))
theorem I64s.form {w : World} {v : Value} {l : List Int} (h : I64s w v l) : ∃ a c, v = .slice a l.length c := by
  rcases h with ⟨rfl, a, c, rfl⟩ | ⟨b, off, c, rfl, _⟩
  · exact ⟨_, _, rfl⟩
  · exact ⟨_, _, rfl⟩
theorem I64s.spot {w : World} {A : Option Addr} {n c : Nat} {l : List Int} (h : I64s w (.slice A n c) l) (j : Nat) (hj : j < l.length) :
    ∃ b off, A = some ⟨b, off, none⟩ ∧ ∀ {X : World}, Below w.heap.size w X → X.cell? ⟨b, off + j, none⟩ = some (.int .i64 (l.getD j 0)) ∧ has X b := by
  rcases h with ⟨rfl, _⟩ | ⟨b, off, c', hv, h1, h3⟩
  · simp at hj
  · obtain ⟨rfl, -, -⟩ := by simpa only [Value.slice.injEq] using hv
    exact ⟨b, off, rfl, fun {X} hX => ⟨(hX.cell (p := ⟨b, off + j, none⟩) h1).trans (h3 j hj), by have := hX.size; unfold has; omega⟩⟩
theorem I64s.on {w w' : World} {v : Value} {l : List Int} (h : I64s w v l) (hb : Below w.heap.size w w') : I64s w' v l := by
  rcases h with ⟨rfl, a, c, rfl⟩ | ⟨b, off, c, rfl, h1, h3⟩
  · exact .inl ⟨rfl, _, _, rfl⟩
  · exact .inr ⟨b, off, c, rfl, by have := hb.size; omega, fun j hj => (hb.cell (p := ⟨b, off + j, none⟩) h1).trans (h3 j hj)⟩
/-- A part from the beginning of a row of the call's own. -/
theorem I64s.take {w : World} {base n k : Nat} {v : Value} {l : List Int} (h : w.ownsRow base 3 1 v n (l.map encI)) (hn : n = l.length) (hne : 0 < n) (hk : k ≤ n) :
    ∃ g c, v = .slice (some ⟨g, 0, none⟩) n c ∧ n ≤ c ∧ has w g ∧ I64s w (.slice (some ⟨g, 0, none⟩) k c) (l.take k) := by
  rcases h.2 with ⟨_, h0⟩ | ⟨g, cap, cur, hv, _, hh, h1, _⟩
  · omega
  · subst hv
    have hs := (Array.getElem?_eq_some_iff.1 hh).1
    refine ⟨g, cap, rfl, h1, hs, .inr ⟨g, 0, cap, by simp; omega, hs, fun j hj => ?_⟩⟩
    have hj2 : j < l.length := by simp at hj; omega
    rw [Nat.zero_add, h.cellAt j (by omega)]
    have hjk : j < k := by simp at hj; omega
    simp [hj2, hjk, encI]
theorem I64s.all {w : World} {base n : Nat} {v : Value} {l : List Int} (h : w.ownsRow base 3 1 v n (l.map encI)) (hn : n = l.length) : I64s w v l := by
  rcases Nat.eq_zero_or_pos n with h0 | h0
  · obtain ⟨A, c, rfl⟩ := ownsRow_form h
    exact .inl ⟨List.eq_nil_of_length_eq_zero (by omega), A, c, by rw [h0]⟩
  · obtain ⟨g, c, rfl, -, -, h1⟩ := I64s.take h hn h0 (Nat.le_refl n)
    rwa [List.take_of_length_le (by omega)] at h1
set_option maxRecDepth 100000 in
theorem ints_any (W : World) (va vb : Value) (l : List Int) (ha : I64s W va l) (hb : I64s W vb l) (hl : l.length ≤ 100000000) : Calls Try.prog 12 #[va, vb] W fun e w' => e = .returned (.bool true) ∧ Below W.heap.size W w' := by
  obtain ⟨A, c, rfl⟩ := ha.form
  obtain ⟨B, d, rfl⟩ := hb.form
  have HA := Lib.hid ha
  have HB := Lib.hid hb
  clear ha hb
  go_enter Try.func12, Try.ntmps12
  go_wp2_with fail
  rename_i K hK
  have HKK := Lib.hid hK
  clear hK
  go_loopw [5] (fun z wr => ∃ i : Nat, i ≤ l.length ∧ z = .int .i64 i ∧ Hid (Below W.heap.size W wr)) (fun z _ => l.length - (intOf z).toNat)
  case atStart => exact ⟨0, by omega, rfl, Below.refl _ _⟩
  case round =>
    obtain ⟨i, hi, rfl, HW⟩ := hrel
    by_cases hlt : i < l.length
    · have hd : decide ((i : Int) < (l.length : Int)) = true := by simp; omega
      obtain ⟨b, o, rfl, h1⟩ := HA.out.spot i hlt
      obtain ⟨b', o', rfl, h2⟩ := HB.out.spot i hlt
      obtain ⟨x, hx⟩ : ∃ x, l.getD i 0 = x := ⟨_, rfl⟩
      obtain ⟨s1, s1'⟩ := h1 HW.out
      obtain ⟨s2, s2'⟩ := h2 HW.out
      rw [hx] at s1 s2
      clear h1 h2 hx
      go_wp2_with fail
      refine wp_region_plain 9 26 mixed (by kernel_rfl) (by kernel_rfl) rfl (fun _ _ _ _ _ h => h) ?_
      simp only [List.take_succ_cons, List.take_zero, List.drop_succ_cons, List.drop_zero]
      repeat (first | (refine wpHead_skip rfl ?_) | (refine wpHead_run rfl rfl (fun K hK => ?_); go_simp; first | (refine hK _ ?_; clear hK K) | (apply Exists.intro; refine ⟨fun _ => ?_, hK _ ?_⟩; (fail); clear hK K)))
      refine wpHead_nil ?_
      intro zz x1
      clear zz
      have HW2 := Lib.hid (HW.out.trans ((below_plus wr x1).mono HW.out.size))
      go_wp2_with fail
      go_roundw
      case rel => exact ⟨i + 1, by omega, by go_num, HW2.out⟩
      case measure => simp [intOf]; omega
    · obtain rfl : i = l.length := by omega
      have hd : decide ((l.length : Int) < (l.length : Int)) = false := by simp
      go_wp2_with fail
      refine HKK.out _ _ ?_
      go_wp2_with fail
      exact bodyPost_ret (v := .bool true) (by simp [results, Try.results12, go_sem]) rfl ⟨rfl, HW.out⟩
end Go.Proofs.Ytbdiombbknmlaaa

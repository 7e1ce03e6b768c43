/- Walks: how many places; runs by numbers; the document's example. -/
import Derived.Test.YtbdiombbknmlaaaBm5
namespace Go.Proofs.Ytbdiombbknmlaaa
open Go.RowKit

theorem RIn.form {w : World} {v : Value} {l : List Run} (h : RIn w v l) : ∃ A c, v = .slice A l.length c := by
  rcases h with ⟨rfl, rfl | ⟨a, c, rfl⟩⟩ | ⟨b, off, c, rfl, _⟩
  · exact ⟨_, _, rfl⟩
  · exact ⟨_, _, rfl⟩
  · exact ⟨_, _, rfl⟩
theorem RIn.spot {w : World} {A : Option Addr} {n c : Nat} {l : List Run} (h : RIn w (.slice A n c) l) (i : Nat) (x : Run) (hi : l[i]? = some x) :
    ∃ b o, A = some ⟨b, o, none⟩ ∧ ∀ {X : World}, Below w.heap.size w X → X.cell? ⟨b, o + i * 2, none⟩ = some (.int .i64 x.1) ∧ X.cell? ⟨b, o + i * 2 + 1, none⟩ = some (.int .i64 x.2) ∧ has X b := by
  rcases h with ⟨rfl, _⟩ | ⟨b, off, c', hv, h1, h3⟩
  · simp at hi
  · obtain ⟨rfl, -, -⟩ := by simpa only [Value.slice.injEq] using hv
    obtain ⟨h4, h5⟩ := h3 i x hi
    exact ⟨b, off, rfl, fun {X} hX => ⟨(hX.cell (p := ⟨b, off + i * 2, none⟩) h1).trans h4, (hX.cell (p := ⟨b, off + i * 2 + 1, none⟩) h1).trans h5, by have := hX.size; unfold has; omega⟩⟩
theorem clos18 (x : Run) (W : World) : Calls Try.prog 18 #[.agg #[.int .i64 x.1, .int .i64 x.2]] W fun e w' => e = .returned (.int .i64 (max 0 x.2)) ∧ Below W.heap.size W w' := by
  obtain ⟨m, hm⟩ : ∃ m, max 0 x.2 = m := ⟨_, rfl⟩
  have hm2 : (if 0 < x.2 then x.2 else 0) = m := by rw [← hm]; split <;> omega
  rw [hm]
  go_enter Try.func18, Try.ntmps18
  go_wp2_with fail
  exact bodyPost_ret (v := .int .i64 m) (by simp [results, Try.results18, go_sem]) rfl ⟨rfl, (Below.refl _ _).alloc (Nat.le_refl _) _⟩
def countN (l : List Run) : Int := (l.map fun x => max 0 x.2).sum
theorem countN_snoc (l : List Run) (x : Run) : countN (l ++ [x]) = countN l + max 0 x.2 := by simp [countN]
theorem countN_bound (l : List Run) (hs : Small l) : 0 ≤ countN l ∧ countN l ≤ 1073741824 * l.length := by
  induction l with
  | nil => simp [countN]
  | cons x l ih =>
    have h1 := ih fun y hy => hs y (List.mem_cons_of_mem _ hy)
    have h2 := hs x (by simp)
    have e : countN (x :: l) = max 0 x.2 + countN l := by simp [countN]
    rw [e, List.length_cons]
    omega
set_option maxRecDepth 100000 in
theorem total_any (W : World) (v : Value) (l : List Run) (h : RIn W v l) (hl : l.length ≤ 100000) (hs : Small l) : Calls Try.prog 17 #[v, .func (.func 18) #[] #[]] W fun e w' => e = .returned (.int .i64 (countN l)) ∧ Below W.heap.size W w' := by
  obtain ⟨A, c, rfl⟩ := h.form
  have HI := Lib.hid h
  have HS := Lib.hid hs
  clear h hs
  go_enter Try.func17, Try.ntmps17
  go_wp2_with fail
  rename_i K hK
  have HKK := Lib.hid hK
  clear hK
  go_loopw [5, 10] (fun u z wr => ∃ k : Nat, k ≤ l.length ∧ z = .int .i64 k ∧ u = .int .i64 (countN (l.take k)) ∧ Hid (Below W.heap.size W wr)) (fun _ z _ => l.length - (intOf z).toNat)
  case atStart => exact ⟨0, by omega, rfl, rfl, Below.refl _ _⟩
  case round =>
    obtain ⟨k, hk, rfl, rfl, HB⟩ := hrel
    by_cases hlt : k < l.length
    · have hd : decide ((k : Int) < (l.length : Int)) = true := by simp; omega
      obtain ⟨x, hx⟩ : ∃ x, l[k]? = some x := ⟨_, List.getElem?_eq_getElem hlt⟩
      obtain ⟨b, o, rfl, hc⟩ := HI.out.spot k x hx
      obtain ⟨s1, s2, s3⟩ := hc HB.out
      have hcn : countN (l.take (k + 1)) = countN (l.take k) + max 0 x.2 := by
        rw [List.take_succ_eq_append_getElem hlt, countN_snoc, (List.getElem?_eq_some_iff.1 hx).2]
      have hb1 := countN_bound (l.take k) fun y hy => HS.out y (List.mem_of_mem_take hy)
      have hb2 := HS.out x (List.mem_of_getElem? hx)
      have hb3 : (l.take k).length ≤ 100000 := by simp; omega
      have hcl := clos18 x
      obtain ⟨m, hm⟩ : ∃ m, max 0 x.2 = m := ⟨_, rfl⟩
      obtain ⟨q, hq⟩ : ∃ q, countN (l.take k) = q := ⟨_, rfl⟩
      have hm2 : 0 ≤ m ∧ m ≤ 1073741824 := by omega
      have hq2 : 0 ≤ q ∧ q ≤ 1073741824 * 100000 := by omega
      rw [hm, hq] at hcn
      rw [hm] at hcl
      rw [hq]
      have HCN := Lib.hid hcn
      obtain ⟨x1, x2⟩ := x
      simp only at s1 s2 hcl
      clear hcn hm hq hb1 hb2 hb3 hx hc
      go_wp2_with fail
      refine (hcl _).mono ?_
      rintro _ V ⟨rfl, hb⟩
      have HB2 := Lib.hid (HB.out.trans ((((Below.refl _ wr).alloc (Nat.le_refl _) _).trans (hb.mono (by simp))).mono HB.out.size))
      clear hb s1 s2 s3 hcl
      go_wp2_with fail
      go_roundw
      case rel => exact ⟨k + 1, by omega, by go_num, by rw [HCN.out], HB2.out⟩
      case measure => simp [intOf]; omega
    · obtain rfl : k = l.length := by omega
      have hd : decide ((l.length : Int) < (l.length : Int)) = false := by simp
      rw [List.take_length]
      obtain ⟨q, hq⟩ : ∃ q, countN l = q := ⟨_, rfl⟩
      rw [hq]
      have HQ := Lib.hid hq
      clear hq
      go_wp2_with fail
      refine HKK.out _ _ ?_
      go_wp2_with fail
      exact bodyPost_ret (v := .int .i64 q) (by simp [results, Try.results17, go_sem]) rfl ⟨by rw [HQ.out], HB.out⟩
theorem count_any (W : World) (v : Value) (l : List Run) (h : RIn W v l) (hl : l.length ≤ 100000) (hs : Small l) : Calls Try.prog 10 #[v] W fun e w' => e = .returned (.int .i64 (countN l)) ∧ Below W.heap.size W w' := by
  have HT := Lib.hid (total_any W v l h hl hs)
  obtain ⟨A, c, rfl⟩ := h.form
  clear h hs
  obtain ⟨q, hq⟩ : ∃ q, countN l = q := ⟨_, rfl⟩
  rw [hq] at HT ⊢
  clear hq
  go_enter Try.func10, Try.ntmps10
  go_wp2_with fail
  refine HT.out.mono ?_
  rintro _ V ⟨rfl, hb⟩
  have HB := Lib.hid hb
  clear hb HT
  go_wp2_with fail
  exact bodyPost_ret (v := .int .i64 q) (by simp [results, Try.results10, go_sem]) rfl ⟨rfl, HB.out⟩
end Go.Proofs.Ytbdiombbknmlaaa

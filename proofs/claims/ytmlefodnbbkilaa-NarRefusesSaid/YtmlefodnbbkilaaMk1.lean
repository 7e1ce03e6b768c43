/- Walks: one of some texts. -/
import Derived.Lib.Hide
import Derived.WalkKit
import Derived.ProofKit
import Derived.IntWalk
import Derived.Test.YtmlefodnbbkilaaRowX
import Derived.Test.YtmlefodnbbkilaaStr1
import Derived.Test.YtmlefodnbbkilaaPlusIn
import Derived.Test.YtmlefodnbbkilaaPureMade
namespace Go.Proofs.Ytmlefodnbbkilaa
open Go.RowKit

def encS (x : Bs) : List Value := [strV x]
theorem encS_ok : Enc 1 encS := ⟨fun _ => rfl, fun x u hu => by simp [encS] at hu; subst hu; rfl, by omega⟩
def encB (x : UInt8) : List Value := [.int .u8 (x.toNat : Int)]
abbrev SIn (W : World) (v : Value) (l : List Bs) : Prop := XIn 1 encS W v l
abbrev BIn (W : World) (v : Value) (l : Bs) : Prop := XIn 1 encB W v l
theorem sin_at {W : World} {A : Option Addr} {n c : Nat} {l : List Bs} (h : SIn W (.slice A n c) l) (j : Nat) (hj : j < l.length) :
    ∃ b off, A = some ⟨b, off, none⟩ ∧ b < W.heap.size ∧ W.cell? ⟨b, off + j, none⟩ = some (strV (l.getD j [])) := by
  obtain ⟨b, off, rfl, h1, h2⟩ := h.at j l[j] (List.getElem?_eq_getElem hj)
  have := h2 0 (by omega)
  rw [Nat.mul_one, Nat.add_zero] at this
  refine ⟨b, off, rfl, h1, ?_⟩
  rw [this, List.getD_eq_getElem?_getD, List.getElem?_eq_getElem hj]
  rfl
theorem bin_at {W : World} {A : Option Addr} {n c : Nat} {l : Bs} (h : BIn W (.slice A n c) l) (j : Nat) (hj : j < l.length) :
    ∃ b off, A = some ⟨b, off, none⟩ ∧ b < W.heap.size ∧ W.cell? ⟨b, off + j, none⟩ = some (.int .u8 ((l.getD j 0).toNat : Int)) := by
  obtain ⟨b, off, rfl, h1, h2⟩ := h.at j l[j] (List.getElem?_eq_getElem hj)
  have := h2 0 (by omega)
  rw [Nat.mul_one, Nat.add_zero] at this
  refine ⟨b, off, rfl, h1, ?_⟩
  rw [this, List.getD_eq_getElem?_getD, List.getElem?_eq_getElem hj]
  rfl
/-- A part of what is read. -/
theorem XIn.sub1 {α : Type} {enc : α → List Value} {W : World} {b off n c : Nat} {l : List α} (h : XIn 1 enc W (.slice (some ⟨b, off, none⟩) n c) l) (i j : Nat) (hij : i ≤ j) (hj : j ≤ l.length) (c' : Nat) (hc' : j - i ≤ c') (off' : Nat) (ho : off' = off + i ∨ j = i) :
    XIn 1 enc W (.slice (some ⟨b, off', none⟩) (j - i) c') ((l.take j).drop i) := by
  have hlen : ((l.take j).drop i).length = j - i := by simp; omega
  rcases Nat.eq_or_lt_of_le hij with rfl | hlt
  · refine .inl ⟨List.length_eq_zero_iff.1 (by rw [hlen]; omega), .inr ⟨_, _, by rw [Nat.sub_self]⟩⟩
  · obtain rfl : off' = off + i := by omega
    rcases h with ⟨rfl, _⟩ | ⟨b', off', c1, hv, hlc, hb, hc⟩
    · simp at hj; omega
    · obtain ⟨h1, -, -⟩ := by simpa only [Value.slice.injEq] using hv
      obtain ⟨rfl, rfl⟩ : b = b' ∧ off = off' := by simpa using h1
      refine .inr ⟨b, off + i, c', by rw [hlen], by rw [hlen]; exact hc', hb, fun t x hx u hu => ?_⟩
      have hlt' := (List.getElem?_eq_some_iff.1 hx).1
      rw [hlen] at hlt'
      rw [List.getElem?_drop, List.getElem?_take] at hx
      rw [if_pos (by omega)] at hx
      have := hc (i + t) x hx u hu
      rw [Nat.mul_one] at this ⊢
      rw [← this, show off + i + t + u = off + (i + t) + u by omega]
def textN (l : List Bs) (i : Nat) : Bs := l.getD (i % l.length) []
theorem textN_len (l : List Bs) (i : Nat) (h : ∀ t ∈ l, t.length ≤ 300) : (textN l i).length ≤ 300 := by
  unfold textN
  rw [List.getD_eq_getElem?_getD]
  cases hx : l[i % l.length]? with
  | none => simp
  | some t =>
    obtain ⟨h1, rfl⟩ := List.getElem?_eq_some_iff.1 hx
    exact h _ (List.getElem_mem _)
set_option maxRecDepth 100000 in
theorem text_any {W : World} {v : Value} {l : List Bs} (i : Nat) (h : SIn W v l) (hl : l.length ≤ 1000) (hi : i ≤ 255) :
    Calls Try.prog 27 #[v, .int .i64 i] W fun e w' => e = .returned (strV (textN l i)) ∧ w' = W := by
  rcases l with _ | ⟨x, l⟩
  · obtain ⟨A, c, rfl⟩ := h.form
    clear h
    go_enter Try.func27, Try.ntmps27
    go_wp2_with fail
    exact bodyPost_ret (v := strV []) (by simp [results, Try.results27, go_sem]) rfl ⟨rfl, rfl⟩
  · obtain ⟨A, c, rfl⟩ := h.form
    have hlen : 0 < (x :: l).length := by simp
    obtain ⟨L, hL⟩ : ∃ L, x :: l = L := ⟨_, rfl⟩
    rw [hL] at h hl hlen ⊢
    obtain ⟨b, off, rfl, hb, hc⟩ := sin_at h (i % L.length) (Nat.mod_lt _ hlen)
    have hc' : W.cell? ⟨b, off + i % L.length, none⟩ = some (strV (textN L i)) := hc
    obtain ⟨n, hn⟩ : ∃ n, L.length = n := ⟨_, rfl⟩
    rw [hn] at hc' hlen hl ⊢
    have ht : ((i : Int)).tmod (n : Int) = ((i % n : Nat) : Int) := by
      rw [Int.tmod_eq_emod_of_nonneg (by omega)]
      rfl
    obtain ⟨j, hj⟩ : ∃ j, i % n = j := ⟨_, rfl⟩
    have hjn : j < n := by rw [← hj]; exact Nat.mod_lt _ hlen
    rw [hj] at ht hc'
    have h0 : (((n : Int)) == 0) = false := by simp; omega
    have h1 : ¬ ((n : Int) = 0) := by omega
    clear h hc hL hj hn
    go_enter Try.func27, Try.ntmps27
    go_wp2_with fail
    exact bodyPost_ret (v := strV (textN L i)) (by simp [results, Try.results27, go_sem]) rfl ⟨rfl, rfl⟩
end Go.Proofs.Ytmlefodnbbkilaa

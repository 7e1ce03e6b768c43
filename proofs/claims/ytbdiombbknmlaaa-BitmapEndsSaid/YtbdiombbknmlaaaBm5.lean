/- Walks: what is free of runs. -/
import Derived.Test.YtbdiombbknmlaaaBm4
namespace Go.Proofs.Ytbdiombbknmlaaa
open Go.RowKit

section
variable {w W w1 : World} {u u' v : Value} {l m : List Run} {o : Obj}
/-- A row grows. -/
theorem RR.app (h : RR w W u l) (x : List Run) (hg : (W.alloc o).grownBy w1 u.ownBlock) (hrow : w1.ownsRow 0 28 2 u' (l.length + x.length) (flatR l ++ flatR x)) (hown : ∀ k, u'.ownBlock = some k → u.ownBlock = some k ∨ (W.alloc o).heap.size ≤ k) : RR w w1 u' (l ++ x) := by
  refine ⟨by rw [List.length_append, flatR_append]; exact hrow, h.below.trans ⟨hg.os, hg.tape, hg.output, by have := hg.size; simp at this; omega, fun k hk => ?_⟩, fun k hk => ?_⟩
  · have := h.below.size
    exact (hg.block k (by simp; omega) (fun e => by have := h.own k e.symm; omega)).trans (Below.heap_alloc _ _ _ (by omega))
  · rcases hown k hk with h1 | h1
    · exact h.own k h1
    · have := h.below.size
      simp at h1
      omega
/-- Another row grows. -/
theorem RR.other (h : RR w W v m) (hu : RR w W u l) (hne : ∀ k, v.ownBlock = some k → u.ownBlock ≠ some k) (hg : (W.alloc o).grownBy w1 u.ownBlock) : RR w w1 v m := by
  refine ⟨ownsRow_same h.row fun k hk => (hg.block k (by have := h.lt k hk; simp; omega) (fun e => hne k hk e.symm)).trans (Below.heap_alloc _ _ _ (h.lt k hk)), h.below.trans ⟨hg.os, hg.tape, hg.output, by have := hg.size; simp at this; omega, fun k hk => ?_⟩, h.own⟩
  have := h.below.size
  exact (hg.block k (by simp; omega) (fun e => by have := hu.own k e.symm; omega)).trans (Below.heap_alloc _ _ _ (by omega))
theorem apart_app (hne : ∀ k, v.ownBlock = some k → u.ownBlock ≠ some k) (h : RR w W v m) (hown : ∀ k, u'.ownBlock = some k → u.ownBlock = some k ∨ (W.alloc o).heap.size ≤ k) : ∀ k, v.ownBlock = some k → u'.ownBlock ≠ some k := fun k hk e => by
  rcases hown k e with h1 | h1
  · exact hne k hk h1
  · have := h.lt k hk
    simp at h1
    omega
end
/-- How a row is sorted by its places. -/
def Sorts : Prop := ∀ (w W : World) (v : Value) (l : List Run), RR w W v l → l.length ≤ 1000000 → Calls Try.prog 14 #[v, .func (.func 15) #[] #[]] W fun e w' => e = .returned (.tuple #[]) ∧ ∃ l', l'.Perm l ∧ l'.Pairwise (fun x y => x.1 ≤ y.1) ∧ RR w w' v l'
def stepF (t : Int) (s : List Run × Int) (x : Run) : List Run × Int := (if 0 < min x.1 t - s.2 then s.1 ++ [(s.2, min x.1 t - s.2)] else s.1, max s.2 (x.1 + x.2))
def freeS (l : List Run) (f t : Int) : List Run × Int := l.foldl (stepF t) ([], f)
theorem freeS_snoc (l : List Run) (x : Run) (f t : Int) : freeS (l ++ [x]) f t = stepF t (freeS l f t) x := by simp [freeS]
theorem fold_len (t : Int) : ∀ (l : List Run) (s : List Run × Int), (l.foldl (stepF t) s).1.length ≤ s.1.length + l.length
  | [], s => by simp
  | x :: l, s => by
    have ih := fold_len t l (stepF t s x)
    have h1 : (stepF t s x).1.length ≤ s.1.length + 1 := by unfold stepF; split <;> simp
    simp only [List.foldl_cons, List.length_cons]
    omega
theorem freeS_len (l : List Run) (f t : Int) : (freeS l f t).1.length ≤ l.length := by
  have := fold_len t l ([], f)
  simpa [freeS] using this
/-- Numbers that are not too great. -/
def Small (l : List Run) : Prop := ∀ x ∈ l, -1073741824 ≤ x.1 ∧ x.1 ≤ 1073741824 ∧ -1073741824 ≤ x.2 ∧ x.2 ≤ 1073741824
theorem fold_at (t : Int) : ∀ (l : List Run) (s : List Run × Int), Small l → -1073741824 ≤ s.2 ∧ s.2 ≤ 2147483648 → -1073741824 ≤ (l.foldl (stepF t) s).2 ∧ (l.foldl (stepF t) s).2 ≤ 2147483648
  | [], s, _, h => by simpa using h
  | x :: l, s, hs, h => by
    have h2 := hs x (by simp)
    refine fold_at t l (stepF t s x) (fun y hy => hs y (List.mem_cons_of_mem _ hy)) ?_
    simp only [stepF]
    omega
theorem freeS_at (l : List Run) (f t : Int) (hs : Small l) (hf : -1073741824 ≤ f ∧ f ≤ 1073741824) : -1073741824 ≤ (freeS l f t).2 ∧ (freeS l f t).2 ≤ 2147483648 := fold_at t l ([], f) hs (by simp only; omega)
set_option maxRecDepth 100000 in
set_option maxHeartbeats 1000000 in
theorem free_any (hS : Sorts) (W : World) (v : Value) (l : List Run) (f t : Int) (h : RIn W v l) (hl : l.length ≤ 10000) (hs : Small l) (hf : -1073741824 ≤ f ∧ f ≤ 1073741824) (ht : -1073741824 ≤ t ∧ t ≤ 1073741824) :
    Calls Try.prog 7 #[v, .int .i64 f, .int .i64 t] W fun e w' => ∃ v' l', e = .returned v' ∧ l'.Perm (realN l) ∧ l'.Pairwise (fun x y => x.1 ≤ y.1) ∧ RR W w' v' (freeS (l' ++ [(max f t, 0)]) f t).1 := by
  have HC := Lib.hid (real_any W v l h (by omega))
  have HS := Lib.hid hs
  clear h hs
  go_enter Try.func7, Try.ntmps7
  go_wp2_with fail
  refine HC.out.mono ?_
  rintro _ V ⟨v1, rfl, hR⟩
  have hrl : (realN l).length ≤ l.length := List.length_filter_le _ _
  have HD := Lib.hid (hS W V v1 (realN l) hR (by omega))
  clear hR HC
  go_wp2_with fail
  refine HD.out.mono ?_
  rintro _ V2 ⟨rfl, l', hp, hsort, hR⟩
  have hlen : l'.length ≤ 10000 := by rw [hp.length_eq]; omega
  have hs' : Small (l' ++ [(max f t, 0)]) := by
    intro x hx
    rcases List.mem_append.1 hx with h1 | h1
    · exact HS.out x (List.mem_filter.1 (hp.mem_iff.1 h1)).1
    · simp only [List.mem_singleton] at h1
      subst h1
      simp only
      omega
  have HP := Lib.hid (And.intro hp hsort)
  have HSS := Lib.hid hs'
  clear hp hsort HD HS hs' hrl
  obtain ⟨mx, hmx⟩ : ∃ mx, (if f < t then t else f) = mx := ⟨_, rfl⟩
  have hmax : max f t = mx := by rw [← hmx]; split <;> omega
  simp only [hmax] at HSS
  have HMX := Lib.hid hmax
  clear hmax
  have hone := flatR_one [(mx, 0)]
  have HONE := Lib.hid hone
  have hne0 : ∀ k, (Value.slice none 0 0).ownBlock = some k → v1.ownBlock ≠ some k := fun k hk => by cases hk
  clear hone
  go_wp2_with (at_builtin; refine wpList_appendAt rfl _ _ 23 28 rfl Try.underlying23 _ 2 16 info28 rfl v1 l'.length (flatR l') (flatR [(mx, 0)]) 1 rfl (World.ownsRow.alloc hR.row _) ⟨V2.heap.size, 0, none⟩ _ rfl (news_new V2 28 _) rfl HONE.out (by omega) (.inl (by omega)) (by omega) (by omega) ?_; intro v2 w1 hrow1 hg1 hown1 hnl1; clear hnl1; have HA := Lib.hid (hR.app [(mx, 0)] hg1 hrow1 hown1); clear hrow1 hg1 hown1 hR; obtain ⟨A2, c2, rfl⟩ := HA.out.form)
  have hA := HA.out
  clear HA
  obtain ⟨L, hL⟩ : ∃ L, l' ++ [(mx, 0)] = L := ⟨_, rfl⟩
  have hLl : L.length = l'.length + 1 := by rw [← hL]; simp
  rw [hL] at hA HSS
  have HLE := Lib.hid hL
  clear hL
  rw [show ((l'.length : Int) + 1) = (L.length : Int) by rw [hLl]; simp]
  rw [← hLl]
  have hL1 : L.length ≤ 10001 := by omega
  have HLL := Lib.hid hLl
  clear hLl hlen hne0
  go_wp2_with fail
  rename_i K hK
  have HKK := Lib.hid hK
  clear hK
  go_loopw [8, 9, 26] (fun u y z wr => ∃ k : Nat, k ≤ L.length ∧ z = .int .i64 k ∧ y = .int .i64 (freeS (L.take k) f t).2 ∧ Hid (RR W wr u (freeS (L.take k) f t).1) ∧ Hid (RR W wr (.slice A2 L.length c2) L) ∧ Hid (∀ j, (Value.slice A2 L.length c2).ownBlock = some j → u.ownBlock ≠ some j)) (fun _ _ z _ => L.length - (intOf z).toNat)
  case atStart => exact ⟨0, by omega, rfl, rfl, ⟨World.ownsRow_nil _ 0 28 2, hA.below, fun k hk => by cases hk⟩, hA, fun j _ e => by cases e⟩
  case round =>
    clear hA
    obtain ⟨k, hk, rfl, rfl, HU, HA, HN⟩ := hrel
    by_cases hlt : k < L.length
    · have hd : decide ((k : Int) < (L.length : Int)) = true := by simp; omega
      have hA := HA.out
      obtain ⟨x, hx⟩ : ∃ x, L[k]? = some x := ⟨_, List.getElem?_eq_getElem hlt⟩
      have hsm := HSS.out x (List.mem_of_getElem? hx)
      have hat := freeS_at (L.take k) f t (fun y hy => HSS.out y (List.mem_of_mem_take hy)) hf
      have hln := freeS_len (L.take k) f t
      have hstep : freeS (L.take (k + 1)) f t = stepF t (freeS (L.take k) f t) x := by
        rw [List.take_succ_eq_append_getElem hlt, freeS_snoc]
        rw [(List.getElem?_eq_some_iff.1 hx).2]
      obtain ⟨g, rfl, -, g1, g2, g3, -⟩ := hA.at k x hx
      obtain ⟨⟨out, at_⟩, hs⟩ : ∃ s, freeS (L.take k) f t = s := ⟨_, rfl⟩
      rw [hs] at hstep hat hln HU ⊢
      simp only at hat hln HU ⊢
      have hln2 : out.length ≤ 10001 := by simp at hln; omega
      clear hs hx hln
      obtain ⟨mn, hmn⟩ : ∃ mn, (if t < x.1 then t else x.1) = mn := ⟨_, rfl⟩
      obtain ⟨a2, ha2⟩ : ∃ a2, (if at_ < x.1 + x.2 then x.1 + x.2 else at_) = a2 := ⟨_, rfl⟩
      have hmn2 : min x.1 t = mn := by rw [← hmn]; split <;> omega
      have ha3 : max at_ (x.1 + x.2) = a2 := by rw [← ha2]; split <;> omega
      have hmnb : -1073741824 ≤ mn ∧ mn ≤ 1073741824 := by omega
      simp only [stepF, hmn2, ha3] at hstep
      have HST := Lib.hid hstep
      obtain ⟨x1, x2⟩ := x
      simp only at hsm g2 g3 hmn ha2
      clear hmn2 ha3 hstep hA
      obtain ⟨uA, uc, rfl⟩ := HU.out.form
      have hbox := new_at wr (.cells #[.int .i64 x1, .int .i64 x2] 28)
      have hUB := HU.out.on ((Below.refl _ wr).alloc (Nat.le_refl _) (.cells #[.int .i64 x1, .int .i64 x2] 28))
      have hAB := HA.out.on ((Below.refl _ wr).alloc (Nat.le_refl _) (.cells #[.int .i64 x1, .int .i64 x2] 28))
      by_cases hp : 0 < mn - at_
      · have dp : decide (0 < mn - at_) = true := by simpa using hp
        rw [if_pos hp] at HST
        have hone := flatR_one [(at_, mn - at_)]
        have HONE := Lib.hid hone
        have HU2 := Lib.hid hUB
        have HA2 := Lib.hid hAB
        have HBX := Lib.hid hbox
        have HBL : Hid (wr.heap.size < (wr.alloc (.cells #[.int .i64 x1, .int .i64 x2] 28)).heap.size) := Lib.hid (by simp)
        have HUN : Hid ((Value.slice uA out.length uc).ownBlock ≠ some wr.heap.size) := Lib.hid (fun e => by have := HU.out.lt _ e; omega)
        have HNEW := Lib.hid (news_new (wr.alloc (.cells #[.int .i64 x1, .int .i64 x2] 28)) 28 (flatR [(at_, mn - at_)]))
        rw [World.size_alloc] at HNEW
        clear hbox hUB hAB hone
        go_wp2_with (at_builtin; go_loud (refine wpList_appendAt rfl _ _ 23 28 rfl Try.underlying23 _ 2 16 info28 rfl (.slice uA out.length uc) out.length (flatR out) (flatR [(at_, mn - at_)]) 1 rfl (World.ownsRow.alloc HU2.out.row _) ⟨wr.heap.size + 1, 0, none⟩ _ rfl HNEW.out rfl HONE.out (by omega) (.inl (by omega)) (by omega) (by omega) ?_); intro v2 w1 hrow1 hg1 hown1 hnl1; clear hnl1; have HU3 := Lib.hid (HU2.out.app [(at_, mn - at_)] hg1 hrow1 hown1); have HA3 := Lib.hid (HA2.out.other HU2.out HN.out hg1); have HN3 := Lib.hid (apart_app HN.out HA2.out hown1); have hbx : w1.heap[wr.heap.size]? = _ := (hg1.block wr.heap.size (by simp; omega) (fun e => HUN.out e.symm)).trans ((Below.heap_alloc _ _ _ HBL.out).trans HBX.out); obtain ⟨b1, b2⟩ := cells2 hbx; clear hrow1 hg1 hown1 hbx; obtain ⟨uA2, uc2, rfl⟩ := HU3.out.form)
        rw [show (out ++ [(at_, mn - at_)]).length = out.length + 1 by simp] at HU3 HN3
        go_roundw
        case rel => exact ⟨k + 1, by omega, by go_num, by rw [HST.out], by rw [HST.out]; exact HU3.out, HA3.out, HN3.out⟩
        case measure => simp [intOf]; omega
      · have dp : decide (0 < mn - at_) = false := by simpa using hp
        have HU2 := Lib.hid hUB
        have HA2 := Lib.hid hAB
        rw [if_neg hp] at HST
        clear hbox hUB hAB
        go_wp2_with fail
        go_roundw
        case rel => exact ⟨k + 1, by omega, by go_num, by rw [HST.out], by rw [HST.out]; exact HU2.out, HA2.out, HN.out⟩
        case measure => simp [intOf]; omega
    · obtain rfl : k = L.length := by omega
      have hd : decide ((L.length : Int) < (L.length : Int)) = false := by simp
      rw [List.take_length] at HU
      go_wp2_with fail
      refine HKK.out _ _ ?_
      clear HKK
      have HP2 := HP.out
      clear HP
      obtain ⟨uA, uc, rfl⟩ := HU.out.form
      go_wp2_with fail
      exact bodyPost_ret (v := .slice uA (freeS L f t).1.length uc) (by simp [results, Try.results7, go_sem]) rfl ⟨_, l', rfl, HP2.1, HP2.2, by rw [HMX.out, HLE.out]; exact HU.out⟩
end Go.Proofs.Ytbdiombbknmlaaa

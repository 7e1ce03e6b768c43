/- Walks: where a path stands among directories. -/
import Derived.Test.YtmlefodnbbkilaaNa4
import Derived.Test.YtmlefodnbbkilaaRowX
import Derived.Deep.RegionHeld3
namespace Go.Proofs.Ytmlefodnbbkilaa
open Go.RowKit

def encL (x : Lv) : List Value := [strV x.1, strV x.2]
theorem encL_ok : Enc 2 encL := ⟨fun _ => rfl, fun x u hu => by simp [encL] at hu; rcases hu with rfl | rfl <;> rfl, by omega⟩
abbrev LR (w W : World) (v : Value) (l : List Lv) : Prop := XR 67 2 encL w W v l
theorem lr_at {w W : World} {A : Option Addr} {n c : Nat} {l : List Lv} (h : LR w W (.slice A n c) l) (j : Nat) (x : Lv) (hj : l[j]? = some x) :
    ∃ g, A = some ⟨g, 0, none⟩ ∧ w.heap.size ≤ g ∧ has W g ∧ W.cell? ⟨g, j * 2, none⟩ = some (strV x.1) ∧ W.cell? ⟨g, j * 2 + 1, none⟩ = some (strV x.2) ∧ ∀ i, W.frozen? ⟨g, i, none⟩ = false := by
  obtain ⟨g, h1, h2, h3, h4, h5⟩ := h.at encL_ok j x hj
  exact ⟨g, h1, h2, h3, h4 0 (by omega), h4 1 (by omega), h5⟩
theorem has_box {W : World} {b : Nat} {o : Obj} (h : W.heap[b]? = some o) : has W b := (Array.getElem?_eq_some_iff.1 h).1
theorem closL_any (x : Lv) (pa : Bs) (W : World) (bx : Nat) (hb : W.heap[bx]? = some (.cells #[strV pa] 9)) :
    Calls Try.prog 54 #[.agg #[strV x.1, strV x.2], .pointer (some ⟨bx, 0, none⟩)] W fun e w' => e = .returned (.bool (x.1 == pa)) ∧ Below W.heap.size W w' := by
  have hlt := has_box hb
  have hc : W.cell? ⟨bx, 0, none⟩ = some (strV pa) := by simp [World.cell?, hb]
  obtain ⟨a, b⟩ := x
  dsimp only
  go_enter Try.func54, Try.ntmps54
  go_wp2_with fail
  refine bodyPost_ret (v := .bool (a == pa)) (by simp [results, Try.results54, go_sem]) rfl ⟨rfl, (Below.refl _ _).alloc (Nat.le_refl _) _⟩
/-- Where the first one stands, or -1. -/
def findL (l : List Lv) (pa : Bs) : Int := if l.findIdx (fun y => y.1 == pa) < l.length then (l.findIdx (fun y => y.1 == pa) : Int) else -1
theorem findL_some {l : List Lv} {pa : Bs} {k : Nat} {x : Lv} (hx : l[k]? = some x) (h : (x.1 == pa) = true) (hn : ∀ j, j < k → ∀ y, l[j]? = some y → (y.1 == pa) = false) : findL l pa = k := by
  have hk := (List.getElem?_eq_some_iff.1 hx).1
  have e : l.findIdx (fun y => y.1 == pa) = k := by
    have h1 : l = l.take k ++ x :: l.drop (k + 1) := by
      rw [← (List.getElem?_eq_some_iff.1 hx).2, ← List.drop_eq_getElem_cons hk, List.take_append_drop]
    conv => lhs; rw [h1]
    rw [findIdx_at (h := ?_) (hx := h)]
    · simp; omega
    · intro y hy
      obtain ⟨j, hj⟩ := List.getElem?_of_mem hy
      have hj2 := (List.getElem?_eq_some_iff.1 hj).1
      have hjk : j < k := by simp at hj2; omega
      rw [List.getElem?_take, if_pos hjk] at hj
      exact hn j hjk y hj
  unfold findL
  rw [e, if_pos hk]
theorem findL_none {l : List Lv} {pa : Bs} (hn : ∀ j, j < l.length → ∀ y, l[j]? = some y → (y.1 == pa) = false) : findL l pa = -1 := by
  unfold findL
  rw [if_neg]
  intro h
  have h1 := List.findIdx_getElem (xs := l) (p := fun y => y.1 == pa) (w := h)
  have h2 := hn _ h _ (List.getElem?_eq_getElem h)
  rw [h2] at h1
  cases h1
set_option maxRecDepth 100000 in
theorem indexL_any {w W : World} {v : Value} {l : List Lv} {pa : Bs} {bx : Nat} (h : LR w W v l) (hb : W.heap[bx]? = some (.cells #[strV pa] 9)) (hl : l.length ≤ 1000000) :
    Calls Try.prog 53 #[v, .func (.func 54) #[] #[.pointer (some ⟨bx, 0, none⟩)]] W fun e w' => e = .returned (.int .i64 (findL l pa)) ∧ Below W.heap.size W w' := by
  obtain ⟨A, c, rfl⟩ := h.form
  have HX := Lib.hid hb
  clear hb
  go_enter Try.func53, Try.ntmps53
  go_wp2_with fail
  rename_i K hK
  have HKK := Lib.hid hK
  clear hK
  go_loopw [8] (fun v wr => ∃ k : Nat, k ≤ l.length ∧ v = .int .i64 k ∧ Hid (Below W.heap.size W wr) ∧ Hid (∀ j, j < k → ∀ x, l[j]? = some x → (x.1 == pa) = false)) (fun v _ => l.length - (intOf v).toNat)
  case atStart => exact ⟨0, by omega, rfl, Below.refl _ _, fun j hj => by omega⟩
  case round =>
    obtain ⟨k, hk, rfl, HB, HN⟩ := hrel
    by_cases hlt : k < l.length
    · have hd : decide ((k : Int) < (l.length : Int)) = true := by simp; omega
      obtain ⟨x, hx⟩ : ∃ x, l[k]? = some x := ⟨_, List.getElem?_eq_getElem hlt⟩
      obtain ⟨g, rfl, -, g1, g2, g3, -⟩ := lr_at (h.on HB.out) k x hx
      have HC := Lib.hid (closL_any x pa wr bx (keeps_below HX.out HB.out))
      go_wp2_with fail
      refine HC.out.mono ?_
      rintro _ V ⟨rfl, hb⟩
      have HB2 := Lib.hid (HB.out.trans (hb.mono HB.out.size))
      clear hb g1 g2 g3 HC
      obtain ⟨t, ht⟩ : ∃ t, (x.1 == pa) = t := ⟨_, rfl⟩
      rw [ht]
      cases t with
      | true =>
        have HF := Lib.hid (findL_some hx ht HN.out)
        clear hx ht
        go_wp2_with fail
        exact bodyPost_ret (v := .int .i64 (k : Int)) (by simp [results, Try.results53, go_sem]) rfl ⟨by rw [HF.out], HB2.out⟩
      | false =>
        have HN2 : Hid (∀ j, j < k + 1 → ∀ y, l[j]? = some y → (y.1 == pa) = false) := Lib.hid (by
          intro j hj y hy
          rcases Nat.lt_or_ge j k with h2 | h2
          · exact HN.out j h2 y hy
          · obtain rfl : j = k := by omega
            rw [hx] at hy
            obtain rfl := Option.some.inj hy
            exact ht)
        clear hx ht
        go_wp2_with fail
        go_roundw
        case rel => exact ⟨k + 1, by omega, by go_num, HB2.out, HN2.out⟩
        case measure => simp [intOf]; omega
    · obtain rfl : k = l.length := by omega
      have hd : decide ((l.length : Int) < (l.length : Int)) = false := by simp
      go_wp2_with fail
      refine HKK.out _ _ ?_
      go_wp2_with fail
      exact bodyPost_ret (v := .int .i64 (-1)) (by simp [results, Try.results53, go_sem]) rfl ⟨by rw [findL_none HN.out], HB.out⟩
/-! A path at its last name, by the library. -/
theorem toN47 (b : UInt8) : ((b.toNat : Int) = 47) ↔ b = 47 := by
  constructor
  · intro h
    apply UInt8.toNat_inj.1
    have : (47 : UInt8).toNat = 47 := rfl
    omega
  · rintro rfl
    rfl
theorem arr_at (p : Bs) (j : Nat) (h : j < p.length) : (p.toArray)[j]! = p[j] := by simp [h]
theorem last_cut (p : Bs) : Lib.lastIndexByte ⟨p.toArray⟩ 47 = match cutN p with | none => -1 | some (a, _) => (a.length : Int) := by
  have hsz : (⟨p.toArray⟩ : ByteArray).size = p.length := rfl
  rcases Lib.lastIndexByte_spec ⟨p.toArray⟩ 47 with ⟨h1, h2⟩ | ⟨i, hi, h1, h2, h3⟩
  · have : (47 : UInt8) ∉ p := by
      intro hm
      obtain ⟨j, hj, e⟩ := List.getElem_of_mem hm
      have := h2 j hj
      rw [show (⟨p.toArray⟩ : ByteArray).data = p.toArray from rfl, arr_at p j hj, e] at this
      exact this rfl
    rw [h1, (cutN_none p).2 this]
  · rw [hsz] at hi
    rw [show (⟨p.toArray⟩ : ByteArray).data = p.toArray from rfl, arr_at p i hi, toN47] at h2
    have hc : cutN p = some (p.take i, p.drop (i + 1)) := by
      refine (cutN_some _ _ _).2 ⟨?_, ?_⟩
      · rw [← h2, ← List.drop_eq_getElem_cons hi, List.take_append_drop]
      · intro hm
        obtain ⟨j, hj, e⟩ := List.getElem_of_mem hm
        simp only [List.length_drop] at hj
        rw [List.getElem_drop] at e
        have := h3 (i + 1 + j) (by omega) (by rw [hsz]; omega)
        rw [show (⟨p.toArray⟩ : ByteArray).data = p.toArray from rfl, arr_at p (i + 1 + j) (by omega), e] at this
        exact this rfl
    rw [h1, hc]
    simp
    omega
/-- A path's place among directories, and its last name. -/
def withinN (op : List Lv) (p : Bs) : Int × Bs × Bool := match parentN p with
  | none => (0, [], false)
  | some (pa, nm) => (findL op pa, nm, decide (0 ≤ findL op pa))
set_option maxRecDepth 100000 in
theorem within_any {w W : World} {v : Value} {l : List Lv} (p : Bs) (h : LR w W v l) (hl : l.length ≤ 1000000) (hp : p.length ≤ 1000000) :
    Calls Try.prog 35 #[v, strV p] W fun e w' => e = .returned (.tuple #[.int .i64 (withinN l p).1, strV (withinN l p).2.1, .bool (withinN l p).2.2]) ∧ Below W.heap.size W w' := by
  have hsz : (⟨p.toArray⟩ : ByteArray).size = p.length := rfl
  have HL := Lib.hid fun W => Try.strings_LastIndexByte ⟨p.toArray⟩ 47 (by rw [hsz]; omega) W
  rw [last_cut p] at HL
  have H := Lib.hid h
  clear h
  cases hc : cutN p with
  | none =>
    have hw : withinN l p = (findL l [], p, decide (0 ≤ findL l [])) := by simp only [withinN, parentN, hc]
    rw [hw]
    rw [hc] at HL
    simp only at HL
    have hb : Below W.heap.size W (W.alloc (.cells #[strV []] 9)) := (Below.refl _ _).alloc (Nat.le_refl _) _
    have HI := Lib.hid (indexL_any (pa := []) (H.out.on hb) (new_at W _) hl)
    have HB := Lib.hid hb
    clear hw hc hb
    obtain ⟨i, hi⟩ : ∃ i, findL l [] = i := ⟨_, rfl⟩
    rw [hi] at HI ⊢
    clear hi
    go_enter Try.func35, Try.ntmps35
    go_wp2_with fail
    refine (HL.out _).mono ?_
    rintro _ V ⟨rfl, hV⟩
    rw [hV]
    clear hV
    go_wp2_with fail
    refine HI.out.mono ?_
    rintro _ V2 ⟨rfl, hb⟩
    have HB2 := Lib.hid (HB.out.trans (hb.mono HB.out.size))
    clear hb
    go_wp2_with fail
    exact bodyPost_ret (v := .tuple #[.int .i64 i, strV p, .bool (decide (0 ≤ i))]) (by simp [results, Try.results35, go_sem]) rfl ⟨rfl, HB2.out⟩
  | some q =>
    obtain ⟨a, b⟩ := q
    rw [hc] at HL
    simp only at HL
    have hpe := ((cutN_some p a b).1 hc).1
    have hl1 : p.length = a.length + 1 + b.length := by rw [hpe]; simp; omega
    have hb1 : Below W.heap.size W (W.alloc (.cells #[strV []] 9)) := (Below.refl _ _).alloc (Nat.le_refl _) _
    have HB0 := Lib.hid hb1
    have e1 : (⟨p.toArray⟩ : ByteArray).extract 0 a.length = ⟨a.toArray⟩ := by
      apply ByteArray.ext
      rw [hpe]
      simp
    have e2 : (⟨p.toArray⟩ : ByteArray).extract (a.length + 1) p.length = ⟨b.toArray⟩ := by
      apply ByteArray.ext
      rw [hpe]
      simp
      exact List.take_of_length_le (by omega)
    have q1 : (0 : Int) ≤ (a.length : Int) := by omega
    have q2 : (a.length : Int) ≤ (p.length : Int) := by omega
    have q3 : (a.length : Int) + 1 ≤ (p.length : Int) := by omega
    have q4 : (0 : Int) ≤ (a.length : Int) + 1 := by omega
    have q6 : IntKind.i64.wrap ((a.length : Int) + 1) = (a.length : Int) + 1 := IntWalk.i64_in _ (by omega)
    have q7 : ((a.length : Int) + 1).toNat = a.length + 1 := by omega
    clear hpe hb1 hl1
    by_cases ha : a = []
    · subst ha
      have hw : withinN l p = (0, [], false) := by simp [withinN, parentN, hc]
      rw [hw]
      have q5 : (1 : Int) ≤ (p.length : Int) := by simpa using q3
      have q8 : IntKind.i64.wrap 1 = 1 := by decide
      clear hw hc q1 q2 q3 q4 q6 q7
      go_enter Try.func35, Try.ntmps35
      go_wp2_with fail
      refine (HL.out _).mono ?_
      rintro _ V ⟨rfl, hV⟩
      rw [hV]
      clear hV
      go_wp2_with fail
      go_region_held3 (fun w' => True) (first | exact trivial) (first | exact trivial)
      go_wp2_with fail
      exact bodyPost_ret (v := .tuple #[.int .i64 0, strV [], .bool false]) (by simp [results, Try.results35, go_sem]) rfl ⟨rfl, ((Below.refl _ W).alloc (Nat.le_refl _) _).drew⟩
    · have hw : withinN l p = (findL l a, b, decide (0 ≤ findL l a)) := by simp [withinN, parentN, hc, ha]
      rw [hw]
      clear hw hc
      have hb : Below W.heap.size W (W.alloc (.cells #[strV a] 9)).drew := ((Below.refl _ W).alloc (Nat.le_refl _) _).drew
      have HI := Lib.hid (indexL_any (pa := a) (H.out.on hb) ((show (W.alloc (.cells #[strV a] 9)).drew.heap[W.heap.size]? = _ from new_at W _)) hl)
      have HB := Lib.hid hb
      clear hb
      obtain ⟨i, hi⟩ : ∃ i, findL l a = i := ⟨_, rfl⟩
      rw [hi] at HI ⊢
      clear hi
      have HN : Hid (a ≠ []) := Lib.hid ha
      go_enter Try.func35, Try.ntmps35
      go_wp2_with fail
      refine (HL.out _).mono ?_
      rintro _ V ⟨rfl, hV⟩
      rw [hV]
      clear hV
      go_wp2_with fail
      go_region_held3 (fun w' => True) (first | exact trivial) (first | exact trivial)
      clear q1 q2 q3 q4 q6 q7 e1 e2 ha
      go_wp2_with fail
      · rename_i h0
        exact absurd (by simpa using h0) HN.out
      refine HI.out.mono ?_
      rintro _ V2 ⟨rfl, hb⟩
      have HB2 := Lib.hid (HB.out.trans (hb.mono HB.out.size))
      clear hb
      go_wp2_with fail
      exact bodyPost_ret (v := .tuple #[.int .i64 i, strV b, .bool (decide (0 ≤ i))]) (by simp [results, Try.results35, go_sem]) rfl ⟨rfl, HB2.out⟩
end Go.Proofs.Ytmlefodnbbkilaa

/- Walks: the nodes in a directory, one by one. -/
import Derived.Test.YtmlefodnbbkilaaPk2
import Derived.RangeFuncNested
import Derived.RangeFuncBound
import Derived.RangeFuncCalls
import Derived.RangeFuncLeaves
import Derived.RangeFuncFrom
import Derived.Shelf.Abstract
import Derived.Shelf.RegionOpen
import Derived.OwnWalkIn
import Derived.TacticsInMore
import Derived.LoopNIn
import Derived.LoopIn
namespace Go.Proofs.Ytmlefodnbbkilaa
open Go.RowKit Go.Shelf

attribute [local go_sem] Oper.semAt_some

/-- What a body must keep: what lies below, small boxes, which nodes a packer has. -/
structure KpP (B P : Nat) (W W' : World) : Prop where
  low : ∀ k, k < B → W'.heap[k]? = W.heap[k]?
  boxes : ∀ (k : Nat) (cur : Array Value) (e : TypeId) (m : Nat × Nat), e = 54 ∨ e = 3 ∨ e = 9 → W.heap[k]? = some (.cells cur e m) → W'.heap[k]? = some (.cells cur e m)
  pack : ∀ p v lv, W.heap[P]? = some (.cells #[p, v, lv] 59 (0, 0)) → ∃ p' v', W'.heap[P]? = some (.cells #[p', v', lv] 59 (0, 0))
theorem KpP.refl (B P : Nat) (W : World) : KpP B P W W := ⟨fun _ _ => rfl, fun _ _ _ _ _ h => h, fun p v _ h => ⟨p, v, h⟩⟩
theorem kpP_t {B P : Nat} {A C D : World} (h : KpP B P A C) (k : KpP B P C D) : KpP B P A D :=
  ⟨fun j hj => (k.low j hj).trans (h.low j hj), fun j cur e m he hj => k.boxes j cur e m he (h.boxes j cur e m he hj), fun p v lv hp => by
    obtain ⟨p1, v1, h1⟩ := h.pack p v lv hp
    exact k.pack p1 v1 lv h1⟩
theorem kpP_b {B P : Nat} (W : World) (l : Nat) (o o' : Obj) (hl : B ≤ l) (ho : W.heap[l]? = some o) (hc : o.isCells = false) : KpP B P W (W.putObj l o') := by
  have key : ∀ (k : Nat) (cur : Array Value) (e : TypeId) (m : Nat × Nat), W.heap[k]? = some (.cells cur e m) → (W.putObj l o').heap[k]? = some (.cells cur e m) := fun k cur e m hk =>
    (World.putObj_heap_other (by intro he; subst he; rw [hk] at ho; cases ho; simp [Obj.isCells] at hc)).trans hk
  exact ⟨fun k hk => World.putObj_heap_other (by omega), fun k cur e m _ hk => key k cur e m hk, fun p v lv hp => ⟨p, v, key P _ _ _ hp⟩⟩
theorem kpP_below {B P : Nat} {W W' : World} (hB : B ≤ W.heap.size) (h : Below W.heap.size W W') : KpP B P W W' :=
  ⟨fun k hk => h.block k (by omega), fun k _ _ _ _ hk => (h.block k (has_box hk)).trans hk, fun p v _ hp => ⟨p, v, (h.block P (has_box hp)).trans hp⟩⟩
/-- What a directory has: where each stands, its name. -/
def belowN (head : Bs) : Nat → List Nd → List (Nat × Bs)
  | _, [] => []
  | i, x :: r => if Lib.hasPrefix x.1 head then (if (x.1.drop head.length).contains 47 then belowN head (i + 1) r else (i, x.1.drop head.length) :: belowN head (i + 1) r) else []
abbrev encE (x : Nat × Bs) : Array Value := #[.int .i64 (x.1 : Int), strV x.2]
theorem cut_call (s p : Bs) (W : World) : Calls Try.prog 64 #[strV s, strV p] W fun e w' => e = .returned (.tuple #[strV (Lib.trimPrefix s p), .bool (Lib.hasPrefix s p)]) ∧ w' = W := Try.strings_CutPrefix ⟨s.toArray⟩ ⟨p.toArray⟩ W
theorem has_slash (s : Bs) (W : World) : Calls Try.prog 51 #[strV s, .string ⟨#[47]⟩] W fun e w' => e = .returned (.bool (s.contains 47)) ∧ w' = W := by
  refine (Try.strings_Contains_one ⟨s.toArray⟩ 47 W).mono ?_
  rintro _ _ ⟨rfl, rfl⟩
  rw [← Lib.contains_iff_indexByte s 47]
  exact ⟨rfl, rfl⟩
set_option maxRecDepth 100000 in
set_option maxHeartbeats 2000000 in
theorem below_in {γ : Type} (L : List γ) (e2 : γ → Nat × Bs) (n : Nat) (hn : 1 ≤ n) (lp bt bi bh B P at_ : Nat) (head : Bs) (lv : Value) (l : List Nd) (J Jx : List {p : γ // p ∈ L} → World → Prop) (W W0 : World) (hLE : L.map e2 = belowN head (at_ + 1) (l.drop (at_ + 1))) (hJ : AbidesFrom W.heap.size J) (hW0 : W0.heap.size = B)
    (hY : ∀ pre (x : {p : γ // p ∈ L}) W, J pre W → pre.length < L.length → YieldAt Fence.wide (n - 1) Try.prog lp (encE (e2 x.1)) W fun r W' =>
      (r = .returned (.bool true) ∧ J (pre ++ [x]) W' ∧ KpP B P W W') ∨ (r = .returned (.bool false) ∧ Jx (pre ++ [x]) W'))
    (hl : l.length ≤ 1000000) (hbt : W.heap[bt]? = some (.cells #[.pointer (some ⟨P, 0, none⟩)] 54)) (hbi : W.heap[bi]? = some (.cells #[.int .i64 (at_ : Int)] 3)) (hbh : W.heap[bh]? = some (.cells #[strV head] 9))
    (hP : ∃ p v, W.heap[P]? = some (.cells #[p, v, lv] 59 (0, 0))) (hNI : NIn W0 lv l) (hlow : ∀ k, k < B → W.heap[k]? = W0.heap[k]?) (ha : at_ < l.length) (h0 : J [] W) :
    CallsIn Fence.wide n Try.prog 63 #[.func (.yield lp) #[] #[], .pointer (some ⟨bi, 0, none⟩), .pointer (some ⟨bt, 0, none⟩), .pointer (some ⟨bh, 0, none⟩)] W fun r W' => (∃ v, r = .returned v) ∧
      ((∃ ys, ys.map Subtype.val = L ∧ J ys W') ∨ (∃ pre, True ∧ Jx pre W')) := by
  obtain ⟨A, c, rfl⟩ := hNI.form
  refine callsIn_of_wp Try.func63 rfl trivial ?_ rfl
  simp only [Try.ntmps63, List.size_toArray, List.length_cons, List.length_nil, Nat.reduceAdd, Nat.reduceSub, Array.replicate_succ, Array.replicate_zero, List.push_toArray, List.append_toArray, List.nil_append, List.cons_append]
  have hci : W.cell? ⟨bi, 0, none⟩ = some (.int .i64 (at_ : Int)) := by simp [World.cell?, hbi]
  have w1 : IntKind.i64.wrap ((at_ : Int) + 1) = ((at_ + 1 : Nat) : Int) := by rw [IntWalk.i64_in _ (by omega)]; simp
  have HBT := Lib.hid hbt
  have HBI := Lib.hid hbi
  have HBH := Lib.hid hbh
  have HP := Lib.hid hP
  have HNI := Lib.hid hNI
  have HLOW := Lib.hid hlow
  clear hbt hbi hbh hP hNI hlow
  gi_wp2
  rw [show (at_ : Int) + 1 = ((at_ + 1 : Nat) : Int) by omega]
  gi_loopw [5] (fun z wr => ∃ (i : Nat) (pre : List {p : γ // p ∈ L}), at_ + 1 ≤ i ∧ i ≤ l.length ∧ z = .int .i64 (i : Int) ∧ Hid (KpP B P W wr) ∧ J pre wr ∧ pre.length ≤ L.length ∧ pre.map Subtype.val = L.take pre.length ∧ (L.drop pre.length).map e2 = belowN head i (l.drop i)) (fun z _ => l.length - (intOf z).toNat)
  case atStart => exact ⟨at_ + 1, [], by omega, by omega, rfl, KpP.refl _ _ _, h0, Nat.zero_le _, rfl, hLE⟩
  case round =>
    clear hci
    obtain ⟨i, pre, hi1, hi2, rfl, HK, hJs, hpl, hpt, hpre⟩ := hrel
    have HPT := Lib.hid hpt
    clear hpt
    have hbt := HK.out.boxes _ _ _ _ (.inl rfl) HBT.out
    have hbi := HK.out.boxes _ _ _ _ (.inr (.inl rfl)) HBI.out
    have hbh := HK.out.boxes _ _ _ _ (.inr (.inr rfl)) HBH.out
    obtain ⟨p0, v0, hP0⟩ := HP.out
    obtain ⟨p, v, hP⟩ := HK.out.pack p0 v0 _ hP0
    have q1 : wr.cell? ⟨bt, 0, none⟩ = some (.pointer (some ⟨P, 0, none⟩)) := by simp [World.cell?, hbt]
    have q2 : wr.cell? ⟨bh, 0, none⟩ = some (strV head) := by simp [World.cell?, hbh]
    have q3 : wr.cell? ⟨P, 2, none⟩ = some (.slice A l.length c) := by simp [World.cell?, hP]
    have q4 : has wr P := has_box hP
    clear hbt hbi hbh hP0 hP
    by_cases hlt : i < l.length
    · have hd : decide ((i : Int) < (l.length : Int)) = true := by simp; omega
      obtain ⟨x, hx⟩ : ∃ x, l[i]? = some x := ⟨_, List.getElem?_eq_getElem hlt⟩
      have hdrop : l.drop i = x :: l.drop (i + 1) := by rw [List.drop_eq_getElem_cons hlt, (List.getElem?_eq_some_iff.1 hx).2]
      obtain ⟨g, off, rfl, g1, g2, -, -⟩ := nin_at HNI.out i x hx
      have hgr : wr.heap[g]? = W0.heap[g]? := (HK.out.low g (by rw [← hW0]; exact g1)).trans (HLOW.out g (by rw [← hW0]; exact g1))
      have g3 : wr.cell? ⟨g, off + i * 3, none⟩ = some (strV x.1) := by rw [← g2]; simp only [World.cell?, hgr]
      have g4 : has wr g := by
        have h := g1
        unfold has
        have e : W0.heap[g]? = some (W0.heap[g]'g1) := Array.getElem?_eq_getElem g1
        rw [← hgr] at e
        exact has_box e
      rw [hdrop] at hpre
      have HPRE := Lib.hid hpre
      have HCUT := Lib.hid (cut_call x.1 head)
      obtain ⟨tp, htp⟩ : ∃ tp, Lib.hasPrefix x.1 head = tp := ⟨_, rfl⟩
      obtain ⟨nm, hnm⟩ : ∃ nm, Lib.trimPrefix x.1 head = nm := ⟨_, rfl⟩
      have HTP := Lib.hid htp
      have HNM := Lib.hid hnm
      rw [htp, hnm] at HCUT
      clear hpre hdrop hgr g1 g2 htp hnm hx
      gi_wp2
      refine wpIn_wide.2 ?_
      go_region_held3 (fun w' => w'.cell? ⟨bt, 0, none⟩ = some (.pointer (some ⟨P, 0, none⟩)) ∧ w'.cell? ⟨bh, 0, none⟩ = some (strV head) ∧ w'.cell? ⟨P, 2, none⟩ = some (.slice (some ⟨g, off, none⟩) l.length c) ∧ w'.cell? ⟨g, off + i * 3, none⟩ = some (strV x.1)) (first | go_keep | exact ⟨q1, q2, q3, g3⟩)
        (first
          | (go_at_call 64; refine (HCUT.out _).mono ?_; rintro _ _ ⟨rfl, rfl⟩))
      have hJ2 : J pre wr.drew := hJ _ wr _ none hJs ⟨rfl, rfl, rfl, Nat.le_refl _, fun _ _ _ => rfl⟩ (fun _ h => by cases h)
      have HK2 := Lib.hid (kpP_t HK.out (⟨fun _ _ => rfl, fun _ _ _ _ _ h => h, fun p v _ h => ⟨p, v, h⟩⟩ : KpP B P wr wr.drew))
      obtain ⟨V, hV⟩ : ∃ V, wr.drew = V := ⟨_, rfl⟩
      rw [hV] at hJ2 HK2 ⊢
      clear hV q1 q2 q3 q4 g3 g4 hJs HK HCUT
      cases tp with
      | false =>
        have hys : pre.map Subtype.val = L := by
          have h1 := HPRE.out
          simp only [belowN, HTP.out] at h1
          have h2 : (L.drop pre.length).length = 0 := by
            have := congrArg List.length h1
            simpa using this
          rw [HPT.out]
          simp at h2
          rw [List.take_of_length_le (by omega)]
        gi_wp2
        refine bodyPost_ret (results_none rfl _ _ _) rfl ?_
        exact ⟨⟨_, rfl⟩, .inl ⟨_, hys, hJ2⟩⟩
      | true =>
        have hne : nm = x.1.drop head.length := by rw [← HNM.out]; simp only [Lib.trimPrefix, HTP.out, if_true]
        have HNE := Lib.hid hne
        have HS := Lib.hid (has_slash nm V)
        obtain ⟨tc, htc⟩ : ∃ tc, nm.contains 47 = tc := ⟨_, rfl⟩
        have HTC := Lib.hid htc
        rw [htc] at HS
        clear hne htc HNM
        gi_wp2
        refine ⟨trivial, ?_⟩
        refine (callsIn_wide.2 HS.out).mono ?_
        rintro _ _ ⟨rfl, rfl⟩
        cases tc with
        | true =>
          have hys : (L.drop pre.length).map e2 = belowN head (i + 1) (l.drop (i + 1)) := by
            rw [HPRE.out]
            simp only [belowN, HTP.out, ← HNE.out, HTC.out, if_true]
          have HYS := Lib.hid hys
          clear hys
          gi_wp2
          refine ⟨fun _ h => (by cases h), ?_⟩
          gi_wp2
          refine ⟨?_, ?measure⟩
          (repeat apply Exists.intro)
          refine ⟨?rel, ?fr⟩
          case fr => rfl
          case rel => exact ⟨i + 1, pre, by omega, by omega, by go_num, HK2, hJ2, hpl, HPT.out, HYS.out⟩
          case measure => simp [intOf]; omega
        | false =>
          obtain ⟨y, hys⟩ : ∃ y : {p : γ // p ∈ L}, pre.length < L.length ∧ e2 y.1 = (i, nm) ∧ (pre ++ [y]).map Subtype.val = L.take (pre ++ [y]).length ∧ (L.drop (pre ++ [y]).length).map e2 = belowN head (i + 1) (l.drop (i + 1)) := by
            have h1 := HPRE.out
            simp only [belowN, HTP.out, ← HNE.out, HTC.out, if_true] at h1
            have hlt2 : pre.length < L.length := by
              have := congrArg List.length h1
              simp at this
              omega
            rw [List.drop_eq_getElem_cons hlt2, List.map_cons] at h1
            simp only [Bool.false_eq_true, if_false, List.cons.injEq] at h1
            refine ⟨⟨L[pre.length], List.getElem_mem hlt2⟩, hlt2, h1.1, ?_, ?_⟩
            · rw [List.map_append, HPT.out, List.length_append, List.length_singleton, List.take_succ_eq_append_getElem hlt2]
              rfl
            · rw [List.length_append, List.length_singleton]
              exact h1.2
          obtain ⟨fn, tmps, assign, body, hy, hR⟩ := hY pre y _ hJ2 hys.1
          rw [hys.2.1] at hy
          have hpl2 : (pre ++ [y]).length ≤ L.length := by have := hys.1; simp; omega
          have HYS := Lib.hid hys
          clear hys
          gi_wp2
          refine hR.mono ?_
          rintro r W3 (⟨rfl, hJ3, hk3⟩ | ⟨rfl, hJx3⟩)
          · have HK3 := Lib.hid (kpP_t HK2.out hk3)
            gi_wp2
            refine ⟨?_, ?measure⟩
            (repeat apply Exists.intro)
            refine ⟨?rel, ?fr⟩
            case fr => rfl
            case rel => exact ⟨i + 1, pre ++ [y], by omega, by omega, by go_num, HK3, hJ3, hpl2, HYS.out.2.2⟩
            case measure => simp [intOf]; omega
          · gi_wp2
            refine bodyPost_ret (results_none rfl _ _ _) rfl ?_
            exact ⟨⟨_, rfl⟩, .inr ⟨_, trivial, hJx3⟩⟩
    · obtain rfl : i = l.length := by omega
      have hd : decide ((l.length : Int) < (l.length : Int)) = false := by simp
      gi_wp2
      go_end0
      have hys : pre.map Subtype.val = L := by
        have h1 := hpre
        rw [List.drop_length, belowN] at h1
        have h2 := congrArg List.length h1
        simp at h2
        rw [HPT.out, List.take_of_length_le (by omega)]
      exact ⟨⟨_, rfl⟩, .inl ⟨_, hys, hJs⟩⟩
end Go.Proofs.Ytmlefodnbbkilaa

/- Walks: a tree is packed. -/
import Derived.Test.YtmlefodnbbkilaaPk5
namespace Go.Proofs.Ytmlefodnbbkilaa
open Go.RowKit

mutual
theorem small_T : ∀ (t : Tr) (deep : Nat), okT deep t → (packT t).length + 1000 ≤ 70000 * sizeT t
  | .file d, _, ok => by
    simp only [okT] at ok
    simp only [packT, sizeT, strsN_cons, strsN_nil, List.length_append, strN_len, List.length_cons, List.length_nil]
    omega
  | .exec d, _, ok => by
    simp only [okT] at ok
    simp only [packT, sizeT, strsN_cons, strsN_nil, List.length_append, strN_len, List.length_cons, List.length_nil]
    omega
  | .link d, _, ok => by
    simp only [okT] at ok
    simp only [packT, sizeT, strsN_cons, strsN_nil, List.length_append, strN_len, List.length_cons, List.length_nil]
    omega
  | .dir f, deep, ok => by
    simp only [okT] at ok
    have := small_F f deep [] ok
    simp only [packT, sizeT, strsN_cons, strsN_nil, List.length_append, strN_len, List.length_cons, List.length_nil]
    omega
theorem small_F : ∀ (f : Fo) (deep : Nat) (last : Bs), okF deep last f → (packF f).length ≤ 70000 * sizeF f
  | .nil, _, _, _ => by simp [packF]
  | .cons nm t f, deep, last, ok => by
    simp only [okF] at ok
    have h1 := small_T t (deep + 1) ok.2.2.2.1
    have h2 := small_F f deep nm ok.2.2.2.2
    have h3 := (mayName_no ok.1).2.2.2
    have hs : 1 ≤ sizeT t := by cases t <;> simp [sizeT]
    simp only [packF, sizeF, strsN_cons, strsN_nil, List.length_append, strN_len, List.length_cons, List.length_nil]
    omega
end
open Classical in
/-- What nodes are packed to, and the error. -/
noncomputable def packL (l : List Nd) : Bs × Int := if h : mayN l = true then (packN (Classical.choose (tree_of_may l h)), 0) else ([], 1)
theorem packL_tree {l : List Nd} (h : mayN l = true) : ∃ t, okT 0 t ∧ l = nodesT [] t ∧ l.length ≤ 256 ∧ packL l = (packN t, 0) := by
  have hs := Classical.choose_spec (tree_of_may l h)
  refine ⟨_, hs.1, hs.2.1, hs.2.2, ?_⟩
  unfold packL
  rw [dif_pos h]
theorem packL_none {l : List Nd} (h : mayN l = false) : packL l = ([], 1) := by
  unfold packL
  rw [dif_neg (by simp [h])]
set_option maxRecDepth 100000 in
set_option maxHeartbeats 1000000 in
theorem pack_any (hCA : ContAll) {W : World} {lv : Value} {l : List Nd} (h : NIn W lv l) (hl : l.length ≤ 1000000) (hp : ∀ x ∈ l, x.1.length ≤ 1000000) :
    Calls Try.prog 12 #[lv] W fun e w' => e = .returned (.tuple #[strV (packL l).1, .int .i64 (packL l).2]) ∧ Below W.heap.size W w' := by
  have HMAY := Lib.hid (may_any hCA h hl hp)
  cases hm : mayN l with
  | false =>
    rw [hm] at HMAY
    rw [packL_none hm]
    obtain ⟨A, c, rfl⟩ := h.form
    clear h
    go_enter Try.func12, Try.ntmps12
    go_wp2_with fail
    refine HMAY.out.mono ?_
    rintro _ V ⟨rfl, hb⟩
    have HB := Lib.hid hb
    clear hb
    go_wp2_with fail
    exact bodyPost_ret (v := .tuple #[strV [], .int .i64 1]) (by simp [results, Try.results12, go_sem]) rfl ⟨rfl, HB.out⟩
  | true =>
    rw [hm] at HMAY
    obtain ⟨t, ok, ht, hlen, hpk⟩ := packL_tree hm
    rw [hpk]
    have hsz : sizeT t ≤ 256 := by rw [← size_T t [], ← ht]; exact hlen
    have hT := small_T t 0 ok
    obtain ⟨A, c, rfl⟩ := h.form
    have HNI := Lib.hid h
    have HP := Lib.hid hp
    have HT := Lib.hid ht
    have hmk : (strsN [sMark]).length = 24 := by simp [strsN_cons, strsN_nil, strN_len]
    have hpn : packN t = strsN [sMark] ++ packT t := by simp [packN, strsN]
    obtain ⟨pk, hpk2⟩ : ∃ pk, packN t = pk := ⟨_, rfl⟩
    rw [hpk2] at hpn ⊢
    have HPN := Lib.hid hpn
    clear h hp ht hm hpk hpn hpk2
    go_enter Try.func12, Try.ntmps12
    go_wp2_with fail
    refine HMAY.out.mono ?_
    rintro _ V ⟨rfl, hb⟩
    have HB := Lib.hid hb
    clear hb HMAY
    have hcell := new_at V (.cells #[.pointer none, .slice none 0 0, .slice A l.length c] 59)
    have hP : PkAt V.heap.size V.heap.size (.slice none 0 0) (.slice A l.length c) [] (V.alloc (.cells #[.pointer none, .slice none 0 0, .slice A l.length c] 59)) :=
      ⟨⟨_, .inl rfl, hcell⟩, ⟨rfl, .inl ⟨rfl, rfl⟩⟩, fun e => (by cases e), Nat.le_refl _⟩
    have hVb : Below V.heap.size V (V.alloc (.cells #[.pointer none, .slice none 0 0, .slice A l.length c] 59)) := (Below.refl _ V).alloc (Nat.le_refl _) _
    have hput := put_lit [sMark] hP (by rw [hmk]; simp) (by rw [hmk]; omega) (by simp) #[strV sMark] rfl
    simp only [World.size_alloc, List.length_cons, List.length_nil, Nat.zero_add] at hput
    have HPUT := Lib.hid hput
    clear hput
    have HP0 := Lib.hid hP
    have HVB := Lib.hid hVb
    clear hcell hP hVb
    go_wp2_with fail
    refine HPUT.out.mono ?_
    rintro _ V1 ⟨rfl, u1, hP1, hT1⟩
    have hb1 : Below V.heap.size V V1 := HVB.out.trans (hT1.below HP0.out)
    have hNI1 : NIn V (.slice A l.length c) l := HNI.out.on HB.out
    have HNODE := Lib.hid (node_any V.heap.size (sizeT t) t 0 (packT t).length V.heap.size [] ([] ++ strsN [sMark]) [] [] l u1 (.slice A l.length c) V1 V (Nat.le_refl _) ok (by rw [HT.out]; simp) (Behind.nil _) hNI1 rfl hb1 hP1 (Nat.le_refl _) (by omega) (by rw [List.nil_append, hmk]; omega) (by omega) (by omega) HP.out)
    have HP1 := Lib.hid hP1
    have HB1 := Lib.hid hb1
    clear hP1 hT1 hb1 hNI1 HPUT
    go_wp2_with fail
    refine HNODE.out.mono ?_
    rintro _ V2 ⟨rfl, u2, hP2, hT2⟩
    have hb2 : Below V.heap.size V V2 := HB1.out.trans (hT2.below HP1.out)
    rw [List.nil_append, ← HPN.out] at hP2
    have hne : pk ≠ [] := by
      intro e
      have := congrArg List.length (HPN.out)
      rw [e, List.length_append, hmk] at this
      simp at this
      omega
    have HSAID := Lib.hid (said_any hP2 hne)
    have HB2 := Lib.hid hb2
    clear hP2 hT2 hb2 hne HNODE
    go_wp2_with fail
    refine HSAID.out.mono ?_
    rintro _ V3 ⟨rfl, hb3⟩
    have HB3 := Lib.hid (HB.out.trans ((HB2.out.trans hb3).mono HB.out.size))
    clear hb3 HSAID
    go_wp2_with fail
    exact bodyPost_ret (v := .tuple #[strV pk, .int .i64 0]) (by simp [results, Try.results12, go_sem]) rfl ⟨rfl, HB3.out⟩
end Go.Proofs.Ytmlefodnbbkilaa

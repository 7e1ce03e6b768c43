/- Walks: nodes are packed, the document's way. -/
import Derived.Test.YtmlefodnbbkilaaRn7
import Derived.Test.YtmlefodnbbkilaaPk6
namespace Go.Proofs.Ytmlefodnbbkilaa
open Go.RowKit

theorem cellsS {W : World} {p : Nat} {a b : Value} {e : TypeId} (h : W.heap[p]? = some (.cells #[a, b] e)) :
    W.cell? ⟨p, 0, none⟩ = some a ∧ W.cell? ⟨p, 1, none⟩ = some b ∧ ∀ j, W.frozen? ⟨p, j, none⟩ = false := by
  refine ⟨?_, ?_, fun j => ?_⟩
  · simp [World.cell?, h]
  · simp [World.cell?, h]
  · simp [World.frozen?, h]
theorem put2 {W V : World} {X B : Nat} {a b : Value} {e : TypeId} (h : V.heap[X]? = some (.cells #[a, b] e)) (a' b' : Value) (hB : B ≤ X) (hb : Below B W V) :
    ((V.setCell ⟨X, 0, none⟩ a').setCell ⟨X, 1, none⟩ b').cell? ⟨X, 0, none⟩ = some a' ∧ ((V.setCell ⟨X, 0, none⟩ a').setCell ⟨X, 1, none⟩ b').cell? ⟨X, 1, none⟩ = some b' ∧ Below B W ((V.setCell ⟨X, 0, none⟩ a').setCell ⟨X, 1, none⟩ b') := by
  have h1 := setCell_block (setCell_block h 0 a') 1 b'
  obtain ⟨q1, q2, -⟩ := cellsS (a := a') (b := b') (e := e) (h1.trans (by simp))
  exact ⟨q1, q2, (hb.setCell (p := ⟨X, 0, none⟩) hB _).setCell (p := ⟨X, 1, none⟩) hB _⟩
set_option maxRecDepth 100000 in
set_option maxHeartbeats 1000000 in
theorem packR_any {W : World} {lv : Value} {l : List Nd} (h : NIn W lv l) (hl : l.length ≤ 1000000) (hp : ∀ x ∈ l, x.1.length ≤ 1000000 ∧ x.2.2.length ≤ 1000000) :
    Calls Try.prog 15 #[lv] W fun e w' => e = .returned (.agg #[strV (packL l).1, .int .i64 (packL l).2]) ∧ Below W.heap.size W w' := by
  obtain ⟨V, hV⟩ : ∃ V, W.alloc (.cells #[strV [], .int .i64 0] 33) = V := ⟨_, rfl⟩
  have hVb : Below W.heap.size W V := by rw [← hV]; exact (Below.refl _ W).alloc (Nat.le_refl _) _
  have b2 : V.heap[W.heap.size]? = some (.cells #[strV [], .int .i64 0] 33) := by rw [← hV]; exact new_at W _
  have HMAY := Lib.hid (mayR_any (h.on hVb) hl hp)
  rw [mayR_eq] at HMAY
  have HVB := Lib.hid hVb
  have HBX := Lib.hid b2
  clear hVb b2
  cases hm : mayN l with
  | false =>
    rw [packL_none hm]
    rw [hm] at HMAY
    clear h hp hl hm
    go_enter Try.func15, Try.ntmps15
    go_wp2_with fail
    refine HMAY.out.mono ?_
    rintro _ V1 ⟨rfl, hb⟩
    have HK := Lib.hid (keeps_below HBX.out hb)
    have HB := Lib.hid (HVB.out.trans (hb.mono HVB.out.size))
    clear hb HMAY
    have hst : has V1 W.heap.size := has_box HK.out
    obtain ⟨c1, c2, c3⟩ := cellsS HK.out
    go_wp2_with fail
    obtain ⟨q1, q2, q3⟩ := put2 HK.out (strV []) (.int .i64 1) (Nat.le_refl _) HB.out
    obtain ⟨U, hU⟩ : ∃ U, (V1.setCell ⟨W.heap.size, 0, none⟩ (strV [])).setCell ⟨W.heap.size, 1, none⟩ (.int .i64 1) = U := ⟨_, rfl⟩
    change bodyPost _ _ _ _ _ ((V1.setCell ⟨W.heap.size, 0, none⟩ (strV [])).setCell ⟨W.heap.size, 1, none⟩ (.int .i64 1))
    rw [hU] at q1 q2 q3 ⊢
    exact bodyPost_ret (v := .agg #[strV [], .int .i64 1]) (by simp [results, Try.results15, go_sem, q1, q2]) rfl ⟨rfl, q3⟩
  | true =>
    obtain ⟨t, ok, ht, hlen, hpk⟩ := packL_tree hm
    rw [hpk]
    rw [hm] at HMAY
    have hsz : sizeT t ≤ 256 := by rw [← size_T t [], ← ht]; exact hlen
    have hT := small_T t 0 ok
    obtain ⟨A, c, rfl⟩ := h.form
    have HNODE := Lib.hid fun U (hU : Below W.heap.size W U) => nodeR_any (lv := .slice A l.length c) (l := l) (by omega) (fun y hy => (hp y hy).1) (sizeT t) t 0 [] [] [] U (Nat.le_refl _) ok (by rw [ht]; simp) (Behind.nil _) (h.on hU) (by omega)
    have hpn : packN t = strsN [sMark] ++ packT t := by simp [packN, strsN]
    have hmk : (strsN [sMark]).length = 24 := by simp [strsN_cons, strsN_nil, strN_len]
    obtain ⟨pk, hpk2⟩ : ∃ pk, packN t = pk := ⟨_, rfl⟩
    obtain ⟨pt, hpt⟩ : ∃ pk, packT t = pk := ⟨_, rfl⟩
    have HS := Lib.hid fun U => strs_lit (W := U) [sMark] (by omega) (by simp) #[strV sMark] rfl
    obtain ⟨mk, hmk2⟩ : ∃ mk, strsN [sMark] = mk := ⟨_, rfl⟩
    rw [hpk2, hpt, hmk2] at hpn
    rw [hmk2] at hmk HS
    rw [hpk2]
    rw [hpt] at hT HNODE
    have HPN := Lib.hid hpn
    clear h hp ht hm hpk hpn hpk2 hpt hmk2
    go_enter Try.func15, Try.ntmps15
    go_wp2_with fail
    refine HMAY.out.mono ?_
    rintro _ V1 ⟨rfl, hb⟩
    have HK := Lib.hid (keeps_below HBX.out hb)
    have HB := Lib.hid (HVB.out.trans (hb.mono HVB.out.size))
    clear hb HMAY
    go_wp2_with fail
    refine (HNODE.out _ HB.out).mono ?_
    rintro _ V2 ⟨rfl, hb⟩
    have HK2 := Lib.hid (keeps_below HK.out hb)
    have HB2 := Lib.hid (HB.out.trans (hb.mono HB.out.size))
    clear hb
    go_wp2_with fail
    refine (HS.out _).mono ?_
    rintro _ V3 ⟨rfl, hb⟩
    have HK3 := Lib.hid (keeps_below HK2.out hb)
    have HB3 := Lib.hid (HB2.out.trans (hb.mono HB2.out.size))
    clear hb HB HB2
    have hst : has V3 W.heap.size := has_box HK3.out
    obtain ⟨c1, c2, c3⟩ := cellsS HK3.out
    go_wp2_with fail
    trace_state
    obtain ⟨q1, q2, q3⟩ := put2 HK3.out (strV pk) (.int .i64 0) (Nat.le_refl _) HB3.out
    rw [HPN.out] at q1 q2 q3 ⊢
    obtain ⟨U, hU⟩ : ∃ U, (V3.setCell ⟨W.heap.size, 0, none⟩ (strV (mk ++ pt))).setCell ⟨W.heap.size, 1, none⟩ (.int .i64 0) = U := ⟨_, rfl⟩
    change bodyPost _ _ _ _ _ ((V3.setCell ⟨W.heap.size, 0, none⟩ (strV (mk ++ pt))).setCell ⟨W.heap.size, 1, none⟩ (.int .i64 0))
    rw [hU] at q1 q2 q3 ⊢
    exact bodyPost_ret (v := .agg #[strV (mk ++ pt), .int .i64 0]) (by simp [results, Try.results15, go_sem, q1, q2]) rfl ⟨rfl, q3⟩
end Go.Proofs.Ytmlefodnbbkilaa

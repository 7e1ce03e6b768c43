/- Walks: the document's example. -/
import Derived.Test.YtmlefodnbbkilaaPk6
import Derived.Test.YtmlefodnbbkilaaRune2
namespace Go.Proofs.Ytmlefodnbbkilaa
open Go.RowKit

theorem err_any (n : Int) (W : World) : Calls Try.prog 14 #[.int .i64 n] W fun e w' => e = .returned (.int .i64 n) ∧ w' = W := by
  go_enter Try.func14, Try.ntmps14
  go_wp2_with fail
  exact bodyPost_ret (v := .int .i64 n) (by simp [results, Try.results14, go_sem]) rfl ⟨rfl, rfl⟩
/-- A new row of nodes. -/
theorem nin_new (W : World) (l : List Nd) (lit : Array Value) (h : lit = (flatX encNd l).toArray) : NIn (W.alloc (.cells lit 37)) (.slice (some ⟨W.heap.size, 0, none⟩) l.length l.length) l := by
  subst h
  refine .inr ⟨W.heap.size, 0, l.length, rfl, Nat.le_refl _, by simp, fun j x hj i hi => ?_⟩
  rw [Nat.zero_add]
  simp only [World.cell?, new_at]
  have := encNd_ok.get l j x i hj hi
  simpa using this
theorem pack_file (d : Bs) (hd : d.length ≤ 65536) : packL [([], 1, d)] = (packN (.file d), 0) := by
  have hm : mayN [([], 1, d)] = true := by
    have := may_of_tree (.file d) (by simpa only [okT] using hd) (by simp [nodesT])
    simpa only [nodesT] using this
  obtain ⟨t, ok, ht, -, hp⟩ := packL_tree hm
  rw [hp]
  cases t with
  | file e => simp only [nodesT, List.cons.injEq, Prod.mk.injEq, and_true, true_and] at ht; rw [ht]
  | exec e => simp [nodesT] at ht
  | link e => simp [nodesT] at ht
  | dir e => simp [nodesT] at ht
theorem pack_head (t : Tr) : (packN t).take 24 = strN sMark ∧ (packN t).length = 24 + (packT t).length := by
  have h : (strN sMark).length = 24 := by simp [strN_len]
  unfold packN
  refine ⟨?_, by rw [List.length_append, h]⟩
  rw [List.take_append_of_le_length (by omega), List.take_of_length_le (by omega)]
set_option maxRecDepth 100000 in
set_option maxHeartbeats 1000000 in
theorem awake_any (W : World) : Calls Try.prog 10 #[] W fun e w' => e = .returned (.bool true) ∧ Below W.heap.size W w' := by
  have hb0 : Below W.heap.size W (W.alloc (.cells #[strV [], .int .i64 1, strV [120]] 37)) := (Below.refl _ W).alloc (Nat.le_refl _) _
  have hpk := pack_any cont_all (nin_new W [([], 1, [120])] #[strV [], .int .i64 1, strV [120]] rfl) (by simp) (by simp)
  rw [pack_file [120] (by simp)] at hpk
  obtain ⟨p, hp⟩ : ∃ p, packN (.file [120]) = p := ⟨_, rfl⟩
  have hlen : p.length = 24 + (packT (.file [120])).length := by rw [← hp]; exact (pack_head _).2
  have hl2 : (packT (.file [120])).length = 96 := by simp [packT, strsN_cons, strsN_nil, strN_len]
  have htk : p.take 24 = strN sMark := by rw [← hp]; exact (pack_head _).1
  rw [hp] at hpk
  dsimp only at hpk
  obtain ⟨M, hM⟩ : ∃ M, strN sMark = M := ⟨_, rfl⟩
  obtain ⟨O, hO⟩ : ∃ O, strN sOpen = O := ⟨_, rfl⟩
  have hOl : O.length = 16 := by rw [← hO]; simp [strN_len]
  have HS1 : Hid (∀ V, Calls Try.prog 17 #[.string ⟨#[40]⟩] V fun e w' => e = .returned (strV (strN sOpen)) ∧ Below V.heap.size V w') := Lib.hid fun V => str_any sOpen V (by simp)
  have HS2 : Hid (∀ V, Calls Try.prog 17 #[.string ⟨#[110, 105, 120, 45, 97, 114, 99, 104, 105, 118, 101, 45, 49]⟩] V fun e w' => e = .returned (strV (strN sMark)) ∧ Below V.heap.size V w') := Lib.hid fun V => str_any sMark V (by simp)
  rw [hM] at HS2 htk
  rw [hO] at HS1
  have hext : (⟨p.toArray⟩ : ByteArray).extract 0 24 = ⟨M.toArray⟩ := by
    apply ByteArray.ext
    rw [← htk]
    simp
  have hpl : p.length = 120 := by omega
  have HPK := Lib.hid hpk
  have HB0 := Lib.hid hb0
  have HERR := Lib.hid err_any
  have o1 : ((O.length : Int) == 16) = true := by rw [hOl]; rfl
  have o2 : decide ((100 : Int) < (p.length : Int)) = true := by rw [hpl]; decide
  have o3 : (24 : Int) ≤ (p.length : Int) := by rw [hpl]; decide
  clear hpk hb0 hp hM hO hlen hl2 htk hpl hOl
  go_enter Try.func10, Try.ntmps10
  go_wp2_with fail
  refine HPK.out.mono ?_
  rintro _ V ⟨rfl, hb⟩
  have HB := Lib.hid (HB0.out.trans (hb.mono HB0.out.size))
  clear hb HPK HB0
  go_wp2_with fail
  go_region_held3 (fun w' => True) (first | exact trivial)
    (first
      | (go_at_call 17; with_reducible refine (HS1.out _).mono ?_; rintro _ V2 ⟨rfl, hb2⟩)
      | (go_at_call 17; with_reducible refine (HS2.out _).mono ?_; rintro _ V3 ⟨rfl, hb3⟩)
      | (go_at_call 14; with_reducible refine (HERR.out _ _).mono ?_; rintro _ _ ⟨rfl, rfl⟩))
  have HF : Hid (Below W.heap.size W V3) := Lib.hid ((HB.out.trans ((Below.refl V.heap.size V).drew.mono HB.out.size)).trans ((hb2.mono HB.out.size).trans (hb3.mono (Nat.le_trans HB.out.size hb2.size))))
  clear hb2 hb3
  go_wp2_with fail
  exact bodyPost_ret (v := .bool true) (by simp [results, Try.results10, go_sem]) rfl ⟨rfl, HF.out⟩
end Go.Proofs.Ytmlefodnbbkilaa

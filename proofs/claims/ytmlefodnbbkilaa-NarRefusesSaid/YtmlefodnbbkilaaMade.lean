/- Walks: NarMade. -/
import Derived.Test.YtmlefodnbbkilaaMk4
import Derived.Test.YtmlefodnbbkilaaRn8
import Derived.Test.YtmlefodnbbkilaaLaw0
import Derived.Test.YtmlefodnbbkilaaRune2
namespace Go.Proofs.Ytmlefodnbbkilaa
open Go.RowKit

theorem packT_mod : ∀ l : List Bs, (strsN l).length % 8 = 0
  | [] => rfl
  | s :: l => by
    have := packT_mod l
    rw [strsN_cons, List.length_append, strN_len]
    omega
mutual
theorem modT : ∀ t : Tr, (packT t).length % 8 = 0
  | .file d => packT_mod _
  | .exec d => packT_mod _
  | .link d => packT_mod _
  | .dir f => by
    have h1 := modF f
    have h2 := packT_mod [sOpen, sType, sDirectory]
    simp only [packT, List.length_append, strN_len, List.length_cons, List.length_nil]
    omega
theorem modF : ∀ f : Fo, (packF f).length % 8 = 0
  | .nil => rfl
  | .cons nm t f => by
    have h1 := modF f
    have h2 := modT t
    have h3 := packT_mod [sEntry, sOpen, sName, nm, sNode]
    simp only [packF, List.length_append, strN_len, List.length_cons, List.length_nil]
    omega
end
theorem pack_mod {l : List Nd} (h : mayN l = true) : (packL l).1.length % 8 = 0 ∧ (packL l).2 = 0 := by
  obtain ⟨t, ok, ht, hlen, hpk⟩ := packL_tree h
  rw [hpk]
  refine ⟨?_, rfl⟩
  unfold packN
  rw [List.length_append, strN_len]
  have := modT t
  omega
theorem Lit4.all {l : List Nd} (h : Lit4 l) : ∀ x ∈ l, x.1.length ≤ 1000000 ∧ x.2.2.length ≤ 1000000 := fun x hx => by
  have := h x hx
  omega
theorem field_said (s : Bs) (n : Int) (w : World) : (Instr.field 33 (.agg #[strV s, .int .i64 n]) 0).run Try.prog w = .ok (strV s) w := by
  simp [Instr.field, go_sem, asAgg]

set_option maxRecDepth 100000 in
set_option maxHeartbeats 1000000 in
theorem narMade_any {W : World} {nv tv : Value} {ns : Bs} {tx : List Bs} (hn : BIn W nv ns) (hnl : ns.length ≤ 140737488355328) (ht : SIn W tv tx) (_hl : tx.length ≤ 9223372036854775807) :
    Calls Try.prog 3 #[nv, tv] W fun e w' => e = .returned (.bool true) ∧ Below W.heap.size W w' := by
  have HAW := Lib.hid awake_any
  obtain ⟨B, c, rfl⟩ := ht.form
  have HT := Lib.hid ht
  have HN := Lib.hid hn
  clear hn ht
  go_enter Try.func3, Try.ntmps3
  by_cases h8 : 8 < tx.length
  · have d8 : decide ((8 : Int) < (tx.length : Int)) = true := by simp; omega
    go_wp2_with fail
    refine (HAW.out _).mono ?_
    rintro _ U ⟨rfl, hb⟩
    have HB := Lib.hid hb
    clear hb
    go_wp2_with fail
    exact bodyPost_ret (v := .bool true) (by simp [results, Try.results3, go_sem]) rfl ⟨rfl, HB.out⟩
  have d8 : decide ((8 : Int) < (tx.length : Int)) = false := by simp; omega
  go_wp2_with fail
  rename_i K hK
  have HKK := Lib.hid hK
  clear hK d8
  go_loopw [5] (fun z wr => ∃ i : Nat, z = .int .i64 i ∧ i ≤ tx.length ∧ Hid (∀ j, j < i → (tx.getD j []).length ≤ 300) ∧ Hid (wr = W)) (fun z _ => tx.length - (intOf z).toNat)
  case atStart => exact ⟨0, by simp, by omega, Lib.hid (fun j hj => by omega), Lib.hid rfl⟩
  case round =>
    obtain ⟨i, rfl, hi, HSH, HW⟩ := hrel
    have hW := HW.out
    subst hW
    by_cases hlt : i < tx.length
    · have hd : decide ((i : Int) < (tx.length : Int)) = true := by simp; omega
      obtain ⟨b, off, rfl, hb, hc⟩ := sin_at HT.out i hlt
      obtain ⟨s, hs⟩ : ∃ s, tx.getD i [] = s := ⟨_, rfl⟩
      rw [hs] at hc
      have HS := Lib.hid hs
      clear hs
      by_cases h3 : 300 < s.length
      · have d3 : decide ((300 : Int) < (s.length : Int)) = true := by simp; omega
        go_wp2_with fail
        refine (HAW.out _).mono ?_
        rintro _ U ⟨rfl, hb⟩
        have HB := Lib.hid hb
        clear hb
        go_wp2_with fail
        exact bodyPost_ret (v := .bool true) (by simp [results, Try.results3, go_sem]) rfl ⟨rfl, HB.out⟩
      · have d3 : decide ((300 : Int) < (s.length : Int)) = false := by simp; omega
        have HSH2 : Hid (∀ j, j < i + 1 → (tx.getD j []).length ≤ 300) := Lib.hid fun j hj => by
          rcases Nat.lt_or_eq_of_le (Nat.le_of_lt_succ hj) with h | rfl
          · exact HSH.out j h
          · rw [HS.out]; omega
        go_wp2_with fail
        go_roundw
        case rel => exact ⟨i + 1, by go_num, by omega, HSH2, by first | exact Lib.hid trivial | exact HW⟩
        case measure => simp [intOf]; omega
    · obtain rfl : i = tx.length := by omega
      have hd : decide ((tx.length : Int) < (tx.length : Int)) = false := by simp
      have htx : ∀ t ∈ tx, t.length ≤ 300 := fun t ht => by
        obtain ⟨j, hj, rfl⟩ := List.mem_iff_getElem.1 ht
        have := HSH.out j hj
        rw [List.getD_eq_getElem?_getD, List.getElem?_eq_getElem hj] at this
        exact this
      have HTREE := Lib.hid (tree_any HN.out hnl HT.out (by omega) htx)
      clear htx HSH
      go_wp2_with fail
      refine HKK.out _ _ ?_
      clear HKK
      go_wp2_with fail
      refine HTREE.out.mono ?_
      rintro _ V ⟨v, l, rfl, hR, hm, hl4, hl16⟩
      have HB := Lib.hid hR.below
      have hNI := hR.xin encNd_ok
      have HPK := Lib.hid (pack_any cont_all hNI (by omega) fun x hx => (hl4.all x hx).1)
      have HPR := Lib.hid fun U (hU : Below V.heap.size V U) => packR_any (hNI.on hU) (by omega) hl4.all
      have HMY := Lib.hid fun U (hU : Below V.heap.size V U) => may_any cont_all (hNI.on hU) (by omega) fun x hx => (hl4.all x hx).1
      obtain ⟨p8, p0⟩ := pack_mod hm
      rw [hm] at HMY
      rw [p0] at HPK HPR
      obtain ⟨S, hS⟩ : ∃ S, (packL l).1 = S := ⟨_, rfl⟩
      rw [hS] at HPK HPR p8
      have HAB := Lib.hid fun U (hU : Below V.heap.size V U) => (HAW.out U).mono fun (e : Ending) w' (q : e = .returned (.bool true) ∧ Below U.heap.size U w') => (⟨q.1, hU.trans (q.2.mono hU.size)⟩ : e = .returned (.bool true) ∧ Below V.heap.size V w')
      have HER := Lib.hid err_any
      have hfd := field_said S 0
      have m8 : ((S.length : Int)).tmod 8 = 0 := by rw [Int.tmod_eq_emod_of_nonneg (by omega)]; omega
      clear hR hNI hm hl4 hl16 p0 hS HAW HTREE p8
      go_wp2_with fail
      refine HPK.out.mono ?_
      rintro _ V1 ⟨rfl, hb⟩
      have HB1 := Lib.hid hb
      clear hb HPK
      go_wp2_with fail
      refine (HMY.out _ HB1.out).mono ?_
      rintro _ V2 ⟨rfl, hb⟩
      have HB2 := Lib.hid (HB1.out.trans (hb.mono HB1.out.size))
      clear hb HMY
      go_wp2_with fail
      refine (HER.out _ _).mono ?_
      rintro _ _ ⟨rfl, rfl⟩
      go_wp2_with fail
      refine (HPR.out _ HB2.out).mono ?_
      rintro _ V3 ⟨rfl, hb⟩
      have HB3 := Lib.hid (HB2.out.trans (hb.mono HB2.out.size))
      clear hb HPR
      go_wp2_with fail
      refine (HAB.out _ HB3.out).mono ?_
      rintro _ V4 ⟨rfl, hb⟩
      have HB4 := Lib.hid (HB.out.trans (hb.mono HB.out.size))
      clear hb HAB
      go_wp2_with fail
      exact bodyPost_ret (v := .bool true) (by simp [results, Try.results3, go_sem]) rfl ⟨rfl, HB4.out⟩
theorem narMade_row (v : Value) (l : Bs) (u : Value) (m : List Bs) (W : World) (h : BIn W v l ∧ l.length ≤ 140737488355328) (h2 : SIn W u m ∧ m.length ≤ 9223372036854775807) : Ret Try.prog 3 #[v, u] W (.bool true) := .of (narMade_any h.1 h.2 h2.1 h2.2)
end Go.Proofs.Ytmlefodnbbkilaa

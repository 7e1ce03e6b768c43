/- Walks: NarTwo. -/
import Derived.Test.YtmlefodnbbkilaaMade
import Derived.Test.YtmlefodnbbkilaaRn9
import Derived.Deep.DeepCutAuto
import Derived.Deep.CutBlock
namespace Go.Proofs.Ytmlefodnbbkilaa
open Go.RowKit

theorem same_pack {l m : List Nd} (h1 : mayN l = true) (h2 : mayN m = true) : decide ((packL l).1 = (packL m).1) = decide (l = m) := by
  obtain ⟨t, ok, ht, hl, hpk⟩ := packL_tree h1
  obtain ⟨u, ok2, hu, hl2, hpk2⟩ := packL_tree h2
  have e : ((packL l).1 = (packL m).1) = (l = m) := propext ⟨fun e => by
    rw [hpk, hpk2] at e
    have := get_inj ok (by rw [← size_T t [], ← ht]; exact hl) ok2 (by rw [← size_T u [], ← hu]; exact hl2) e
    rw [ht, hu, this], fun e => by rw [e]⟩
  simp only [e]
theorem row_cells {w W : World} {g n c : Nat} {l : List Nd} (h : NR w W (.slice (some ⟨g, 0, none⟩) n c) l) : ∀ j u, (flatX encNd l)[j]? = some u → W.cell? ((⟨g, 0, none⟩ : Addr).add j) = some u := World.ownsRow.cells (by have := h.row; rw [← h.cap.2] at this; exact this) (g := g) rfl
theorem may_kind {l : List Nd} (h : mayN l = true) : ∀ x ∈ l, 1 ≤ x.2.1 ∧ x.2.1 ≤ 4 := by
  cases l with
  | nil => cases h
  | cons y r =>
    simp only [mayN, Bool.and_eq_true] at h
    intro x hx
    have := List.all_eq_true.1 h.1.2 x hx
    unfold mayNodeN at this
    split at this
    · omega
    · split at this
      · omega
      · split at this
        · omega
        · cases this
def Mid (m : List Nd) : Prop := ∀ x ∈ m, x.1.length ≤ 1000 ∧ x.2.2.length ≤ 1000
theorem Lit4.mid {l : List Nd} (h : Lit4 l) : Mid l := fun x hx => by have := h x hx; omega
theorem Lit4.set {l : List Nd} (h : Lit4 l) (k : Nat) (y : Nd) (hy : y.1.length ≤ 1000 ∧ y.2.2.length ≤ 1000) : Mid (l.set k y) := fun x hx => by
  rcases List.mem_or_eq_of_mem_set hx with h1 | rfl
  · exact h.mid x h1
  · exact hy
theorem Lit4.take {l : List Nd} (h : Lit4 l) (k : Nat) : Mid (l.take k) := fun x hx => h.mid x (List.mem_of_mem_take hx)
theorem Mid.all {l : List Nd} (h : Mid l) : ∀ x ∈ l, x.1.length ≤ 1000000 ∧ x.2.2.length ≤ 1000000 := fun x hx => by have := h x hx; omega

set_option maxRecDepth 100000 in
set_option maxHeartbeats 2000000 in
theorem narTwo_any {W : World} {nv tv : Value} {ns : Bs} {tx : List Bs} (at_ wh : Nat) (ha : at_ ≤ 255) (hw : wh ≤ 255) (hn : BIn W nv ns) (hnl : ns.length ≤ 140737488355328) (ht : SIn W tv tx) (_hl : tx.length ≤ 9223372036854775807) :
    Calls Try.prog 9 #[nv, tv, .int .u8 at_, .int .u8 wh] W fun e w' => e = .returned (.bool true) ∧ Below W.heap.size W w' := by
  have HAW := Lib.hid awake_any
  obtain ⟨B, c, rfl⟩ := ht.form
  have HT := Lib.hid ht
  have HN := Lib.hid hn
  clear hn ht
  go_enter Try.func9, Try.ntmps9
  by_cases h8 : 8 < tx.length
  · have d8 : decide ((8 : Int) < (tx.length : Int)) = true := by simp; omega
    go_wp2_with fail
    refine (HAW.out _).mono ?_
    rintro _ U ⟨rfl, hb⟩
    have HB := Lib.hid hb
    clear hb
    go_wp2_with fail
    exact bodyPost_ret (v := .bool true) (by simp [results, Try.results9, go_sem]) rfl ⟨rfl, HB.out⟩
  have d8 : decide ((8 : Int) < (tx.length : Int)) = false := by simp; omega
  go_wp2_with fail
  rename_i K hK
  have HKK := Lib.hid hK
  clear hK d8
  go_loopw [9] (fun z wr => ∃ i : Nat, z = .int .i64 i ∧ i ≤ tx.length ∧ Hid (∀ j, j < i → (tx.getD j []).length ≤ 300) ∧ Hid (wr = W)) (fun z _ => tx.length - (intOf z).toNat)
  case atStart => exact ⟨0, by simp, by omega, Lib.hid (fun j hj => by omega), Lib.hid rfl⟩
  case round =>
    obtain ⟨i, rfl, hi, HSH, HW⟩ := hrel
    have hW := HW.out
    subst hW
    by_cases hlt : i < tx.length
    · have hd : decide ((i : Int) < (tx.length : Int)) = true := by simp; omega
      obtain ⟨b, off, rfl, hb, hc⟩ := sin_at HT.out i hlt
      obtain ⟨s, hs⟩ : ∃ s, tx.getD i [] = s := ⟨_, rfl⟩
      rw [hs] at hc
      have HS := Lib.hid hs
      clear hs
      by_cases h3 : 300 < s.length
      · have d3 : decide ((300 : Int) < (s.length : Int)) = true := by simp; omega
        go_wp2_with fail
        refine (HAW.out _).mono ?_
        rintro _ U ⟨rfl, hb⟩
        have HB := Lib.hid hb
        clear hb
        go_wp2_with fail
        exact bodyPost_ret (v := .bool true) (by simp [results, Try.results9, go_sem]) rfl ⟨rfl, HB.out⟩
      · have d3 : decide ((300 : Int) < (s.length : Int)) = false := by simp; omega
        have HSH2 : Hid (∀ j, j < i + 1 → (tx.getD j []).length ≤ 300) := Lib.hid fun j hj => by
          rcases Nat.lt_or_eq_of_le (Nat.le_of_lt_succ hj) with h | rfl
          · exact HSH.out j h
          · rw [HS.out]; omega
        go_wp2_with fail
        go_roundw
        case rel => exact ⟨i + 1, by go_num, by omega, HSH2, by first | exact Lib.hid trivial | exact HW⟩
        case measure => simp [intOf]; omega
    · obtain rfl : i = tx.length := by omega
      have hd : decide ((tx.length : Int) < (tx.length : Int)) = false := by simp
      have htx : ∀ t ∈ tx, t.length ≤ 300 := fun t ht => by
        obtain ⟨j, hj, rfl⟩ := List.mem_iff_getElem.1 ht
        have := HSH.out j hj
        rw [List.getD_eq_getElem?_getD, List.getElem?_eq_getElem hj] at this
        exact this
      have HTREE := Lib.hid (tree_any HN.out hnl HT.out (by omega) htx)
      clear htx HSH
      go_wp2_with fail
      refine HKK.out _ _ ?_
      clear HKK
      go_wp2_with fail
      refine HTREE.out.mono ?_
      rintro _ V ⟨v, l, rfl, hR, hm, hl4, hl16⟩
      have HB := Lib.hid hR.below
      have hNI := hR.xin encNd_ok
      obtain ⟨A, vc, rfl⟩ := hR.form
      have hne : l ≠ [] := by intro e; rw [e] at hm; cases hm
      have hl0 : 0 < l.length := List.length_pos_iff.2 hne
      obtain ⟨g, rfl, -, -, -, -⟩ := hR.at encNd_ok 0 (l[0]) (List.getElem?_eq_getElem hl0)
      have HR := Lib.hid hR
      have HL4 := Lib.hid hl4
      clear hR hl4 HTREE
      have HE : Hid (NR V (V.alloc (.cells #[] 37)) (.slice (some ⟨V.heap.size, 0, none⟩) 0 0) []) := Lib.hid (nr_lit (Below.refl _ V) [] (by simp))
      have HCL := Lib.hid (row_cells (HR.out.on ((Below.refl _ V).alloc (Nat.le_refl _) (.cells #[] 37))))
      have hlen3 := encNd_ok.length l
      have HONE := Lib.hid (encNd_ok.cells l)
      obtain ⟨k, hk⟩ : ∃ k, at_ % l.length = k := ⟨_, rfl⟩
      have hkl : k < l.length := by rw [← hk]; exact Nat.mod_lt _ hl0
      have hw1 : IntKind.i64.wrap (at_ : Int) = (at_ : Int) := IntWalk.i64_in _ (by omega)
      have hr1 : ((at_ : Int)).tmod (l.length : Int) = (k : Int) := by rw [Int.tmod_eq_emod_of_nonneg (by omega), ← hk]; rfl
      have hz1 : ¬ ((l.length : Int) = 0) := by omega
      obtain ⟨q, hq⟩ : ∃ q, wh % 4 = q := ⟨_, rfl⟩
      have hr2 : ((wh : Int)).tmod 4 = (q : Int) := by rw [Int.tmod_eq_emod_of_nonneg (by omega), ← hq]; rfl
      have hq4 : q ≤ 3 := by omega
      clear hk hq
      have HL3 := Lib.hid hlen3
      clear hlen3
      go_upto_block 2 with (at_builtin; go_loud (refine wpList_appendAt rfl _ _ 25 37 rfl Try.underlying25 _ 3 40 info37 rfl (.slice (some ⟨V.heap.size, 0, none⟩) 0 0) 0 (flatX encNd []) (flatX encNd l) l.length rfl HE.out.row ⟨g, 0, none⟩ vc rfl HCL.out HL3.out HONE.out (by omega) (.inl hl0) (by omega) (by omega) ?_); intro v2 w1 hrow1 hg1 hown1 hnl1; clear hnl1; have HU := Lib.hid (HE.out.app l hg1 hrow1 hown1); rw [List.nil_append] at HU; clear hrow1 hg1 hown1; obtain ⟨A2, c2, rfl⟩ := HU.out.form)
      go_cut [11] (fun u wc => ∃ m : List Nd, Hid (NR V wc u m) ∧ m.length ≤ 16 ∧ Hid (Mid m))
      case first =>
        obtain ⟨⟨p, kd, d⟩, hx⟩ : ∃ x, l[k]? = some x := ⟨_, List.getElem?_eq_getElem hkl⟩
        obtain ⟨g2, rfl, hg2, hh2, hc, hfz⟩ := HU.out.at encNd_ok k _ hx
        have y0 : w1.cell? ⟨g2, k * 3, none⟩ = some (strV p) := by simpa [encNd] using hc 0 (by omega)
        have y1 : w1.cell? ⟨g2, k * 3 + 1, none⟩ = some (.int .i64 kd) := by simpa [encNd] using hc 1 (by omega)
        have y2 : w1.cell? ⟨g2, k * 3 + 2, none⟩ = some (strV d) := by simpa [encNd] using hc 2 (by omega)
        have f0 := hfz (k * 3)
        have f1 := hfz (k * 3 + 1)
        have f2 := hfz (k * 3 + 2)
        have hkd := may_kind hm (p, kd, d) (List.mem_of_getElem? hx)
        have hsz := HL4.out (p, kd, d) (List.mem_of_getElem? hx)
        have hcap := HU.out.cap.1
        dsimp only at hkd hsz
        obtain ⟨e, he⟩ : ∃ e, kd.tmod 2 = e := ⟨_, rfl⟩
        have he2 : 0 ≤ e ∧ e ≤ 1 := by rw [← he, Int.tmod_eq_emod_of_nonneg (by omega)]; omega
        have q0123 : q = 0 ∨ q = 1 ∨ q = 2 ∨ q = 3 := by omega
        have b0 : (0 : Int) ≤ (k : Int) := by omega
        have b1 : (k : Int) < (l.length : Int) := by omega
        clear hc hfz
        rcases q0123 with rfl | rfl | rfl | rfl
        · have e1 : IntKind.i64.wrap (1 + e) = 1 + e := IntWalk.i64_in _ (by omega)
          have hP := Lib.hid (HU.out.put encNd_ok k (p, kd, d) (p, 1 + e, d) 1 (.int .i64 (1 + e)) hx (by omega) rfl)
          have hM := Lib.hid (HL4.out.set k (p, 1 + e, d) (by constructor <;> (simp; omega)))
          go_wp2_with fail
          go_meet
          exact ⟨_, hP, by rw [List.length_set]; omega, hM⟩
        · have e1 : (9223372036854775807 < List.length d + 1) = False := by simp; omega
          have hP := Lib.hid (HU.out.put encNd_ok k (p, kd, d) (p, kd, d ++ [121]) 2 (strV (d ++ [121])) hx (by omega) rfl)
          have hM := Lib.hid (HL4.out.set k (p, kd, d ++ [121]) (by constructor <;> (simp; omega)))
          go_wp2_with fail
          go_meet
          exact ⟨_, hP, by rw [List.length_set]; omega, hM⟩
        · have e1 : IntKind.i64.wrap ((k : Int) + 1) = (k : Int) + 1 := IntWalk.i64_in _ (by omega)
          have e2 : (0 : Int) ≤ (k : Int) + 1 := by omega
          have e3 : (k : Int) + 1 ≤ (c2 : Int) := by omega
          have e4 : ((k : Int) + 1).toNat = k + 1 := by omega
          have hP := Lib.hid (HU.out.take encNd_ok (k + 1) (by omega))
          have hM := Lib.hid (HL4.out.take (k + 1))
          go_wp2_with fail
          go_meet
          exact ⟨_, hP, by rw [List.length_take]; omega, hM⟩
        · by_cases hk0 : 0 < k
          · have e1 : decide ((0 : Int) < (k : Int)) = true := by simp; omega
            have e2 : (9223372036854775807 < List.length p + 1) = False := by simp; omega
            have hP := Lib.hid (HU.out.put encNd_ok k (p, kd, d) (p ++ [113], kd, d) 0 (strV (p ++ [113])) hx (by omega) rfl)
            have hM := Lib.hid (HL4.out.set k (p ++ [113], kd, d) (by constructor <;> (simp; omega)))
            go_wp2_with fail
            go_meet
            exact ⟨_, hP, by rw [List.length_set]; omega, hM⟩
          · have e1 : decide ((0 : Int) < (k : Int)) = false := by simp; omega
            have hM := Lib.hid HL4.out.mid
            go_wp2_with fail
            go_meet
            exact ⟨l, HU, by omega, hM⟩
      case rest =>
        obtain ⟨m, HM, hm16, HMD⟩ := hcut
        clear HU HE HCL HONE HL3 hr1 hr2 hw1 hz1
        obtain ⟨A3, c3, rfl⟩ := HM.out.form
        have HLN := Lib.hid fun U (hU : Below wc.heap.size wc U) => (HR.out.on (HM.out.below.trans (hU.mono HM.out.below.size))).xin encNd_ok
        have HMN := Lib.hid fun U (hU : Below wc.heap.size wc U) => (HM.out.on hU).xin encNd_ok
        have HBC := Lib.hid (HB.out.trans (HM.out.below.mono HB.out.size))
        have hla := HL4.out.all
        have hma := HMD.out.all
        have HP1 := Lib.hid (pack_any cont_all (HLN.out wc (Below.refl _ _)) (by omega) fun x hx => (hla x hx).1)
        have HP2 := Lib.hid fun U (hU : Below wc.heap.size wc U) => pack_any cont_all (HMN.out U hU) (by omega) fun x hx => (hma x hx).1
        have HS1 := Lib.hid fun U (hU : Below wc.heap.size wc U) => same_any (HLN.out U hU) (HMN.out U hU) (by omega)
        have HS2 := Lib.hid fun U (hU : Below wc.heap.size wc U) => same_any (HLN.out U hU) (HLN.out U hU) (by omega)
        have e2 : decide (l = l) = true := by simp
        rw [e2] at HS2
        have HAB := Lib.hid fun U (hU : Below wc.heap.size wc U) => (HAW.out U).mono fun (e : Ending) w' (q : e = .returned (.bool true) ∧ Below U.heap.size U w') => (⟨q.1, hU.trans (q.2.mono hU.size)⟩ : e = .returned (.bool true) ∧ Below wc.heap.size wc w')
        have HER := Lib.hid err_any
        obtain ⟨-, p0⟩ := pack_mod hm
        have HSP := Lib.hid fun h => same_pack (l := l) (m := m) hm h
        have HMF : Hid (mayN m = false → (packL m).2 = 1) := Lib.hid fun h => by rw [packL_none h]
        have HMT : Hid (mayN m = true → (packL m).2 = 0) := Lib.hid fun h => (pack_mod h).2
        rw [p0] at HP1
        obtain ⟨S, hS⟩ : ∃ S, (packL l).1 = S := ⟨_, rfl⟩
        obtain ⟨T, hT⟩ : ∃ T, (packL m).1 = T := ⟨_, rfl⟩
        obtain ⟨F, hF⟩ : ∃ F, (packL m).2 = F := ⟨_, rfl⟩
        obtain ⟨D, hD⟩ : ∃ D, decide (l = m) = D := ⟨_, rfl⟩
        rw [hS] at HP1 HSP
        rw [hT, hF] at HP2
        rw [hT, hD] at HSP
        rw [hF] at HMF HMT
        rw [hD] at HS1
        clear hS hT hF hD hla hma p0 e2 HMD HL4
        go_wp2_with fail
        refine HP1.out.mono ?_
        rintro _ V1 ⟨rfl, hb⟩
        have HB1 := Lib.hid hb
        clear hb HP1
        go_wp2_with fail
        refine (HP2.out _ HB1.out).mono ?_
        rintro _ V2 ⟨rfl, hb⟩
        have HB2 := Lib.hid (HB1.out.trans (hb.mono HB1.out.size))
        clear hb HP2
        go_wp2_with fail
        refine (HER.out _ _).mono ?_
        rintro _ _ ⟨rfl, rfl⟩
        go_wp2_with fail
        refine (HER.out _ _).mono ?_
        rintro _ _ ⟨rfl, rfl⟩
        cases hmm : mayN m with
        | false =>
          obtain rfl : F = 1 := HMF.out hmm
          clear hmm HSP HMF HMT
          go_wp2_with fail
          refine (HS2.out _ HB2.out).mono ?_
          rintro _ V3 ⟨rfl, hb⟩
          have HB3 := Lib.hid (HB2.out.trans (hb.mono HB2.out.size))
          clear hb
          go_wp2_with fail
          refine (HAB.out _ HB3.out).mono ?_
          rintro _ V4 ⟨rfl, hb⟩
          have HB4 := Lib.hid (HBC.out.trans (hb.mono HBC.out.size))
          clear hb
          go_wp2_with fail
          exact bodyPost_ret (v := .bool true) (by simp [results, Try.results9, go_sem]) rfl ⟨rfl, HB4.out⟩
        | true =>
          obtain rfl : F = 0 := HMT.out hmm
          have hst : decide (S = T) = D := HSP.out hmm
          clear hmm HSP HMF HMT
          cases D with
          | true =>
            obtain rfl : S = T := by simpa using hst
            clear hst
            go_wp2_with fail
            refine (HS1.out _ HB2.out).mono ?_
            rintro _ V3 ⟨rfl, hb⟩
            have HB3 := Lib.hid (HB2.out.trans (hb.mono HB2.out.size))
            clear hb
            go_wp2_with fail
            refine (HS2.out _ HB3.out).mono ?_
            rintro _ V4 ⟨rfl, hb⟩
            have HB4 := Lib.hid (HB3.out.trans (hb.mono HB3.out.size))
            clear hb
            go_wp2_with fail
            refine (HAB.out _ HB4.out).mono ?_
            rintro _ V5 ⟨rfl, hb⟩
            have HB5 := Lib.hid (HBC.out.trans (hb.mono HBC.out.size))
            clear hb
            go_wp2_with fail
            exact bodyPost_ret (v := .bool true) (by simp [results, Try.results9, go_sem]) rfl ⟨rfl, HB5.out⟩
          | false =>
            have hne : ¬ S = T := by simpa using hst
            have hne2 : (S == T) = false := by simpa using hst
            go_wp2_with fail
            refine (HS1.out _ HB2.out).mono ?_
            rintro _ V3 ⟨rfl, hb⟩
            have HB3 := Lib.hid (HB2.out.trans (hb.mono HB2.out.size))
            clear hb
            go_wp2_with fail
            refine (HS2.out _ HB3.out).mono ?_
            rintro _ V4 ⟨rfl, hb⟩
            have HB4 := Lib.hid (HB3.out.trans (hb.mono HB3.out.size))
            clear hb
            go_wp2_with fail
            refine (HAB.out _ HB4.out).mono ?_
            rintro _ V5 ⟨rfl, hb⟩
            have HB5 := Lib.hid (HBC.out.trans (hb.mono HBC.out.size))
            clear hb
            go_wp2_with fail
            exact bodyPost_ret (v := .bool true) (by simp [results, Try.results9, go_sem]) rfl ⟨rfl, HB5.out⟩
theorem narTwo_row (v : Value) (l : Bs) (u : Value) (m : List Bs) (a b : Nat) (W : World) (h : BIn W v l ∧ l.length ≤ 140737488355328) (h2 : SIn W u m ∧ m.length ≤ 9223372036854775807) (ha : a < 256) (hb : b < 256) : Ret Try.prog 9 #[v, u, .int .u8 a, .int .u8 b] W (.bool true) := .of (narTwo_any a b (by omega) (by omega) h.1 h.2 h2.1 h2.2)
end Go.Proofs.Ytmlefodnbbkilaa

/- Walks: whether nodes are a tree, all of it. -/
import Derived.Test.YtmlefodnbbkilaaNa6
import Derived.Test.YtmlefodnbbkilaaOrd1
import Derived.Deep.DeepCutAuto
namespace Go.Proofs.Ytmlefodnbbkilaa
open Go.RowKit

theorem info67 : (Try.prog.info? 67).map (fun i => (i.zero, i.size, i.bytes)) = some (some (.agg #[strV [], strV []]), 2, 32) := by kernel_rfl
theorem runN_cons {op : List Lv} {p : Bs} {k2 : Int} {d2 : Bs} {L : List Nd} {pa nm la : Bs} {g : Nat} (hpn : parentN p = some (pa, nm)) (hg : op.findIdx (fun y => y.1 == pa) = g) (hgl : g < op.length) (hla : op[g]? = some (pa, la)) :
    runN op ((p, k2, d2) :: L) = if mayNameN nm = true ∧ ltB la nm = true ∧ g < 64 then runN (op.take g ++ (pa, nm) :: (if k2 = 4 then [(p, [])] else [])) L else false := by
  have e : (op.getD g ([], [])).2 = la := by rw [List.getD_eq_getElem?_getD, hla]; rfl
  simp only [runN, stepN, hpn, hg, e, hgl, true_and]
  by_cases h : mayNameN nm = true ∧ ltB la nm = true ∧ g < 64
  · rw [if_pos h, if_pos h]
  · rw [if_neg h, if_neg h]
def openN (x : Nd) : List Lv := if x.2.1 = 4 then [([], [])] else []
set_option maxRecDepth 100000 in
set_option maxHeartbeats 1000000 in
theorem may_any (hCA : ContAll) {W : World} {v : Value} {l : List Nd} (h : NIn W v l) (hl : l.length ≤ 1000000) (hp : ∀ x ∈ l, x.1.length ≤ 1000000) :
    Calls Try.prog 13 #[v] W fun e w' => e = .returned (.bool (mayN l)) ∧ Below W.heap.size W w' := by
  have HC := Lib.hid fun V (hV : Below W.heap.size W V) => containsN_any (h.on hV) hl
  have HP := Lib.hid hp
  clear hp
  obtain ⟨m, hm⟩ : ∃ m, mayN l = m := ⟨_, rfl⟩
  rw [hm]
  have HM := Lib.hid hm
  clear hm
  rcases h with ⟨rfl, rfl | ⟨a, c, rfl⟩⟩ | ⟨b, off, c, rfl, hlc, hlt, hc⟩
  · obtain rfl : m = false := HM.out.symm
    go_enter Try.func13, Try.ntmps13
    go_wp2_with fail
    exact bodyPost_ret (v := .bool false) (by simp [results, Try.results13, go_sem]) rfl ⟨rfl, Below.refl _ _⟩
  · obtain rfl : m = false := HM.out.symm
    go_enter Try.func13, Try.ntmps13
    go_wp2_with fail
    exact bodyPost_ret (v := .bool false) (by simp [results, Try.results13, go_sem]) rfl ⟨rfl, Below.refl _ _⟩
  · rcases l with _ | ⟨x, r⟩
    · obtain rfl : m = false := HM.out.symm
      go_enter Try.func13, Try.ntmps13
      go_wp2_with fail
      exact bodyPost_ret (v := .bool false) (by simp [results, Try.results13, go_sem]) rfl ⟨rfl, Below.refl _ _⟩
    · have h0 := hc 0 x rfl
      have x1 : W.cell? ⟨b, off, none⟩ = some (strV x.1) := by simpa [encNd] using h0 0 (by omega)
      have x2 : W.cell? ⟨b, off + 1, none⟩ = some (.int .i64 x.2.1) := by simpa [encNd] using h0 1 (by omega)
      have hcr : ∀ j y, r[j]? = some y → W.cell? ⟨b, off + 3 + j * 3, none⟩ = some (strV y.1) ∧ W.cell? ⟨b, off + 3 + j * 3 + 1, none⟩ = some (.int .i64 y.2.1) ∧ W.cell? ⟨b, off + 3 + j * 3 + 2, none⟩ = some (strV y.2.2) := fun j y hj => by
        have h1 := hc (j + 1) y (by simpa using hj)
        have e : off + (j + 1) * 3 = off + 3 + j * 3 := by omega
        rw [e] at h1
        exact ⟨h1 0 (by omega), h1 1 (by omega), h1 2 (by omega)⟩
      have HR := Lib.hid hcr
      clear h0 hcr hc
      simp only [List.length_cons] at hl hlc HC ⊢
      obtain ⟨n, hn⟩ : ∃ n, r.length + 1 = n := ⟨_, rfl⟩
      rw [hn] at HC hl hlc ⊢
      have HN := Lib.hid hn
      clear hn
      have d1 : decide ((n : Int) < 1) = false := by have := HN.out; simp; omega
      have d0 : 0 < n := by have := HN.out; omega
      by_cases h256 : 256 < n
      · have hm : m = false := by
          rw [← HM.out]
          have : decide (r.length < 256) = false := by have := HN.out; simp; omega
          simp only [mayN, this]
          rfl
        subst hm
        have d2 : decide (256 < (n : Int)) = true := by simp; omega
        go_enter Try.func13, Try.ntmps13
        go_wp2_with fail
        exact bodyPost_ret (v := .bool false) (by simp [results, Try.results13, go_sem]) rfl ⟨rfl, Below.refl _ _⟩
      have d2 : decide (256 < (n : Int)) = false := by simp; omega
      obtain ⟨p, k, d⟩ := x
      dsimp only at x1 x2
      by_cases hp0 : p = []
      case neg =>
        have hm : m = false := by
          rw [← HM.out]
          have : p.isEmpty = false := by cases p <;> simp_all
          simp [mayN, this]
        subst hm
        have d3 : p.isEmpty = false := by cases p <;> simp_all
        go_enter Try.func13, Try.ntmps13
        go_wp2_with fail
        exact bodyPost_ret (v := .bool false) (by simp [results, Try.results13, go_sem]) rfl ⟨rfl, Below.refl _ _⟩
      subst hp0
      obtain ⟨t, ht⟩ : ∃ t, (((([], k, d) : Nd) :: r).all mayNodeN) = t := ⟨_, rfl⟩
      rw [ht] at HC
      cases t with
      | false =>
        have hm : m = false := by
          rw [← HM.out]
          simp only [mayN, ht]
          simp
        subst hm
        have HC0 := Lib.hid (HC.out W (Below.refl _ _))
        clear HC ht
        go_enter Try.func13, Try.ntmps13
        go_wp2_with fail
        refine HC0.out.mono ?_
        rintro _ V ⟨rfl, hb⟩
        have HB := Lib.hid hb
        clear hb HC0
        go_wp2_with fail
        exact bodyPost_ret (v := .bool false) (by simp [results, Try.results13, go_sem]) rfl ⟨rfl, HB.out⟩
      | true =>
        have hm : m = runN (openN ([], k, d)) r := by
          rw [← HM.out]
          have : decide (r.length < 256) = true := by have := HN.out; simp; omega
          simp only [mayN, ht, this]
          rfl
        have HM2 := Lib.hid hm
        have HC0 := Lib.hid (HC.out W (Below.refl _ _))
        have HK4 : Hid (openN ([], k, d) = if k = 4 then [([], [])] else []) := Lib.hid rfl
        obtain ⟨op0, hop⟩ : ∃ op0, openN ([], k, d) = op0 := ⟨_, rfl⟩
        rw [hop] at HM2 HK4
        clear HC ht hm hop HM
        go_enter Try.func13, Try.ntmps13
        go_wp2_with fail
        refine HC0.out.mono ?_
        rintro _ V ⟨rfl, hb⟩
        have x3 : V.cell? ⟨b, off, none⟩ = some (strV []) := (cell_below hb hlt).trans x1
        have x4 : V.cell? ⟨b, off + 1, none⟩ = some (.int .i64 k) := (cell_below hb hlt).trans x2
        have HB := Lib.hid hb
        clear hb HC0 x1 x2
        have HL0 := Lib.hid ((XR.nil (T := 67) (k := 2) (enc := encL) W).on (HB.out.alloc HB.out.size (.cells #[strV [], strV []] 67)))
        have HNEW := Lib.hid (news_new V 67 (flatX encL [([], [])]))
        have HONE := Lib.hid (encL_ok.cells [([], [])])
        go_upto_if 32 with fail
        go_cut [3] (fun u wc => Hid (LR W wc u op0) ∧ op0.length ≤ 1)
        case first =>
          by_cases hk4 : k = 4
          · subst hk4
            go_wp2_with (at_builtin; go_loud (refine wpList_appendAt rfl _ _ 65 67 rfl Try.underlying65 _ 2 32 info67 rfl (.slice none 0 0) 0 [] (flatX encL [([], [])]) 1 rfl HL0.out.row ⟨V.heap.size, 0, none⟩ _ rfl HNEW.out rfl HONE.out (by omega) (.inl (by omega)) (by omega) (by omega) ?_); intro v2 w1 hrow1 hg1 hown1 hnl1; clear hnl1; have HU := Lib.hid (HL0.out.app [([], [])] hg1 hrow1 hown1); clear hrow1 hg1 hown1; obtain ⟨uA, uc, rfl⟩ := HU.out.form)
            go_meet
            have e : op0 = [([], [])] := HK4.out
            rw [e]
            exact ⟨HU.out, by simp⟩
          · have d4 : (k == 4) = false := by simpa using hk4
            go_wp2_with fail
            go_meet
            have e : op0 = [] := by have := HK4.out; simpa [hk4] using this
            rw [e]
            exact ⟨(XR.nil W).on HB.out, by simp⟩
        case rest =>
          obtain ⟨HU, hol⟩ := hcut
          clear HL0 HNEW HONE x3 x4 HK4 HB d0 d1 d2
          obtain ⟨uA, uc, rfl⟩ := HU.out.form
          have hrl : r.length < 256 := by have := HN.out; omega
          have s1 : (1 : Int) ≤ (n : Int) := by have := HN.out; omega
          have s2 : (n : Int) ≤ (c : Int) := by omega
          rcases r with _ | ⟨x, r⟩
          · obtain rfl : 1 = n := HN.out
            have hm : m = true := HM2.out
            subst hm
            have HBW := Lib.hid HU.out.below
            clear HR HU
            go_wp2_with fail
            all_goals
              rename_i K hK
              have HKK := Lib.hid hK
              clear hK
              go_loopw [40] (fun z wr => z = .int .i64 0 ∧ Hid (wr = wc)) (fun _ _ => 0)
              case atStart => exact ⟨rfl, rfl⟩
              case round =>
                obtain ⟨rfl, HW⟩ := hrel
                have hW := HW.out
                subst hW
                go_wp2_with fail
                refine HKK.out _ _ ?_
                go_wp2_with fail
                exact bodyPost_ret (v := .bool true) (by simp [results, Try.results13, go_sem]) rfl ⟨rfl, HBW.out⟩
          · obtain ⟨L, hL⟩ : ∃ L, x :: r = L := ⟨_, rfl⟩
            obtain ⟨n', rfl⟩ : ∃ n', n = n' + 1 := ⟨n - 1, by omega⟩
            have hn' : (x :: r).length = n' := by have := HN.out; omega
            have hc2 : c ≠ 1 := by simp at hn'; omega
            have hPL : ∀ y ∈ x :: r, y.1.length ≤ 1000000 := fun y hy => HP.out y (List.mem_cons_of_mem _ hy)
            rw [hL] at hn' HM2 HR hPL
            subst hn'
            have HPL := Lib.hid hPL
            have hLl : L.length ≤ 255 := by have := HN.out; rw [hL] at this; omega
            clear HN hL hPL HP hrl
            go_wp2_with fail
            rename_i K hK
            have HKK := Lib.hid hK
            clear hK
            go_loopw [3, 40] (fun u z wr => ∃ (q : Nat) (op : List Lv), q ≤ L.length ∧ z = .int .i64 q ∧ Hid (LR W wr u op) ∧ op.length ≤ q + 1 ∧ Hid (m = runN op (L.drop q))) (fun _ z _ => L.length - (intOf z).toNat)
            case atStart => exact ⟨0, op0, by omega, rfl, HU.out, by omega, Lib.hid (by simpa using HM2.out)⟩
            case round =>
              clear HU
              obtain ⟨q, op, hq, rfl, HU, hol, HM⟩ := hrel
              by_cases hlt2 : q < L.length
              · have hd : decide ((q : Int) < (L.length : Int)) = true := by simp; omega
                obtain ⟨y, hy⟩ : ∃ y, L[q]? = some y := ⟨_, List.getElem?_eq_getElem hlt2⟩
                have hdrop : L.drop q = y :: L.drop (q + 1) := by rw [List.drop_eq_getElem_cons hlt2, (List.getElem?_eq_some_iff.1 hy).2]
                rw [hdrop] at HM
                obtain ⟨y1, y2, y3⟩ := HR.out q y hy
                have hbw := cell_below (W := W) (W' := wr) (a := ⟨b, off + 3 + q * 3, none⟩) HU.out.below hlt
                rw [y1] at hbw
                have hbw2 := cell_below (W := W) (W' := wr) (a := ⟨b, off + 3 + q * 3 + 1, none⟩) HU.out.below hlt
                rw [y2] at hbw2
                have hbw3 := cell_below (W := W) (W' := wr) (a := ⟨b, off + 3 + q * 3 + 2, none⟩) HU.out.below hlt
                rw [y3] at hbw3
                have hpy := HPL.out y (List.mem_of_getElem? hy)
                obtain ⟨p, k2, d2⟩ := y
                dsimp only at hbw hbw2 hbw3 hpy
                have hbel : Below wr.heap.size wr (wr.alloc (.cells #[strV p, .int .i64 k2, strV d2] 37)) := (Below.refl _ wr).alloc (Nat.le_refl _) _
                have HWI := Lib.hid (within_any p (HU.out.on hbel) (by omega) hpy)
                have hnew := new_at wr (.cells #[strV p, .int .i64 k2, strV d2] 37)
                have HBEL := Lib.hid hbel
                clear y1 y2 y3 hdrop hbel hy
                obtain ⟨uA, uc, rfl⟩ := HU.out.form
                have HLT := Lib.hid HU.out.lt
                go_wp2_with fail
                refine HWI.out.mono ?_
                rintro _ V2 ⟨rfl, hb⟩
                have hbx := keeps_below hnew hb
                have HB2 := Lib.hid (HBEL.out.trans (hb.mono HBEL.out.size))
                clear hb hnew HBEL HWI hbw hbw2 hbw3
                have HU2 := Lib.hid (HU.out.on HB2.out)
                clear HU HB2
                cases hpn : parentN p with
                | none =>
                  have hw : withinN op p = (0, [], false) := by simp [withinN, hpn]
                  have hm : m = false := by rw [HM.out]; simp [runN, stepN, hpn]
                  subst hm
                  rw [hw]
                  clear hw hpn
                  go_wp2_with fail
                  exact bodyPost_ret (v := .bool false) (by simp [results, Try.results13, go_sem]) rfl ⟨rfl, HU2.out.below⟩
                | some pn =>
                  obtain ⟨pa, nm⟩ := pn
                  have hw : withinN op p = (findL op pa, nm, decide (0 ≤ findL op pa)) := by simp [withinN, hpn]
                  rw [hw]
                  clear hw
                  by_cases hfi : op.findIdx (fun y => y.1 == pa) < op.length
                  case neg =>
                    have hf : findL op pa = -1 := by unfold findL; rw [if_neg hfi]
                    have hm : m = false := by rw [HM.out]; simp only [runN, stepN, hpn]; rw [if_neg (fun h => hfi h.1)]
                    subst hm
                    rw [hf]
                    clear hf hpn hfi
                    go_wp2_with fail
                    exact bodyPost_ret (v := .bool false) (by simp [results, Try.results13, go_sem]) rfl ⟨rfl, HU2.out.below⟩
                  case pos =>
                    obtain ⟨g, hg⟩ : ∃ g, op.findIdx (fun y => y.1 == pa) = g := ⟨_, rfl⟩
                    have hf : findL op pa = (g : Int) := by unfold findL; rw [if_pos hfi, hg]
                    have hx0 : (op[g]?).map (·.1) = some pa := by
                      have h1 := List.findIdx_getElem (xs := op) (p := fun y => y.1 == pa) (w := hfi)
                      rw [List.getElem?_eq_getElem (by omega)]
                      simp only [hg] at h1
                      simp only [Option.map_some]
                      exact congrArg some (beq_iff_eq.1 h1)
                    obtain ⟨la, hla⟩ : ∃ la, op[g]? = some (pa, la) := by
                      cases ho : op[g]? with
                      | none => rw [ho] at hx0; cases hx0
                      | some z =>
                        rw [ho] at hx0
                        simp only [Option.map_some, Option.some.injEq] at hx0
                        exact ⟨z.2, by rw [← hx0]⟩
                    have hstep : m = if mayNameN nm = true ∧ ltB la nm = true ∧ g < 64 then runN (op.take g ++ (pa, nm) :: (if k2 = 4 then [(p, [])] else [])) (L.drop (q + 1)) else false := by rw [HM.out]; exact runN_cons hpn hg (by omega) hla
                    have hnl : nm.length ≤ 1000000 := by
                      have h1 := (join_parent hpn).1
                      unfold joinP at h1
                      split at h1
                      · rw [← h1]; exact hpy
                      · have := congrArg List.length h1
                        simp at this
                        omega
                    rw [hf]
                    have HST := Lib.hid hstep
                    have hgl : g < op.length := by omega
                    have hd0 : decide ((0 : Int) ≤ (g : Int)) = true := by simp
                    have HMN := Lib.hid (mayName_any hCA nm V2 hnl)
                    clear hf hpn hfi hg hx0 hstep HM
                    go_wp2_with fail
                    refine HMN.out.mono ?_
                    rintro _ V3 ⟨rfl, hb⟩
                    have hbx2 := keeps_below hbx hb
                    have HU3 := Lib.hid (HU2.out.on hb)
                    clear hb hbx HU2 HMN
                    obtain ⟨t, ht⟩ : ∃ t, mayNameN nm = t := ⟨_, rfl⟩
                    rw [ht] at HST ⊢
                    clear ht
                    cases t with
                    | false =>
                      have hm : m = false := by rw [HST.out]; simp
                      subst hm
                      clear HST
                      go_wp2_with fail
                      exact bodyPost_ret (v := .bool false) (by simp [results, Try.results13, go_sem]) rfl ⟨rfl, HU3.out.below⟩
                    | true =>
                      obtain ⟨gb, rfl, -, g1, g2, g3, g4⟩ := lr_at HU3.out g _ hla
                      dsimp only at g2 g3
                      have hcap := HU3.out.cap.1
                      have i1 : (0 : Int) ≤ (g : Int) + 1 := by omega
                      have i2 : (g : Int) + 1 ≤ (uc : Int) := by omega
                      obtain ⟨t2, ht2⟩ : ∃ t2, ltB la nm = t2 := ⟨_, rfl⟩
                      rw [ht2] at HST
                      by_cases h64 : t2 = true ∧ g < 64
                      case neg =>
                        have hm : m = false := by rw [HST.out, if_neg (fun h => h64 h.2)]
                        subst hm
                        have HH := Lib.hid h64
                        clear HST h64
                        cases t2 with
                        | false =>
                          go_wp2_with fail
                          exact bodyPost_ret (v := .bool false) (by simp [results, Try.results13, go_sem]) rfl ⟨rfl, HU3.out.below⟩
                        | true =>
                          have hg64 : decide ((64 : Int) ≤ (g : Int)) = true := by
                            have := HH.out
                            simp at this ⊢
                            omega
                          go_wp2_with fail
                          exact bodyPost_ret (v := .bool false) (by simp [results, Try.results13, go_sem]) rfl ⟨rfl, HU3.out.below⟩
                      case pos =>
                        obtain ⟨rfl, h64⟩ := h64
                        have hg64 : decide ((64 : Int) ≤ (g : Int)) = false := by simp; omega
                        have hbn : wr.heap.size ≠ gb := fun e => by have := HLT.out gb rfl; omega
                        have hst : m = runN (op.take g ++ (pa, nm) :: (if k2 = 4 then [(p, [])] else [])) (L.drop (q + 1)) := by rw [HST.out, if_pos ⟨rfl, rfl, h64⟩]
                        have hu4 := (HU3.out.take encL_ok (g + 1) (by omega)).put encL_ok g (pa, la) (pa, nm) 1 (strV nm) (by rw [List.getElem?_take, if_pos (by omega)]; exact hla) (by omega) rfl
                        have hl4 : (op.take (g + 1)).set g (pa, nm) = op.take g ++ [(pa, nm)] := by
                          rw [List.take_succ_eq_append_getElem hgl, List.set_append_right _ _ (by simp; omega)]
                          simp [Nat.min_eq_left (Nat.le_of_lt hgl)]
                        rw [hl4] at hu4
                        have hb4 := (setCell_other V3 gb (g * 2 + 1) wr.heap.size (strV nm) hbn).trans hbx2
                        have c0 : (V3.setCell ⟨gb, g * 2 + 1, none⟩ (strV nm)).cell? ⟨wr.heap.size, 0, none⟩ = some (strV p) := by simp [World.cell?, hb4]
                        have c1 : (V3.setCell ⟨gb, g * 2 + 1, none⟩ (strV nm)).cell? ⟨wr.heap.size, 1, none⟩ = some (.int .i64 k2) := by simp [World.cell?, hb4]
                        have hle4 : (op.take g ++ [(pa, nm)]).length ≤ q + 2 := by simp; omega
                        have HU4 := Lib.hid hu4
                        have HST4 := Lib.hid hst
                        have HL4 : Hid ((op.take g ++ [(pa, nm)]).length = g + 1) := Lib.hid (by simp; omega)
                        clear hst hu4 hl4 hb4 HST HU3 h64 hbx2 hla hbn HLT
                        by_cases hk4 : k2 = 4
                        · subst hk4
                          rw [if_pos rfl] at HST4
                          obtain ⟨V4, hV4⟩ : ∃ V4, V3.setCell ⟨gb, g * 2 + 1, none⟩ (strV nm) = V4 := ⟨_, rfl⟩
                          have hsz4 : V4.heap.size = V3.heap.size := by rw [← hV4]; exact setCell_size _ _ _
                          have HU5 := Lib.hid (HU4.out.on ((Below.refl _ _).alloc (Nat.le_refl _) (.cells #[strV p, strV []] 67)))
                          rw [hV4] at HU5 c0 c1
                          have HNEW := Lib.hid (news_new V4 67 (flatX encL [(p, [])]))
                          rw [hsz4] at HNEW
                          have HONE := Lib.hid (encL_ok.cells [(p, [])])
                          have HL4 := HL4
                          obtain ⟨O, hO⟩ : ∃ O, op.take g ++ [(pa, nm)] = O := ⟨_, rfl⟩
                          rw [hO] at HL4 HU5 hle4
                          have HST5 : Hid (m = runN (O ++ [(p, [])]) (L.drop (q + 1))) := Lib.hid (by rw [← hO]; simpa using HST4.out)
                          have hOl : g + 1 = O.length := HL4.out.symm
                          rw [hOl] at HU5
                          clear hO HST4 HU4 HL4 hcap
                          go_wp2_with (at_builtin; go_loud (refine wpList_appendAt rfl _ _ 65 67 rfl Try.underlying65 _ 2 32 info67 rfl (.slice (some ⟨gb, 0, none⟩) O.length uc) O.length (flatX encL O) (flatX encL [(p, [])]) 1 rfl HU5.out.row ⟨V3.heap.size, 0, none⟩ _ rfl HNEW.out rfl HONE.out (by omega) (.inl (by omega)) (by omega) (by omega) ?_); intro v2 w1 hrow1 hg1 hown1 hnl1; clear hnl1; have HU := Lib.hid (HU5.out.app [(p, [])] hg1 hrow1 hown1); clear hrow1 hg1 hown1; obtain ⟨u2A, u2c, rfl⟩ := HU.out.form)
                          go_roundw
                          case rel => exact ⟨q + 1, O ++ [(p, [])], by omega, by go_num, by simpa using HU, by simp; omega, HST5⟩
                          case measure => simp [intOf]; omega
                        · have hk5 : (k2 == 4) = false := by simpa using hk4
                          rw [if_neg hk4] at HST4
                          go_wp2_with fail
                          go_roundw
                          case rel => exact ⟨q + 1, _, by omega, by go_num, HU4, by omega, HST4⟩
                          case measure => simp [intOf]; omega
              · obtain rfl : q = L.length := by omega
                have hd : decide ((L.length : Int) < (L.length : Int)) = false := by simp
                have hm : m = true := by rw [HM.out]; simp [runN]
                subst hm
                go_wp2_with fail
                refine HKK.out _ _ ?_
                go_wp2_with fail
                exact bodyPost_ret (v := .bool true) (by simp [results, Try.results13, go_sem]) rfl ⟨rfl, HU.out.below⟩
end Go.Proofs.Ytmlefodnbbkilaa

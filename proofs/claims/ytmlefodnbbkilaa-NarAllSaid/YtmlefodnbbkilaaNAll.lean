/- Walks: NarAll. -/
import Derived.Test.YtmlefodnbbkilaaRn8
import Derived.Test.YtmlefodnbbkilaaRn9
import Derived.Test.YtmlefodnbbkilaaWordF
import Derived.Test.YtmlefodnbbkilaaLaw0
import Derived.Test.YtmlefodnbbkilaaRune2
namespace Go.Proofs.Ytmlefodnbbkilaa
open Go.RowKit

set_option maxRecDepth 100000 in
set_option maxHeartbeats 2000000 in
theorem narAll_any {W : World} {v u : Value} {l m : List Nd} (s : Bs) (n : Int) (h : NIn W v l) (h2 : NIn W u m) (hl : l.length ≤ 9223372036854775807) (hm : m.length ≤ 9223372036854775807) (hn : n ≤ 9223372036854775807) :
    Calls Try.prog 8 #[v, u, strV s, .int .i64 n] W fun e w' => e = .returned (.bool true) ∧ Below W.heap.size W w' := by
  have HAW := Lib.hid awake_any
  have HV1 := Lib.hid (heavy_any h hl)
  have HV2 := Lib.hid fun V (hV : Below W.heap.size W V) => heavy_any (h2.on hV) hm
  have HL := Lib.hid h
  have HM := Lib.hid h2
  clear h h2 hl hm
  go_enter Try.func8, Try.ntmps8
  go_wp2_with fail
  refine HV1.out.mono ?_
  rintro _ V ⟨b1, rfl, hb1, hb⟩
  have HB := Lib.hid hb
  clear hb HV1
  cases b1 with
  | true =>
    go_wp2_with fail
    refine (HAW.out _).mono ?_
    rintro _ V2 ⟨rfl, hb⟩
    have HB2 := Lib.hid (HB.out.trans (hb.mono HB.out.size))
    clear hb
    go_wp2_with fail
    exact bodyPost_ret (v := .bool true) (by simp [results, Try.results8, go_sem]) rfl ⟨rfl, HB2.out⟩
  | false =>
    have hlt1 := hb1 rfl
    clear hb1
    go_wp2_with fail
    refine (HV2.out _ HB.out).mono ?_
    rintro _ V2 ⟨b2, rfl, hb2, hb⟩
    have HB2 := Lib.hid (HB.out.trans (hb.mono HB.out.size))
    clear hb HV2
    cases b2 with
    | true =>
      go_wp2_with fail
      refine (HAW.out _).mono ?_
      rintro _ V3 ⟨rfl, hb⟩
      have HB3 := Lib.hid (HB2.out.trans (hb.mono HB2.out.size))
      clear hb
      go_wp2_with fail
      exact bodyPost_ret (v := .bool true) (by simp [results, Try.results8, go_sem]) rfl ⟨rfl, HB3.out⟩
    | false =>
      have hlt2 := hb2 rfl
      clear hb2
      by_cases h400 : 400 < s.length
      · have hd : decide ((400 : Int) < (s.length : Int)) = true := by simp; omega
        go_wp2_with fail
        refine (HAW.out _).mono ?_
        rintro _ V3 ⟨rfl, hb⟩
        have HB3 := Lib.hid (HB2.out.trans (hb.mono HB2.out.size))
        clear hb
        go_wp2_with fail
        exact bodyPost_ret (v := .bool true) (by simp [results, Try.results8, go_sem]) rfl ⟨rfl, HB3.out⟩
      · have hd : decide ((400 : Int) < (s.length : Int)) = false := by simp; omega
        have hpl : ∀ x ∈ l, x.1.length ≤ 1000000 ∧ x.2.2.length ≤ 1000000 := fun x hx => by have := hlt1.2 x hx; omega
        have hll := hlt1.1
        have HPK := Lib.hid (pack_any cont_all (HL.out.on HB2.out) (by omega) fun x hx => (hpl x hx).1)
        have HPR := Lib.hid fun U (hU : Below W.heap.size W U) => packR_any (HL.out.on hU) (by omega) hpl
        have HMY := Lib.hid fun U (hU : Below W.heap.size W U) => may_any cont_all (HL.out.on hU) (by omega) fun x hx => (hpl x hx).1
        have HMR := Lib.hid fun U (hU : Below W.heap.size W U) => mayR_any (HL.out.on hU) (by omega) hpl
        rw [mayR_eq] at HMR
        have HNM := Lib.hid fun U => mayName_any cont_all s U (by omega)
        have HNR := Lib.hid fun U => mayNameR_any s U (by omega)
        have HWD := Lib.hid fun U => wordF_any n U hn
        have HWR := Lib.hid fun U => wordRF_any n U hn
        have HST := Lib.hid fun U => str_any s U (by omega)
        have HSR := Lib.hid fun U => strR_any s U (by omega)
        have HSM := Lib.hid fun U (hU : Below W.heap.size W U) => same_any (HL.out.on hU) (HM.out.on hU) (by omega)
        have HSQ := Lib.hid fun U (hU : Below W.heap.size W U) => same26_any (HL.out.on hU) (HM.out.on hU) (by omega)
        obtain ⟨PS, hPS⟩ : ∃ x, (packL l).1 = x := ⟨_, rfl⟩
        obtain ⟨PE, hPE⟩ : ∃ x, (packL l).2 = x := ⟨_, rfl⟩
        obtain ⟨MY, hMY⟩ : ∃ x, mayN l = x := ⟨_, rfl⟩
        obtain ⟨MN, hMN⟩ : ∃ x, mayNameN s = x := ⟨_, rfl⟩
        obtain ⟨WN, hWN⟩ : ∃ x, wordN n.toNat = x := ⟨_, rfl⟩
        obtain ⟨SN, hSN⟩ : ∃ x, strN s = x := ⟨_, rfl⟩
        obtain ⟨SM, hSM⟩ : ∃ x, decide (l = m) = x := ⟨_, rfl⟩
        rw [hPS, hPE] at HPK HPR
        rw [hMY] at HMY HMR
        rw [hMN] at HNM HNR
        rw [hWN] at HWD HWR
        rw [hSN] at HST HSR
        rw [hSM] at HSM HSQ
        clear hPS hPE hMY hMN hWN hSN hSM hlt1 hlt2 hpl
        go_wp2_with fail
        refine HPK.out.mono ?_
        rintro _ V3 ⟨rfl, hb⟩
        have HB3 := Lib.hid (HB2.out.trans (hb.mono HB2.out.size))
        clear hb HPK
        go_wp2_with fail
        refine (HPR.out _ HB3.out).mono ?_
        rintro _ V4 ⟨rfl, hb⟩
        have HB4 := Lib.hid (HB3.out.trans (hb.mono HB3.out.size))
        clear hb HPR
        obtain ⟨V5, hV5⟩ : ∃ V5, V4.alloc (.cells #[strV PS, .int .i64 PE] 33) = V5 := ⟨_, rfl⟩
        have hbx : V5.heap[V4.heap.size]? = some (.cells #[strV PS, .int .i64 PE] 33) := by rw [← hV5]; exact new_at V4 _
        have hb5 : Below W.heap.size W V5 := by rw [← hV5]; exact HB4.out.alloc HB4.out.size _
        obtain ⟨P, hPd⟩ : ∃ P : World → Prop, P = fun U => Below W.heap.size W U ∧ U.heap[V4.heap.size]? = some (.cells #[strV PS, .int .i64 PE] 33) := ⟨_, rfl⟩
        have hPT : ∀ U U', P U → Below U.heap.size U U' → P U' := fun U U' h hb => by
          subst hPd
          exact ⟨h.1.trans (hb.mono h.1.size), keeps_below h.2 hb⟩
        have HP0 : Hid (P V5.drew) := Lib.hid (by subst hPd; exact ⟨hb5.drew, hbx⟩)
        have HPB : Hid (∀ U, P U → Below W.heap.size W U) := Lib.hid (by subst hPd; exact fun U h => h.1)
        have HPC : Hid (∀ U, P U → U.cell? ⟨V4.heap.size, 0, none⟩ = some (strV PS) ∧ U.cell? ⟨V4.heap.size, 1, none⟩ = some (.int .i64 PE)) := Lib.hid (by subst hPd; exact fun U h => let q := cellsS h.2; ⟨q.1, q.2.1⟩)
        have K13 : Hid (∀ U, P U → Calls Try.prog 13 #[v] U fun e w' => e = .returned (.bool MY) ∧ P w') := Lib.hid fun U h => (HMY.out U (HPB.out U h)).mono fun _ _ q => ⟨q.1, hPT _ _ h q.2⟩
        have K20 : Hid (∀ U, P U → Calls Try.prog 20 #[v] U fun e w' => e = .returned (.bool MY) ∧ P w') := Lib.hid fun U h => (HMR.out U (HPB.out U h)).mono fun _ _ q => ⟨q.1, hPT _ _ h q.2⟩
        have K21 : Hid (∀ U, P U → Calls Try.prog 21 #[strV s] U fun e w' => e = .returned (.bool MN) ∧ P w') := Lib.hid fun U h => (HNM.out U).mono fun _ _ q => ⟨q.1, hPT _ _ h q.2⟩
        have K22 : Hid (∀ U, P U → Calls Try.prog 22 #[strV s] U fun e w' => e = .returned (.bool MN) ∧ P w') := Lib.hid fun U h => (HNR.out U).mono fun _ _ q => ⟨q.1, q.2 ▸ h⟩
        have K18 : Hid (∀ U, P U → Calls Try.prog 18 #[.int .i64 n] U fun e w' => e = .returned (strV WN) ∧ P w') := Lib.hid fun U h => (HWD.out U).mono fun _ _ q => ⟨q.1, hPT _ _ h q.2⟩
        have K23 : Hid (∀ U, P U → Calls Try.prog 23 #[.int .i64 n] U fun e w' => e = .returned (strV WN) ∧ P w') := Lib.hid fun U h => (HWR.out U).mono fun _ _ q => ⟨q.1, hPT _ _ h q.2⟩
        have K17 : Hid (∀ U, P U → Calls Try.prog 17 #[strV s] U fun e w' => e = .returned (strV SN) ∧ P w') := Lib.hid fun U h => (HST.out U).mono fun _ _ q => ⟨q.1, hPT _ _ h q.2⟩
        have K24 : Hid (∀ U, P U → Calls Try.prog 24 #[strV s] U fun e w' => e = .returned (strV SN) ∧ P w') := Lib.hid fun U h => (HSR.out U).mono fun _ _ q => ⟨q.1, hPT _ _ h q.2⟩
        have K25 : Hid (∀ U, P U → Calls Try.prog 25 #[v, u] U fun e w' => e = .returned (.bool SM) ∧ P w') := Lib.hid fun U h => (HSM.out U (HPB.out U h)).mono fun _ _ q => ⟨q.1, hPT _ _ h q.2⟩
        have K26 : Hid (∀ U, P U → Calls Try.prog 26 #[v, u] U fun e w' => e = .returned (.bool SM) ∧ P w') := Lib.hid fun U h => (HSQ.out U (HPB.out U h)).mono fun _ _ q => ⟨q.1, hPT _ _ h q.2⟩
        have K10 : Hid (∀ U, P U → Calls Try.prog 10 #[] U fun e w' => e = .returned (.bool true) ∧ P w') := Lib.hid fun U h => (HAW.out U).mono fun _ _ q => ⟨q.1, hPT _ _ h q.2⟩
        have K14 : Hid (∀ U, P U → Calls Try.prog 14 #[.int .i64 PE] U fun e w' => e = .returned (.int .i64 PE) ∧ P w') := Lib.hid fun U h => (err_any PE U).mono fun _ _ q => ⟨q.1, q.2 ▸ h⟩
        have hst : has V5 V4.heap.size := has_box hbx
        clear hbx hb5 hPd hPT HMY HMR HNM HNR HWD HWR HST HSR HSM HSQ HAW HB HB2 HB3 HB4 HL HM
        go_wp2_with fail
        have hp0 := HP0.out
        go_region_held3 (fun w' => w'.cell? ⟨V4.heap.size, 0, none⟩ = some (strV PS) ∧ w'.cell? ⟨V4.heap.size, 1, none⟩ = some (.int .i64 PE)) (first | exact HPC.out _ (by assumption) | go_keep)
          (first
            | (go_at_call 13; with_reducible refine (K13.out _ (by assumption)).mono ?_; rintro _ U ⟨rfl, hp⟩)
            | (go_at_call 20; with_reducible refine (K20.out _ (by assumption)).mono ?_; rintro _ U ⟨rfl, hp⟩)
            | (go_at_call 14; with_reducible refine (K14.out _ (by assumption)).mono ?_; rintro _ U ⟨rfl, hp⟩)
            | (go_at_call 21; with_reducible refine (K21.out _ (by assumption)).mono ?_; rintro _ U ⟨rfl, hp⟩)
            | (go_at_call 22; with_reducible refine (K22.out _ (by assumption)).mono ?_; rintro _ U ⟨rfl, hp⟩)
            | (go_at_call 18; with_reducible refine (K18.out _ (by assumption)).mono ?_; rintro _ U ⟨rfl, hp⟩)
            | (go_at_call 23; with_reducible refine (K23.out _ (by assumption)).mono ?_; rintro _ U ⟨rfl, hp⟩)
            | (go_at_call 17; with_reducible refine (K17.out _ (by assumption)).mono ?_; rintro _ U ⟨rfl, hp⟩)
            | (go_at_call 24; with_reducible refine (K24.out _ (by assumption)).mono ?_; rintro _ U ⟨rfl, hp⟩)
            | (go_at_call 25; with_reducible refine (K25.out _ (by assumption)).mono ?_; rintro _ U ⟨rfl, hp⟩)
            | (go_at_call 26; with_reducible refine (K26.out _ (by assumption)).mono ?_; rintro _ U ⟨rfl, hp⟩)
            | (go_at_call 10; with_reducible refine (K10.out _ (by assumption)).mono ?_; rintro _ U ⟨rfl, hp⟩))
        have HPF := Lib.hid (HPB.out U (by assumption))
        clear K13 K20 K14 K21 K22 K18 K23 K17 K24 K25 K26 K10 HPC HPB HP0
        go_wp2_with fail
        exact bodyPost_ret (v := .bool true) (by simp [results, Try.results8, go_sem]) rfl ⟨rfl, HPF.out⟩
end Go.Proofs.Ytmlefodnbbkilaa

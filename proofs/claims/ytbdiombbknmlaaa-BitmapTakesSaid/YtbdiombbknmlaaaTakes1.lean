/- BitmapTakes: the walk of the law's own function. -/
import Derived.Test.YtbdiombbknmlaaaPureTakes
import Derived.Test.YtbdiombbknmlaaaParts1
namespace Go.Proofs.Ytbdiombbknmlaaa
open Go.RowKit

theorem fold_pos : ∀ (l : List Run) (s : List Run × Int), (∀ x ∈ l, 1 ≤ x.2) → (∀ x ∈ s.1, 1 ≤ x.2) → ∀ x ∈ (l.foldl stepT s).1, 1 ≤ x.2
  | [], s, _, hs => hs
  | y :: l, s, h, hs => by
    refine fold_pos l (stepT s y) (fun z hz => h z (List.mem_cons_of_mem _ hz)) fun z hz => ?_
    have hy := h y (by simp)
    by_cases h1 : s.2 < 1
    · have e1 : stepT s y = s := if_pos h1
      rw [e1] at hz
      exact hs z hz
    · have e1 : stepT s y = (s.1 ++ [(y.1, min s.2 y.2)], s.2 - min s.2 y.2) := if_neg h1
      rw [e1] at hz
      rcases List.mem_append.1 hz with h2 | h2
      · exact hs z h2
      · simp only [List.mem_singleton] at h2
        subst h2
        simp only
        omega
theorem took_small {U FL : List Run} (h : Free 0 300 U FL) (n : Nat) : ∀ x ∈ (takeS FL n).1, 1 ≤ x.2 ∧ 0 ≤ x.1 ∧ x.1 + x.2 ≤ 300 := by
  intro x hx
  have hp : ∀ x ∈ FL, 1 ≤ x.2 := fun x hx => (h.ok x hx).1
  have h1 := fold_pos FL ([], (n : Int)) hp (by simp) x hx
  have key : ∀ p, x.1 ≤ p → p < x.1 + x.2 → 0 ≤ p ∧ p < 300 := by
    intro p h2 h3
    have h4 : p ∈ placesN (takeS FL n).1 := (mem_places _ p).2 ⟨x, hx, h2, h3⟩
    rw [(take_places FL n hp).1] at h4
    obtain ⟨h5, h6, _⟩ := (h.covIn p).1 ((mem_places FL p).1 (List.mem_of_mem_take h4))
    exact ⟨h5, h6⟩
  have h2 := key x.1 (by omega) (by omega)
  have h3 := key (x.1 + x.2 - 1) (by omega) (by omega)
  omega
theorem RR.lit (W : World) : RR W (W.alloc (.cells #[] 28)) (.slice (some ⟨W.heap.size, 0, none⟩) 0 0) [] :=
  ⟨World.ownsRow_lit (base := 0) (e := 28) (size := 2) W #[] 0 (Nat.zero_le _) (by unfold maxLen; omega) rfl, (Below.refl _ W).alloc (Nat.le_refl _) _, fun k hk => by simp [Value.ownBlock] at hk; omega⟩
/-- An append of runs that lie anywhere. -/
theorem wpList_appendRuns {W : World} {ops : Array Oper} {rest : List Oper} {o : Oper} {a : Act} {Q : Exit → Act → World → Prop} (hgd : o.guard = none) (s x : Operand)
    (ho : o.op = .call { callee := .builtin .append, args := #[s, x], argTypes := #[23, 23] }) (w : World) (v : Value) (l : List Run) (hs : a.eval s = v) (hrow : RR w W v l) (hnn : v ≠ .slice none 0 0)
    (u : Value) (m : List Run) (hx : a.eval x = u) (hu : RIn W u m) (hmax : l.length + m.length ≤ 1000000)
    (h : ∀ v' w', RR w w' v' (l ++ m) → v' ≠ .slice none 0 0 → wpList Try.prog ops Q rest (a.put o.dst v') w') : wpList Try.prog ops Q (o :: rest) a W := by
  have key : ∀ (ad : Addr) (c : Nat), u = .slice (some ad) m.length c → (∀ j z, (flatR m)[j]? = some z → W.cell? (ad.add j) = some z) → wpList Try.prog ops Q (o :: rest) a W := by
    rintro ad c rfl hc
    refine wpList_appendAt hgd s x 23 28 ho Try.underlying23 _ 2 16 info28 rfl v l.length (flatR l) (flatR m) m.length hs hrow.row ad c hx hc (flatR_length m) (flatR_one m) (by omega) (.inr hnn) (by omega) (by omega) fun v' w' h1 h2 h3 h4 => ?_
    refine h v' w' ⟨by rw [List.length_append, flatR_append]; exact h1, hrow.below.trans ⟨h2.os, h2.tape, h2.output, h2.size, fun k hk => h2.block k (by have := hrow.below.size; omega) fun e => by have := hrow.own k e.symm; omega⟩, fun k hk => ?_⟩ fun e => hnn (h4.1 e).1
    rcases h3 k hk with h5 | h5
    · exact hrow.own k h5
    · have := hrow.below.size
      omega
  rcases hu with ⟨rfl, rfl | ⟨ad, c, rfl⟩⟩ | ⟨b, off, c, rfl, hb, hc⟩
  · have hi := info28
    obtain ⟨i, hi, -⟩ := info_parts hi
    refine wpList_append_own_none hgd s x 23 ho 0 28 i 2 Try.underlying23 hi v l.length (flatR l) hs hrow.row hx (h v W (by simpa using hrow) hnn)
  · exact key ad c rfl fun j z hj => by cases hj
  · exact key ⟨b, off, none⟩ c rfl (flatR_cells hc)
set_option maxRecDepth 100000 in
set_option maxHeartbeats 4000000 in
theorem takes_any (v : Value) (l : List UInt8) (n : Nat) (w : World) (hl : U8s w v l) (hn : n < 256) : Calls Try.prog 4 #[v, .int .u8 (n : Int)] w fun e w' => e = .returned (.bool true) ∧ Below w.heap.size w w' := by
  have HR := Lib.hid (runs_any v l w hl)
  obtain ⟨⟨A, c, rfl⟩, -⟩ := hl.form
  clear hl
  go_enter Try.func4, Try.ntmps4
  go_wp2_with fail
  refine HR.out.mono ?_
  rintro _ V1 ⟨uv, U, rfl, hU, hUl, hT⟩
  clear HR
  have HT := Lib.hid hT
  have hsm : Small U := fun x hx => by have := hT x hx; omega
  have HSU := Lib.hid hsm
  have HF := Lib.hid (free_any sorts_all V1 uv U 0 300 hU.rin (by omega) hsm (by omega) (by omega))
  obtain ⟨uA, uc, rfl⟩ := hU.form
  clear hT hsm
  go_wp2_with fail
  refine HF.out.mono ?_
  rintro _ V2 ⟨fv, l', rfl, hp, hs, hFv⟩
  have hlaw := free_law 0 300 U l' (by omega) hp hs
  have hlen := freeS_len (l' ++ [(max 0 300, 0)]) 0 300
  have hlen2 : l'.length ≤ U.length := by rw [hp.length_eq]; exact List.length_filter_le _ _
  obtain ⟨FL, hFL⟩ : ∃ FL, (freeS (l' ++ [(max 0 300, 0)]) 0 300).1 = FL := ⟨_, rfl⟩
  rw [hFL] at hlaw hlen hFv
  have hFLl : FL.length ≤ 100 := by simp at hlen; omega
  have HLAW := Lib.hid hlaw
  have hsF : Small FL := fun x hx => by have := hlaw.ok x hx; omega
  have hposF : ∀ x ∈ FL, 1 ≤ x.2 := fun x hx => (hlaw.ok x hx).1
  have HSF := Lib.hid hsF
  have HTK := take_any V2 fv FL n hFv.rin (by omega) (by omega)
  rw [realN_free hlaw] at HTK
  have HTAKE := Lib.hid HTK
  have hfits := fits_law FL n hposF
  have hsmL := took_small hlaw n
  have htp := (take_places FL n hposF).1
  have hbd := takeT_bound FL ([], (n : Int)) hposF
  have hmost := hlaw.most
  have hsome := hlaw.some HT.out
  have hcF := count_places FL
  clear hlen hlen2 hFL hp hs HF l' hlaw hsF hposF HTK HT
  have hU2 := hU.on hFv.below
  have hF2 : RR w V2 fv FL := ⟨hFv.row, hU2.below, fun k hk => Nat.le_trans hU.below.size (hFv.own k hk)⟩
  clear hU hFv
  obtain ⟨fA, fc, rfl⟩ := hF2.form
  have HU := Lib.hid hU2
  have HF := Lib.hid hF2
  clear hU2 hF2
  obtain ⟨q, hq⟩ : ∃ q : Nat, (placesN FL).length = q := ⟨_, rfl⟩
  rw [hq] at hmost hsome hcF
  rw [hcF] at hfits
  obtain ⟨ok, hok⟩ : ∃ ok, fitsN FL n = ok := ⟨_, rfl⟩
  obtain ⟨L, hL⟩ : ∃ L, tookN FL n = L := ⟨_, rfl⟩
  rw [hok, hL] at HTAKE
  rw [hok] at hfits
  have HOK := Lib.hid hok
  have HL := Lib.hid hL
  have HSL := Lib.hid hsmL
  have HTP := Lib.hid htp
  have HBD := Lib.hid hbd
  have HQ := Lib.hid hq
  have HFI := Lib.hid hfits
  have HCF := Lib.hid hcF
  clear hok hL hsmL htp hbd hq hfits hcF
  have HB2 := Lib.hid HU.out.below
  go_wp2_with fail
  refine HTAKE.out.mono ?_
  rintro _ V3 ⟨tv, rfl, hTv⟩
  have hU3 := HU.out.on hTv.below
  have hF3 := HF.out.on hTv.below
  have hL3 : RR w V3 tv L := ⟨hTv.row, hU3.below, fun k hk => Nat.le_trans HB2.out.size (hTv.own k hk)⟩
  clear hTv HTAKE HU HF HB2
  have HCN := Lib.hid (count_any V3 _ FL hF3.rin (by omega) HSF.out)
  rw [HCF.out] at HCN
  obtain ⟨tA, tc, rfl⟩ := hL3.form
  have HU := Lib.hid hU3
  have HF := Lib.hid hF3
  have HLL := Lib.hid hL3
  clear hU3 hF3 hL3
  go_wp2_with fail
  refine HCN.out.mono ?_
  rintro _ V4 ⟨rfl, hb4⟩
  have hU4 := HU.out.on hb4
  have hF4 := HF.out.on hb4
  have hL4 := HLL.out.on hb4
  clear hb4 HU HF HLL HCN
  have HU := Lib.hid hU4
  have HF := Lib.hid hF4
  have HLL := Lib.hid hL4
  clear hU4 hF4 hL4
  have HAW := Lib.hid (awake_any sorts_all)
  cases ok with
  | false =>
    have hd : decide ((n : Int) ≤ (q : Int)) = false := HFI.out.symm
    have hd2 : decide (n ≤ q) = false := by have := of_decide_eq_false hd; simp; omega
    have hL0 : L = [] := by rw [← HL.out]; exact took_not FL n HOK.out
    subst hL0
    have hb := HU.out.below
    rw [show ([] : List Run).length = 0 from rfl] at *
    go_wp2_with fail
    refine (HAW.out _).mono ?_
    rintro _ V9 ⟨rfl, hy⟩
    have hb9 := hb.trans (hy.mono hb.size)
    clear hb hy
    go_wp2_with fail
    exact bodyPost_ret (v := .bool true) (by simp [results, Try.results4, go_sem]) rfl ⟨rfl, hb9⟩
  | true =>
    have hd : decide ((n : Int) ≤ (q : Int)) = true := HFI.out.symm
    have hnq : n ≤ q := by have := of_decide_eq_true hd; omega
    have hd2 : decide (n ≤ q) = true := by simpa using hnq
    have hLt : L = (takeS FL n).1 := by rw [← HL.out]; exact took_fits FL n HOK.out
    have hLl : L.length ≤ 100 := by
      rw [hLt]
      have := HBD.out.2.2.2
      simp only [takeS]
      simp at this
      omega
    have hsL : Small L := fun x hx => by
      rw [hLt] at hx
      have := HSL.out x hx
      omega
    have hpl : placesN L = (placesN FL).take n := by rw [hLt]; exact HTP.out
    have hpll : (placesN L).length = n := by rw [hpl, List.length_take, HQ.out]; omega
    have HSLL := Lib.hid hsL
    have HPL := Lib.hid hpl
    have HPLL := Lib.hid hpll
    clear hLt hsL hpl hpll HOK HL HSL HTP HBD HFI
    have HLIT := Lib.hid (RR.lit V4)
    have HUA := Lib.hid (HU.out.on ((Below.refl _ V4).alloc (Nat.le_refl _) (.cells #[] 28))).rin
    have HLA := Lib.hid fun (W9 : World) (h : Below V4.heap.size V4 W9) => (HLL.out.on h).rin
    go_wp2_with (at_builtin; go_loud (first
      | (refine wpList_appendRuns rfl _ _ rfl V4 (.slice (some ⟨V4.heap.size, 0, none⟩) 0 0) [] rfl HLIT.out (by simp) _ U rfl HUA.out (by simp; omega) ?_; intro v1 w1 hr1 hn1; have HR1 := Lib.hid hr1; have HN1 := Lib.hid hn1; have HLA1 := Lib.hid (HLA.out w1 hr1.below); clear hr1 hn1)
      | (refine wpList_appendRuns rfl _ _ rfl V4 v1 ([] ++ U) rfl HR1.out HN1.out _ L rfl HLA1.out (by simp; omega) ?_; intro v2 w2 hr2 hn2; obtain ⟨A2, c2, rfl⟩ := hr2.form; have HR2 := Lib.hid hr2; clear hr2 hn2)))
    have hb2 := HR2.out.below
    have hU5 := HU.out.on hb2
    have hF5 := HF.out.on hb2
    have hL5 := HLL.out.on hb2
    clear hb2 HU HF HLL HLIT HUA HLA HLA1 HR1 HN1
    have hsml : Small (U ++ L) := fun x hx => (List.mem_append.1 hx).elim (HSU.out x) (HSLL.out x)
    have hfr := free_any sorts_all w2 _ (U ++ L) 0 300 HR2.out.rin (by simp; omega) hsml (by omega) (by omega)
    have hll : (U ++ L).length = U.length + L.length := by simp
    rw [show (([] : List Run) ++ U ++ L).length = U.length + L.length by simp] at hfr
    have HFR := Lib.hid hfr
    have HU := Lib.hid hU5
    have HF := Lib.hid hF5
    have HLL := Lib.hid hL5
    clear hU5 hF5 hL5 hsml hfr hll HR2
    refine HFR.out.mono ?_
    rintro _ V5 ⟨ev, l5, rfl, hp, hs, hEv⟩
    have hlaw := free_law 0 300 (U ++ L) l5 (by omega) hp hs
    have hlen := freeS_len (l5 ++ [(max 0 300, 0)]) 0 300
    have hlen2 : l5.length ≤ (U ++ L).length := by rw [hp.length_eq]; exact List.length_filter_le _ _
    obtain ⟨E, hE⟩ : ∃ E, (freeS (l5 ++ [(max 0 300, 0)]) 0 300).1 = E := ⟨_, rfl⟩
    rw [hE] at hlaw hlen hEv
    have hEl : E.length ≤ 1000 := by simp at hlen hlen2; omega
    have hsE : Small E := fun x hx => by have := hlaw.ok x hx; omega
    have hlft := left_places HLAW.out HPL.out hlaw
    have hcE : countN E = ((q - n : Nat) : Int) := by rw [count_places, hlft, List.length_drop, HQ.out]
    have hcE2 : countN E = (q : Int) - (n : Int) := by rw [hcE]; omega
    have hcL : countN L = (n : Int) := by rw [count_places, HPLL.out]
    have HCE := Lib.hid hcE2
    have HCL := Lib.hid hcL
    have HSE := Lib.hid hsE
    clear hlaw hlen hlen2 hE hp hs l5 hlft hcE hcE2 hcL hsE HFR
    have hU6 := HU.out.on hEv.below
    have hF6 := HF.out.on hEv.below
    have hL6 := HLL.out.on hEv.below
    have hw6 : w.heap.size ≤ V5.heap.size := hU6.below.size
    have hE6 : RR w V5 ev E := ⟨hEv.row, hU6.below, fun k hk => Nat.le_trans HU.out.below.size (hEv.own k hk)⟩
    have hsec := sectors_any w V5 _ FL hF6 (by omega) HSF.out (by rw [HQ.out]; omega)
    rw [HQ.out] at hsec
    have HSEC := Lib.hid hsec
    obtain ⟨eA, ec, rfl⟩ := hE6.form
    have HF := Lib.hid hF6
    have HLL := Lib.hid hL6
    have HEE := Lib.hid hE6
    clear hU6 hF6 hL6 hEv hE6 hsec HU
    go_wp2_with fail
    refine HSEC.out.mono ?_
    rintro _ V6 ⟨av, rfl, hav, hb6⟩
    obtain ⟨g, ac, rfl, hcap, hg6, hall⟩ := I64s.take hav HQ.out.symm hsome hnq
    have hF7 := HF.out.on hb6
    have hL7 := HLL.out.on hb6
    have hE7 := HEE.out.on hb6
    have hsec := sectors_any w V6 _ L hL7 (by omega) HSLL.out (by rw [HPLL.out]; omega)
    rw [HPLL.out] at hsec
    have HSEC2 := Lib.hid hsec
    have HALL := Lib.hid hall
    have HF := Lib.hid hF7
    have HLL := Lib.hid hL7
    have HEE := Lib.hid hE7
    clear hF7 hL7 hE7 hsec HSEC hav hb6 hall hg6
    go_wp2_with fail
    refine HSEC2.out.mono ?_
    rintro _ V7 ⟨sv, rfl, hsv, hb7⟩
    have hsm := I64s.all hsv HPLL.out.symm
    have hall := HALL.out.on hb7
    rw [← HPL.out] at hall
    have hF8 := HF.out.on hb7
    have hL8 := HLL.out.on hb7
    have hE8 := HEE.out.on hb7
    have hbb := hF8.below
    have HBB := Lib.hid hbb
    have hcl := count_any V7 _ L hL8.rin (by omega) HSLL.out
    rw [HCL.out] at hcl
    have HCLC := Lib.hid hcl
    have hform := ownsRow_form hsv
    obtain ⟨sA, sc, rfl⟩ := hform
    have HSM := Lib.hid hsm
    have HALL := Lib.hid hall
    have HF := Lib.hid hF8
    have HEE := Lib.hid hE8
    clear hF8 hL8 hE8 hbb hcl hsv hb7 hsm hall HLL HSEC2
    have hmin1 : (if (n : Int) < (q : Int) then (n : Int) else (q : Int)) = (n : Int) := by split <;> omega
    have hmin2 : min (q : Int) (n : Int) = (n : Int) := by omega
    have hncap : n ≤ ac := by omega
    go_wp2_with fail
    refine HCLC.out.mono ?_
    rintro _ V8 ⟨rfl, hb8⟩
    have hF9 := HF.out.on hb8
    have hE9 := HEE.out.on hb8
    have HINT := Lib.hid (ints_any V8 _ _ _ (HSM.out.on hb8) (HALL.out.on hb8) (by rw [HPLL.out]; omega))
    have HF := Lib.hid hF9
    have HEE := Lib.hid hE9
    clear hF9 hE9 hb8 HCLC HSM HALL
    go_wp2_with fail
    refine HINT.out.mono ?_
    rintro _ V9 ⟨rfl, hb9⟩
    have hF10 := HF.out.on hb9
    have hE10 := HEE.out.on hb9
    have hce := count_any V9 _ E hE10.rin (by omega) HSE.out
    rw [HCE.out] at hce
    have HCEC := Lib.hid hce
    have HF := Lib.hid hF10
    clear hF10 hE10 hb9 hce HINT HEE
    go_wp2_with fail
    refine HCEC.out.mono ?_
    rintro _ V10 ⟨rfl, hb10⟩
    have hF11 := HF.out.on hb10
    have hcf := count_any V10 _ FL hF11.rin (by omega) HSF.out
    rw [HCF.out] at hcf
    have HCFC := Lib.hid hcf
    have HF := Lib.hid hF11
    clear hF11 hb10 hcf HCEC
    have w1 : IntKind.i64.wrap ((q : Int) - (n : Int)) = (q : Int) - (n : Int) := IntWalk.i64_in _ (by omega)
    go_wp2_with fail
    refine HCFC.out.mono ?_
    rintro _ V11 ⟨rfl, hb11⟩
    have hb := (HF.out.on hb11).below
    clear HCFC hb11 HF
    go_wp2_with fail
    refine (HAW.out _).mono ?_
    rintro _ V12 ⟨rfl, hy⟩
    have hb9 := hb.trans (hy.mono hb.size)
    clear hb hy
    go_wp2_with fail
    exact bodyPost_ret (v := .bool true) (by simp [results, Try.results4, go_sem]) rfl ⟨rfl, hb9⟩
theorem bitmapTakes_any (v : Value) (l : List UInt8) (n : Nat) (w : World) (hl : U8s w v l) (hn : n < 256) : Ret Try.prog 4 #[v, .int .u8 (n : Int)] w (.bool true) := .of (takes_any v l n w hl hn)
end Go.Proofs.Ytbdiombbknmlaaa

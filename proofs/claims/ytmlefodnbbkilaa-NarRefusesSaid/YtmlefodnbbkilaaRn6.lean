/- Walks: whether nodes are a tree, the document's way. -/
import Derived.Test.YtmlefodnbbkilaaRn5
namespace Go.Proofs.Ytmlefodnbbkilaa
open Go.RowKit

set_option maxRecDepth 100000 in
set_option maxHeartbeats 1000000 in
theorem mayR_any {W : World} {v : Value} {l : List Nd} (h : NIn W v l) (hl : l.length ≤ 1000000) (hp : ∀ x ∈ l, x.1.length ≤ 1000000 ∧ x.2.2.length ≤ 1000000) :
    Calls Try.prog 20 #[v] W fun e w' => e = .returned (.bool (mayR l)) ∧ Below W.heap.size W w' := by
  obtain ⟨m, hm⟩ : ∃ m, mayR l = m := ⟨_, rfl⟩
  rw [hm]
  have HM := Lib.hid hm
  clear hm
  rcases l with _ | ⟨x, r⟩
  · obtain rfl : m = false := HM.out.symm
    obtain ⟨A, c, rfl⟩ := h.form
    clear h
    go_enter Try.func20, Try.ntmps20
    go_wp2_with fail
    exact bodyPost_ret (v := .bool false) (by simp [results, Try.results20, go_sem]) rfl ⟨rfl, Below.refl _ _⟩
  · obtain ⟨L, hL⟩ : ∃ L, x :: r = L := ⟨_, rfl⟩
    have hx0 : L[0]? = some x := by rw [← hL]; rfl
    have hLl : L.length = r.length + 1 := by rw [← hL]; rfl
    rw [hL] at h hl hp
    obtain ⟨A, c, rfl⟩ := h.form
    obtain ⟨g, off, rfl, g1, x1, x2, x3⟩ := nin_at h 0 x hx0
    simp only [Nat.zero_mul, Nat.add_zero] at x1 x2 x3
    have HN := Lib.hid h
    have HP := Lib.hid hp
    have HLL := Lib.hid hLl
    have hxb := hp x (by rw [← hL]; simp)
    have HUN := Lib.hid (fun V (hV : Below W.heap.size W V) => underR_any hl (fun y hy => (hp y hy).1) L.length 0 (2 * r.length + 2) x V (h.on hV) hx0 (by omega) (by omega))
    have hdr : L.drop (0 + 1) = r := by rw [← hL]; rfl
    rw [hdr] at HUN
    have hun := (under_end (2 * r.length + 2)).1 x r
    have hget : ∀ j, r[j]? = L[j + 1]? := fun j => by rw [← hL]; rfl
    have HGET := Lib.hid hget
    have d1 : decide ((L.length : Int) < 1) = false := by simp; omega
    have d0 : 0 < L.length := by omega
    clear h hp hdr hget hL hx0
    have hmr : m = (decide (r.length < 256) && x.1.isEmpty && mayNodeN x && r.all (fun y => mayNameN (cutR y.1).2 && decide (deepN y.1 ≤ 64) && mayNodeN y) && (underL (2 * r.length + 2) x r).isEmpty) := HM.out.symm
    clear HM
    have HMR := Lib.hid hmr
    clear hmr
    by_cases h256 : 256 < L.length
    · have hmf : m = false := by
        rw [HMR.out]
        have : decide (r.length < 256) = false := by simp; omega
        rw [this]
        rfl
      subst hmf
      have d2 : decide (256 < (L.length : Int)) = true := by simp; omega
      clear hLl
      go_enter Try.func20, Try.ntmps20
      go_wp2_with fail
      exact bodyPost_ret (v := .bool false) (by simp [results, Try.results20, go_sem]) rfl ⟨rfl, Below.refl _ _⟩
    have d2 : decide (256 < (L.length : Int)) = false := by simp; omega
    have hl256 : L.length ≤ 256 := by omega
    obtain ⟨p, k, d⟩ := x
    dsimp only at x1 x2 x3 hxb
    by_cases hp0 : p = []
    case neg =>
      have d3 : p.isEmpty = false := by cases p <;> simp_all
      have hmf : m = false := by
        rw [HMR.out]
        dsimp only
        rw [d3]
        simp
      subst hmf
      clear hLl
      go_enter Try.func20, Try.ntmps20
      go_wp2_with fail
      exact bodyPost_ret (v := .bool false) (by simp [results, Try.results20, go_sem]) rfl ⟨rfl, Below.refl _ _⟩
    subst hp0
    have HD := Lib.hid (mayDataR_any ([], k, d) W hxb.2)
    obtain ⟨t, ht⟩ : ∃ t, mayNodeN ([], k, d) = t := ⟨_, rfl⟩
    rw [ht] at HD
    have hmr2 : m = (t && r.all (fun y => mayNameN (cutR y.1).2 && decide (deepN y.1 ≤ 64) && mayNodeN y) && (underL (2 * r.length + 2) ([], k, d) r).isEmpty) := by
      rw [HMR.out, ht]
      have : decide (r.length < 256) = true := by simp; omega
      rw [this]
      rfl
    have HMR2 := Lib.hid hmr2
    clear hmr2 ht HMR hLl
    dsimp only at HD
    cases t with
    | false =>
      have hmf : m = false := by rw [HMR2.out]; rfl
      subst hmf
      go_enter Try.func20, Try.ntmps20
      go_wp2_with fail
      refine HD.out.mono ?_
      rintro _ V ⟨rfl, hb⟩
      have HB := Lib.hid hb
      clear hb HD
      go_wp2_with fail
      exact bodyPost_ret (v := .bool false) (by simp [results, Try.results20, go_sem]) rfl ⟨rfl, HB.out⟩
    | true =>
      obtain ⟨ue, hue⟩ : ∃ ue, (underL (2 * r.length + 2) ([], k, d) r).isEmpty = ue := ⟨_, rfl⟩
      obtain ⟨ul, hul⟩ : ∃ ul, L.length - (underL (2 * r.length + 2) ([], k, d) r).length = ul := ⟨_, rfl⟩
      have hul2 : ((ul : Int) == (L.length : Int)) = ue := by
        obtain ⟨kk, hkk, e⟩ := hun
        rw [← hue, ← hul]
        have h2 : (underL (2 * r.length + 2) ([], k, d) r).length ≤ r.length := by rw [e, List.length_drop]; omega
        have h3 := HLL.out
        rw [Bool.eq_iff_iff]
        simp only [beq_iff_eq, List.isEmpty_iff]
        constructor
        · intro h4
          exact List.eq_nil_of_length_eq_zero (by omega)
        · intro h4
          rw [h4]
          simp
      rw [hul] at HUN
      rw [hue] at HMR2
      clear hue hul hun
      go_enter Try.func20, Try.ntmps20
      go_wp2_with fail
      refine HD.out.mono ?_
      rintro _ V ⟨rfl, hb⟩
      have HB := Lib.hid hb
      clear hb HD x1 x2 x3
      go_wp2_with fail
      rename_i K hK
      have HKK := Lib.hid hK
      clear hK
      go_loopw [3] (fun z wr => ∃ q : Nat, 1 ≤ q ∧ q ≤ L.length ∧ z = .int .i64 (q : Int) ∧ Hid (Below W.heap.size W wr) ∧ Hid (∀ j, j + 1 < q → ∀ y, r[j]? = some y → eachN y = true)) (fun z _ => L.length - (intOf z).toNat)
      case atStart => exact ⟨1, by omega, by omega, rfl, HB, Lib.hid fun j hj => by omega⟩
      case round =>
        obtain ⟨q, hq1, hq2, rfl, HBW, HE⟩ := hrel
        by_cases hlt : q < L.length
        · have hd : decide ((q : Int) < (L.length : Int)) = true := by simp; omega
          obtain ⟨y, hy⟩ : ∃ y, L[q]? = some y := ⟨_, List.getElem?_eq_getElem hlt⟩
          have hry : r[q - 1]? = some y := by rw [HGET.out, show q - 1 + 1 = q by omega]; exact hy
          obtain ⟨g', off', h', gq, y1, y2, y3⟩ := nin_at (HN.out.on HBW.out) q y hy
          simp only [Option.some.injEq, Addr.mk.injEq, and_true] at h'
          obtain ⟨rfl, rfl⟩ := h'
          have hyb := HP.out y (List.mem_of_getElem? hy)
          have HRY := Lib.hid hry
          have HALLF : Hid (eachN y = false → m = false) := Lib.hid fun h => by
            rw [HMR2.out]
            have : r.all (fun y => mayNameN (cutR y.1).2 && decide (deepN y.1 ≤ 64) && mayNodeN y) = false := List.all_eq_false.2 ⟨y, List.mem_of_getElem? hry, by
              have h2 : (mayNameN (cutR y.1).2 && decide (deepN y.1 ≤ 64) && mayNodeN y) = false := h
              rw [h2]
              simp⟩
            rw [this]
            rfl
          have heq : eachN y = (mayNameN (cutR y.1).2 && decide (deepN y.1 ≤ 64) && mayNodeN y) := rfl
          have HEQ := Lib.hid heq
          have hcl : (cutR y.1).2.length ≤ 1000000 := by
            have hlen : ∀ p : Bs, (cutR p).2.length ≤ p.length := fun p => by
              unfold cutR
              cases hc : cutN p with
              | none => exact Nat.le_refl _
              | some ab =>
                obtain ⟨a, b⟩ := ab
                have := congrArg List.length ((cutN_some p a b).1 hc).1
                simp only [List.length_append, List.length_cons] at this
                dsimp only
                omega
            exact Nat.le_trans (hlen _) hyb.1
          have HC1 := Lib.hid fun V => cutR_any y.1 V hyb.1
          have HC2 := Lib.hid fun V => mayNameR_any (cutR y.1).2 V hcl
          have HC3 := Lib.hid fun V => deepR_any y.1 V hyb.1
          have HC4 := Lib.hid fun V => mayDataR_any y V hyb.2
          obtain ⟨yp, yk, yd⟩ := y
          dsimp only at y1 y2 y3 HC1 HC2 HC3 HC4 HEQ
          obtain ⟨⟨ca, cb⟩, hcab⟩ : ∃ ab, cutR yp = ab := ⟨_, rfl⟩
          rw [hcab] at HC1 HC2 HEQ
          dsimp only at HC1 HC2 HEQ
          obtain ⟨t1, ht1⟩ : ∃ t, mayNameN cb = t := ⟨_, rfl⟩
          obtain ⟨dp, hdp⟩ : ∃ t, deepN yp = t := ⟨_, rfl⟩
          obtain ⟨t3, ht3⟩ : ∃ t, mayNodeN (yp, yk, yd) = t := ⟨_, rfl⟩
          rw [ht1] at HC2 HEQ
          rw [hdp] at HC3 HEQ
          rw [ht3] at HC4 HEQ
          have HYC : Hid (∀ V, Below wr.heap.size wr V → has V g ∧ V.cell? ⟨g, off + q * 3, none⟩ = some (strV yp) ∧ V.cell? ⟨g, off + q * 3 + 1, none⟩ = some (.int .i64 yk) ∧ V.cell? ⟨g, off + q * 3 + 2, none⟩ = some (strV yd)) := Lib.hid fun V hV => by
            have hg : g < wr.heap.size := gq
            exact ⟨Nat.lt_of_lt_of_le hg hV.size, (cell_below (a := ⟨g, off + q * 3, none⟩) hV hg).trans y1, (cell_below (a := ⟨g, off + q * 3 + 1, none⟩) hV hg).trans y2, (cell_below (a := ⟨g, off + q * 3 + 2, none⟩) hV hg).trans y3⟩
          clear hcab ht1 hdp ht3 heq hcl hyb hry hy
          go_wp2_with fail
          refine (HC1.out _).mono ?_
          rintro _ V1 ⟨rfl, hb1⟩
          obtain ⟨z0, z1, z2, z3⟩ := HYC.out V1 hb1
          have HB1 := Lib.hid (HBW.out.trans (hb1.mono HBW.out.size))
          clear y1 y2 y3 gq hb1
          go_wp2_with fail
          refine (HC2.out _).mono ?_
          rintro _ V2 ⟨rfl, hV2⟩
          rw [hV2]
          clear hV2
          cases t1 with
          | false =>
            have hmf : m = false := HALLF.out (by rw [HEQ.out]; rfl)
            subst hmf
            go_wp2_with fail
            exact bodyPost_ret (v := .bool false) (by simp [results, Try.results20, go_sem]) rfl ⟨rfl, HB1.out⟩
          | true =>
            go_wp2_with fail
            refine (HC3.out _).mono ?_
            rintro _ V2 ⟨rfl, hV2⟩
            rw [hV2]
            clear hV2
            by_cases hdp : dp ≤ 64
            · have d5 : decide ((64 : Int) < (dp : Int)) = false := by simp; omega
              have d6 : decide (dp ≤ 64) = true := by simp; omega
              rw [d6] at HEQ
              clear d6 hdp
              go_wp2_with fail
              refine (HC4.out _).mono ?_
              rintro _ V3 ⟨rfl, hb3⟩
              have HB3 := Lib.hid (HB1.out.trans (hb3.mono HB1.out.size))
              clear hb3
              cases t3 with
              | false =>
                have hmf : m = false := HALLF.out (by rw [HEQ.out]; rfl)
                subst hmf
                go_wp2_with fail
                exact bodyPost_ret (v := .bool false) (by simp [results, Try.results20, go_sem]) rfl ⟨rfl, HB3.out⟩
              | true =>
                have he2 : ∀ j, j + 1 < q + 1 → ∀ y, r[j]? = some y → eachN y = true := by
                  intro j hj y hy
                  rcases Nat.lt_or_ge (j + 1) q with h2 | h2
                  · exact HE.out j h2 y hy
                  · obtain rfl : j = q - 1 := by omega
                    rw [HRY.out] at hy
                    obtain rfl := Option.some.inj hy
                    rw [HEQ.out]
                    rfl
                have HE2 := Lib.hid he2
                clear he2
                go_wp2_with fail
                go_roundw
                case rel => exact ⟨q + 1, by omega, by omega, by go_num, HB3, HE2⟩
                case measure => simp [intOf]; omega
            · have d5 : decide ((64 : Int) < (dp : Int)) = true := by simp; omega
              have hmf : m = false := HALLF.out (by
                rw [HEQ.out]
                have : decide (dp ≤ 64) = false := by simp; omega
                rw [this]
                rfl)
              subst hmf
              go_wp2_with fail
              exact bodyPost_ret (v := .bool false) (by simp [results, Try.results20, go_sem]) rfl ⟨rfl, HB1.out⟩
        · obtain rfl : q = L.length := by omega
          have hd : decide ((L.length : Int) < (L.length : Int)) = false := by simp
          have hall : r.all (fun y => mayNameN (cutR y.1).2 && decide (deepN y.1 ≤ 64) && mayNodeN y) = true := List.all_eq_true.2 fun y hy => by
            obtain ⟨j, hj⟩ := List.getElem?_of_mem hy
            have := (List.getElem?_eq_some_iff.1 hj).1
            exact HE.out j (by have := HLL.out; omega) y hj
          have hme : m = ue := by
            rw [HMR2.out, hall]
            simp
          have HME := Lib.hid hme
          clear hme hall
          go_wp2_with fail
          refine HKK.out _ _ ?_
          go_wp2_with fail
          refine (HUN.out _ HBW.out).mono ?_
          rintro _ V2 ⟨rfl, hb⟩
          have HB2 := Lib.hid (HBW.out.trans (hb.mono HBW.out.size))
          clear hb
          go_wp2_with fail
          exact bodyPost_ret (v := .bool ue) (by simp [results, Try.results20, go_sem]) rfl ⟨by rw [HME.out], HB2.out⟩
end Go.Proofs.Ytmlefodnbbkilaa

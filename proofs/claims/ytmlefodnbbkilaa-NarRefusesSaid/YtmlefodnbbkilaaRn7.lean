/- Walks: a node is packed, the document's way. -/
import Derived.Test.YtmlefodnbbkilaaRn6
namespace Go.Proofs.Ytmlefodnbbkilaa
open Go.RowKit

/-- The document's texts, from a literal that was just laid. -/
theorem strs_lit {W : World} (l : List Bs) (hl : (strsN l).length ≤ 1000000000) (hl2 : l.length ≤ 1000000) (lit : Array Value) (hlit : lit = (l.map strV).toArray) :
    Calls Try.prog 37 #[.slice (some ⟨W.heap.size, 0, none⟩) l.length l.length] (W.alloc (.cells lit 9)) fun e w' => e = .returned (strV (strsN l)) ∧ Below W.heap.size W w' := by
  subst hlit
  have hb : Below W.heap.size W (W.alloc (.cells (l.map strV).toArray 9)) := (Below.refl _ W).alloc (Nat.le_refl _) _
  refine (strsR_any l W.heap.size l.length _ (new_at W _) hl hl2).mono ?_
  rintro _ V ⟨rfl, h⟩
  exact ⟨rfl, hb.trans (h.mono hb.size)⟩
set_option maxRecDepth 100000 in
set_option maxHeartbeats 4000000 in
theorem nodeR_any {lv : Value} {l : List Nd} (hl3 : l.length ≤ 300) (hpath : ∀ y ∈ l, y.1.length ≤ 1000000) (N : Nat) : ∀ (t : Tr) (deep : Nat) (path : Bs) (A C : List Nd) (W : World), sizeT t ≤ N → okT deep t → l = A ++ (nodesT path t ++ C) → Behind path C → NIn W lv l → (packT t).length ≤ 100000000 →
    Calls Try.prog 36 #[lv, .int .i64 (A.length : Int)] W fun e w' => e = .returned (.tuple #[strV (packT t), .int .i64 ((A.length + sizeT t : Nat) : Int)]) ∧ Below W.heap.size W w' := by
  induction N with
  | zero => intro t _ _ _ _ _ h; cases t <;> simp [sizeT] at h
  | succ N ih =>
    intro t deep path A C W hN ok hl hC hNI hT
    obtain ⟨k, d, r, et⟩ := nodesT_head t path
    have hx : l[A.length]? = some (path, k, d) := by rw [hl, et]; simp
    have hAl : A.length < l.length := (List.getElem?_eq_some_iff.1 hx).1
    obtain ⟨LA, Lc, rfl⟩ := hNI.form
    obtain ⟨g, off, rfl, g1, g2, g3, g4⟩ := nin_at hNI A.length _ hx
    have hd : decide ((A.length : Int) < (l.length : Int)) = true := by simp; omega
    dsimp only at g2 g3 g4
    obtain ⟨V, hV⟩ : ∃ V, W.alloc (.cells #[strV path, .int .i64 k, strV d] 37) = V := ⟨_, rfl⟩
    have hVb : Below W.heap.size W V := by rw [← hV]; exact (Below.refl _ W).alloc (Nat.le_refl _) _
    have b2 : V.heap[W.heap.size]? = some (.cells #[strV path, .int .i64 k, strV d] 37) := by rw [← hV]; exact new_at W _
    have HBX := Lib.hid b2
    have HVB := Lib.hid hVb
    have HPUT := Lib.hid (strs_lit (W := V) [sOpen, sType] (by rw [strs2]; omega) (by simp) #[strV sOpen, strV sType] rfl)
    have hmin : 48 ≤ (packT t).length := by
      cases t <;> simp only [packT, strsN_cons, strsN_nil, List.length_append, strN_len] <;> simp <;> omega
    have hw0 : IntKind.i64.wrap ((A.length : Int) + 1) = ((A.length + 1 : Nat) : Int) := by rw [IntWalk.i64_in _ (by omega)]; simp
    have HNI := Lib.hid hNI
    have HL := Lib.hid hl
    have HET := Lib.hid et
    have HX := Lib.hid hx
    have h2 := strs2
    obtain ⟨S2, hS2⟩ : ∃ S, strsN [sOpen, sType] = S := ⟨_, rfl⟩
    rw [hS2] at HPUT h2
    have HS2 := Lib.hid hS2
    have h1 := strs1
    obtain ⟨S1, hS1⟩ : ∃ S, strsN [sShut] = S := ⟨_, rfl⟩
    have HS1 := Lib.hid hS1
    rw [hS1] at h1
    clear hNI hl et hx b2 hVb hS2 hS1
    go_enter Try.func36, Try.ntmps36
    go_wp2_with fail
    refine HPUT.out.mono ?_
    rintro _ V1 ⟨rfl, hb1⟩
    have hk1 := keeps_below HBX.out hb1
    have HK1 := Lib.hid hk1
    have HB1 := Lib.hid (HVB.out.trans (hb1.mono HVB.out.size))
    obtain ⟨y1, y2, y3⟩ := cells3 hk1
    clear hk1 hb1 HPUT HBX HVB g1 g2 g3 g4 hd
    cases t with
    | file d0 =>
      have he := HET.out
      simp only [nodesT, List.cons.injEq, Prod.mk.injEq] at he
      obtain ⟨⟨-, rfl, rfl⟩, -⟩ := he
      have hpt : packT (.file d0) = S2 ++ (strsN [sRegular, sContents, d0] ++ S1) := by rw [← HS2.out, ← HS1.out]; simp [packT, strsN]
      have hln : (strsN [sRegular, sContents, d0]).length + 48 = (packT (.file d0)).length := by rw [hpt]; simp only [List.length_append, h2, h1]; omega
      have HPUT := Lib.hid (strs_lit (W := V1) [sRegular, sContents, d0] (by omega) (by simp) #[strV sRegular, strV sContents, strV d0] rfl)
      obtain ⟨X, hX⟩ : ∃ X, strsN [sRegular, sContents, d0] = X := ⟨_, rfl⟩
      rw [hX] at hln HPUT hpt
      have HPT := Lib.hid hpt
      have hxl : X.length ≤ 100000000 := by omega
      clear hpt hX hln
      go_wp2_with fail
      refine HPUT.out.mono ?_
      rintro _ V2 ⟨rfl, hb2⟩
      have HB2 := Lib.hid (HB1.out.trans (hb2.mono HB1.out.size))
      have HPUT2 : Hid (Calls Try.prog 37 #[.slice (some ⟨V2.heap.size, 0, none⟩) 1 1] (V2.alloc (.cells #[strV sShut] 9)) fun e w' => e = .returned (strV S1) ∧ Below V2.heap.size V2 w') := Lib.hid (by rw [← HS1.out]; exact strs_lit (W := V2) [sShut] (by rw [strs1]; omega) (by simp) #[strV sShut] rfl)
      clear hb2 HPUT y1 y2 y3 HK1
      go_wp2_with fail
      refine HPUT2.out.mono ?_
      rintro _ V3 ⟨rfl, hb3⟩
      have HB3 := Lib.hid (HB2.out.trans (hb3.mono HB2.out.size))
      clear hb3
      go_wp2_with fail
      exact bodyPost_ret (v := .tuple #[strV (S2 ++ (X ++ S1)), .int .i64 ((A.length + 1 : Nat) : Int)]) (by simp [results, Try.results36, go_sem]) rfl ⟨by rw [HPT.out]; rfl, HB3.out⟩
    | exec d0 =>
      have he := HET.out
      simp only [nodesT, List.cons.injEq, Prod.mk.injEq] at he
      obtain ⟨⟨-, rfl, rfl⟩, -⟩ := he
      have hpt : packT (.exec d0) = S2 ++ (strsN [sRegular, sExecutable, [], sContents, d0] ++ S1) := by rw [← HS2.out, ← HS1.out]; simp [packT, strsN]
      have hln : (strsN [sRegular, sExecutable, [], sContents, d0]).length + 48 = (packT (.exec d0)).length := by rw [hpt]; simp only [List.length_append, h2, h1]; omega
      have HPUT := Lib.hid (strs_lit (W := V1) [sRegular, sExecutable, [], sContents, d0] (by omega) (by simp) #[strV sRegular, strV sExecutable, strV [], strV sContents, strV d0] rfl)
      obtain ⟨X, hX⟩ : ∃ X, strsN [sRegular, sExecutable, [], sContents, d0] = X := ⟨_, rfl⟩
      rw [hX] at hln HPUT hpt
      have HPT := Lib.hid hpt
      have hxl : X.length ≤ 100000000 := by omega
      clear hpt hX hln
      go_wp2_with fail
      refine HPUT.out.mono ?_
      rintro _ V2 ⟨rfl, hb2⟩
      have HB2 := Lib.hid (HB1.out.trans (hb2.mono HB1.out.size))
      have HPUT2 : Hid (Calls Try.prog 37 #[.slice (some ⟨V2.heap.size, 0, none⟩) 1 1] (V2.alloc (.cells #[strV sShut] 9)) fun e w' => e = .returned (strV S1) ∧ Below V2.heap.size V2 w') := Lib.hid (by rw [← HS1.out]; exact strs_lit (W := V2) [sShut] (by rw [strs1]; omega) (by simp) #[strV sShut] rfl)
      clear hb2 HPUT y1 y2 y3 HK1
      go_wp2_with fail
      refine HPUT2.out.mono ?_
      rintro _ V3 ⟨rfl, hb3⟩
      have HB3 := Lib.hid (HB2.out.trans (hb3.mono HB2.out.size))
      clear hb3
      go_wp2_with fail
      exact bodyPost_ret (v := .tuple #[strV (S2 ++ (X ++ S1)), .int .i64 ((A.length + 1 : Nat) : Int)]) (by simp [results, Try.results36, go_sem]) rfl ⟨by rw [HPT.out]; rfl, HB3.out⟩
    | link d0 =>
      have he := HET.out
      simp only [nodesT, List.cons.injEq, Prod.mk.injEq] at he
      obtain ⟨⟨-, rfl, rfl⟩, -⟩ := he
      have hpt : packT (.link d0) = S2 ++ (strsN [sSymlink, sTarget, d0] ++ S1) := by rw [← HS2.out, ← HS1.out]; simp [packT, strsN]
      have hln : (strsN [sSymlink, sTarget, d0]).length + 48 = (packT (.link d0)).length := by rw [hpt]; simp only [List.length_append, h2, h1]; omega
      have HPUT := Lib.hid (strs_lit (W := V1) [sSymlink, sTarget, d0] (by omega) (by simp) #[strV sSymlink, strV sTarget, strV d0] rfl)
      obtain ⟨X, hX⟩ : ∃ X, strsN [sSymlink, sTarget, d0] = X := ⟨_, rfl⟩
      rw [hX] at hln HPUT hpt
      have HPT := Lib.hid hpt
      have hxl : X.length ≤ 100000000 := by omega
      clear hpt hX hln
      go_wp2_with fail
      refine HPUT.out.mono ?_
      rintro _ V2 ⟨rfl, hb2⟩
      have HB2 := Lib.hid (HB1.out.trans (hb2.mono HB1.out.size))
      have HPUT2 : Hid (Calls Try.prog 37 #[.slice (some ⟨V2.heap.size, 0, none⟩) 1 1] (V2.alloc (.cells #[strV sShut] 9)) fun e w' => e = .returned (strV S1) ∧ Below V2.heap.size V2 w') := Lib.hid (by rw [← HS1.out]; exact strs_lit (W := V2) [sShut] (by rw [strs1]; omega) (by simp) #[strV sShut] rfl)
      clear hb2 HPUT y1 y2 y3 HK1
      go_wp2_with fail
      refine HPUT2.out.mono ?_
      rintro _ V3 ⟨rfl, hb3⟩
      have HB3 := Lib.hid (HB2.out.trans (hb3.mono HB2.out.size))
      clear hb3
      go_wp2_with fail
      exact bodyPost_ret (v := .tuple #[strV (S2 ++ (X ++ S1)), .int .i64 ((A.length + 1 : Nat) : Int)]) (by simp [results, Try.results36, go_sem]) rfl ⟨by rw [HPT.out]; rfl, HB3.out⟩
    | dir f =>
      have he := HET.out
      simp only [nodesT, List.cons.injEq, Prod.mk.injEq] at he
      obtain ⟨⟨-, rfl, rfl⟩, -⟩ := he
      have hpt : packT (.dir f) = S2 ++ (strsN [sDirectory] ++ (packF f ++ S1)) := by rw [← HS2.out, ← HS1.out]; simp [packT, strsN]
      have hsd : (strsN [sDirectory]).length = 24 := by simp [strsN_cons, strsN_nil, strN_len]
      have hln : (packF f).length + 72 = (packT (.dir f)).length := by rw [hpt]; simp only [List.length_append, h2, h1, hsd]; omega
      have HPUT := Lib.hid (strs_lit (W := V1) [sDirectory] (by omega) (by simp) #[strV sDirectory] rfl)
      obtain ⟨SD, hSD⟩ : ∃ X, strsN [sDirectory] = X := ⟨_, rfl⟩
      rw [hSD] at hsd HPUT hpt
      have HPT := Lib.hid hpt
      have okf : okF deep [] f := by simpa only [okT] using ok
      have hl' : l = A ++ [(path, 4, [])] ++ (nodesF path f ++ C) := by rw [HL.out]; simp [nodesT]
      have hNf : sizeF f ≤ N := by simp only [sizeT] at hN; omega
      have HL2 := Lib.hid hl'
      clear hpt hSD hl'
      go_wp2_with fail
      refine HPUT.out.mono ?_
      rintro _ V2 ⟨rfl, hb2⟩
      have HB2 := Lib.hid (HB1.out.trans (hb2.mono HB1.out.size))
      have HK2 := Lib.hid (keeps_below HK1.out hb2)
      clear hb2 HPUT y1 y2 y3 HK1
      go_wp2_with fail
      rename_i K hK
      have HKK := Lib.hid hK
      clear hK
      go_loopw [7, 8] (fun y z wr => ∃ (f2 : Fo) (last : Bs) (A2 : List Nd) (X D : Bs), y = strV X ∧ z = .int .i64 (A2.length : Int) ∧ okF deep last f2 ∧ Hid (l = A2 ++ (nodesF path f2 ++ C)) ∧ Hid (X = S2 ++ (SD ++ D)) ∧ Hid (packF f = D ++ packF f2) ∧ sizeF f2 ≤ N ∧ Hid (A2.length + sizeF f2 = A.length + 1 + sizeF f) ∧ Hid (Below W.heap.size W wr) ∧ Hid (wr.heap[W.heap.size]? = some (.cells #[strV path, .int .i64 4, strV []] 37))) (fun _ z _ => l.length - (intOf z).toNat)
      case atStart => exact ⟨f, [], A ++ [(path, 4, [])], S2 ++ SD, [], rfl, by simp, okf, HL2, Lib.hid (by simp), Lib.hid rfl, hNf, Lib.hid (by simp), HB2, HK2⟩
      case round =>
        obtain ⟨f2, last, A2, X, D, rfl, rfl, ok2, HLx, HX2, HD, hN2, HSZ, HBW, HBOX⟩ := hrel
        cases f2 with
        | nil =>
          have hl0 : l = A2 ++ C := by rw [HLx.out]; rfl
          have HSZ0 : Hid (A2.length = A.length + 1 + sizeF f) := Lib.hid (by have := HSZ.out; simp only [sizeF] at this; omega)
          have hX0 : packT (.dir f) = X ++ S1 := by rw [HPT.out, HX2.out, HD.out]; simp [packF]
          have HX0 := Lib.hid hX0
          have HPUT2 : Hid (∀ n, Calls Try.prog 37 #[.slice (some ⟨wr.heap.size, 0, none⟩) 1 1] ((wr.drewN n).alloc (.cells #[strV sShut] 9)) fun e w' => e = .returned (strV S1) ∧ Below wr.heap.size wr w') := Lib.hid fun n => by rw [← HS1.out]; exact (strs_lit (W := wr.drewN n) [sShut] (by rw [strs1]; omega) (by simp) #[strV sShut] rfl).mono fun e w' h => ⟨h.1, Below.trans (⟨rfl, rfl, rfl, Nat.le_refl _, fun _ _ => rfl⟩ : Below wr.heap.size wr (wr.drewN n)) h.2⟩
          have hXl : X.length + S1.length ≤ 200000000 := by
            have := congrArg List.length hX0
            simp only [List.length_append] at this
            omega
          cases C with
          | nil =>
            have hAl2 : A2.length = l.length := by rw [hl0]; simp
            have hd2 : decide ((A2.length : Int) < (l.length : Int)) = false := by simp; omega
            have hd3 : decide (A2.length < l.length) = false := by simp; omega
            clear hl0 hX0 hAl2
            go_wp2_with fail
            go_quiet (fail)
            go_wp2_with fail
            refine HKK.out _ _ ?_
            go_wp2_with fail
            refine (HPUT2.out _).mono ?_
            rintro _ V3 ⟨rfl, hb3⟩
            have HB3 := Lib.hid (HBW.out.trans (hb3.mono HBW.out.size))
            clear hb3
            go_wp2_with fail
            exact bodyPost_ret (v := .tuple #[strV (X ++ S1), .int .i64 (A2.length : Int)]) (by simp [results, Try.results36, go_sem]) rfl ⟨by rw [HX0.out, HSZ0.out]; simp only [sizeT, Nat.add_assoc], HB3.out⟩
          | cons y r =>
            have hnm := hC.name
            have hy : l[A2.length]? = some y := by rw [hl0]; simp
            have hlt := (List.getElem?_eq_some_iff.1 hy).1
            have hd2 : decide ((A2.length : Int) < (l.length : Int)) = true := by simp; omega
            have hyl := hpath _ (List.mem_of_getElem? hy)
            have hxl := hpath _ (List.mem_of_getElem? HX.out)
            dsimp only at hyl hxl
            obtain ⟨g', off', h', gq, z1, -, -⟩ := nin_at (HNI.out.on HBW.out) A2.length _ hy
            simp only [Option.some.injEq, Addr.mk.injEq, and_true] at h'
            obtain ⟨rfl, rfl⟩ := h'
            obtain ⟨jp, hjp⟩ : ∃ jp, y.1 = jp := ⟨_, rfl⟩
            rw [hjp] at z1 hnm hyl
            have HNM : Hid (∀ U, Calls Try.prog 55 #[strV jp, strV path] U fun e w' => e = .returned (strV []) ∧ w' = U) := Lib.hid fun U => by
              have := nameR_any jp path U hyl hxl
              rw [hnm] at this
              exact this
            have hst : has wr W.heap.size := has_box HBOX.out
            obtain ⟨b1, b2, b3⟩ := cells3 HBOX.out
            clear hl0 hX0 hjp hnm hy
            go_wp2_with fail
            go_region_held3 (fun w' => w'.cell? ⟨g, off + A2.length * 3, none⟩ = some (strV jp) ∧ w'.cell? ⟨W.heap.size, 0, none⟩ = some (strV path)) (first | exact ⟨z1, b1⟩ | go_keep)
              (first
                | (go_at_call 55; with_reducible refine (HNM.out _).mono ?_; rintro _ _ ⟨rfl, rfl⟩))
            go_wp2_with fail
            refine HKK.out _ _ ?_
            go_wp2_with fail
            refine (HPUT2.out 1).mono ?_
            rintro _ V3 ⟨rfl, hb3⟩
            have HB3 := Lib.hid (HBW.out.trans (hb3.mono HBW.out.size))
            clear hb3
            go_wp2_with fail
            exact bodyPost_ret (v := .tuple #[strV (X ++ S1), .int .i64 (A2.length : Int)]) (by simp [results, Try.results36, go_sem]) rfl ⟨by rw [HX0.out, HSZ0.out]; simp only [sizeT, Nat.add_assoc], HB3.out⟩
        | cons nm t2 f3 =>
          simp only [okF] at ok2
          obtain ⟨o1, o2, o3, o4, o5⟩ := ok2
          have hn := mayName_no o1
          obtain ⟨k2, d2, r2, e2⟩ := nodesT_head t2 (joinP path nm)
          have hl4 : l = A2 ++ (nodesT (joinP path nm) t2 ++ (nodesF path f3 ++ C)) := by rw [HLx.out]; simp [nodesF]
          have hy : l[A2.length]? = some (joinP path nm, k2, d2) := by rw [hl4, e2]; simp
          have hlt := (List.getElem?_eq_some_iff.1 hy).1
          have hd2 : decide ((A2.length : Int) < (l.length : Int)) = true := by simp; omega
          have hnm : nameR (joinP path nm) path = nm := join_nameR hn.2.1
          have hyl := hpath _ (List.mem_of_getElem? hy)
          have hxl := hpath _ (List.mem_of_getElem? HX.out)
          dsimp only at hyl hxl
          obtain ⟨g', off', h', gq, z1, -, -⟩ := nin_at (HNI.out.on HBW.out) A2.length _ hy
          simp only [Option.some.injEq, Addr.mk.injEq, and_true] at h'
          obtain ⟨rfl, rfl⟩ := h'
          dsimp only at z1
          have HNM : Hid (∀ U, Calls Try.prog 55 #[strV (joinP path nm), strV path] U fun e w' => e = .returned (strV nm) ∧ w' = U) := Lib.hid fun U => by
            have := nameR_any (joinP path nm) path U hyl hxl
            rw [hnm] at this
            exact this
          obtain ⟨jp, hjp⟩ : ∃ jp, joinP path nm = jp := ⟨_, rfl⟩
          have hbb : Behind jp (nodesF path f3 ++ C) := by rw [← hjp]; exact behind_next path nm hn.1 f3 C deep o5 hC
          rw [hjp] at z1 HNM hl4
          have HL4 := Lib.hid hl4
          have hs0 : 1 ≤ sizeT t2 := by cases t2 <;> simp [sizeT] <;> omega
          have hst : has wr W.heap.size := has_box HBOX.out
          obtain ⟨b1, b2, b3⟩ := cells3 HBOX.out
          have hsz2 : sizeT t2 ≤ N := by simp only [sizeF] at hN2; omega
          have hpl : (packT t2).length ≤ 100000000 := by
            have h5 := HD.out
            have := congrArg List.length h5
            simp only [packF, List.length_append] at this
            omega
          have HREC := Lib.hid fun U (hU : Below W.heap.size W U) => ih t2 (deep + 1) jp A2 (nodesF path f3 ++ C) U hsz2 o4 hl4 hbb (HNI.out.on hU) hpl
          have HNE : Hid (nm ≠ []) := Lib.hid hn.1
          have hnel : nm.isEmpty = false := by have := hn.1; cases nm <;> simp_all
          have HNL : Hid (nm.length ≤ 255) := Lib.hid hn.2.2.2
          have HYY : Hid (l[A2.length]? = some (jp, k2, d2)) := Lib.hid (by rw [← hjp]; exact hy)
          clear hjp hl4 hnm hbb hn e2 hy
          go_wp2_with fail
          go_region_held3 (fun w' => w'.cell? ⟨g, off + A2.length * 3, none⟩ = some (strV jp) ∧ w'.cell? ⟨W.heap.size, 0, none⟩ = some (strV path)) (first | exact ⟨z1, b1⟩ | go_keep)
            (first
              | (go_at_call 55; with_reducible refine (HNM.out _).mono ?_; rintro _ _ ⟨rfl, rfl⟩))
          have HBD := Lib.hid HBW.out.drew
          have HCALL := Lib.hid (HREC.out _ HBD.out)
          have HBOXD : Hid (wr.drew.heap[W.heap.size]? = some (.cells #[strV path, .int .i64 4, strV []] 37)) := HBOX
          obtain ⟨pt, hpt2⟩ : ∃ pt, packT t2 = pt := ⟨_, rfl⟩
          rw [hpt2] at HCALL hpl
          have HPT2 := Lib.hid hpt2
          clear hpt2 z1 b1 b2 b3 hst gq
          go_wp2_with fail
          refine HCALL.out.mono ?_
          rintro _ U ⟨rfl, hbU⟩
          have HBU := Lib.hid (HBD.out.trans (hbU.mono HBD.out.size))
          have HBOXU := Lib.hid (keeps_below HBOXD.out hbU)
          obtain ⟨b1, b2, b3⟩ := cells3 HBOXU.out
          obtain ⟨g', off', h', gq, z1, -, -⟩ := nin_at (HNI.out.on HBU.out) A2.length _ HYY.out
          simp only [Option.some.injEq, Addr.mk.injEq, and_true] at h'
          obtain ⟨rfl, rfl⟩ := h'
          dsimp only at z1
          have hst : has U W.heap.size := has_box HBOXU.out
          have HZ : Hid (∀ U2, Below U.heap.size U U2 → U2.cell? ⟨g, off + A2.length * 3, none⟩ = some (strV jp) ∧ U2.cell? ⟨W.heap.size, 0, none⟩ = some (strV path)) := Lib.hid fun U2 hb => ⟨(cell_below (a := ⟨g, off + A2.length * 3, none⟩) hb (show g < U.heap.size from gq)).trans z1, (cell_below (a := ⟨W.heap.size, 0, none⟩) hb (show W.heap.size < U.heap.size from hst)).trans b1⟩
          have hse : (strsN [sEntry, sOpen, sName, nm, sNode]).length ≤ 1000 := by
            have := HNL.out
            simp only [strsN_cons, strsN_nil, List.length_append, strN_len, List.length_cons, List.length_nil]
            omega
          have HA : Hid (∀ (U2 : World) (b : Nat), U2.heap[b]? = some (.cells #[strV sEntry, strV sOpen, strV sName, strV nm, strV sNode] 9) → Calls Try.prog 37 #[.slice (some ⟨b, 0, none⟩) 5 5] U2 fun e w' => e = .returned (strV (strsN [sEntry, sOpen, sName, nm, sNode])) ∧ Below U2.heap.size U2 w') := Lib.hid fun U2 b hb => strsR_any [sEntry, sOpen, sName, nm, sNode] b 5 U2 hb (by omega) (by simp)
          have HBk : Hid (∀ (U2 : World) (b : Nat), U2.heap[b]? = some (.cells #[strV sShut] 9) → Calls Try.prog 37 #[.slice (some ⟨b, 0, none⟩) 1 1] U2 fun e w' => e = .returned (strV S1) ∧ Below U2.heap.size U2 w') := Lib.hid fun U2 b hb => by
            rw [← HS1.out]
            exact strsR_any [sShut] b 1 U2 hb (by rw [strs1]; omega) (by simp)
          obtain ⟨SE, hSE⟩ : ∃ SE, strsN [sEntry, sOpen, sName, nm, sNode] = SE := ⟨_, rfl⟩
          rw [hSE] at hse HA
          have HSE := Lib.hid hSE
          have hXl : X.length ≤ 200000000 := by
            rw [HX2.out]
            have h5 := congrArg List.length HD.out
            simp only [List.length_append] at h5 ⊢
            omega
          have t1 : (9223372036854775807 < X.length + SE.length) = False := by simp; omega
          have t2' : (9223372036854775807 < X.length + (SE.length + pt.length)) = False := by simp; omega
          have t3' : (9223372036854775807 < X.length + SE.length + pt.length) = False := by simp; omega
          have t4 : (9223372036854775807 < X.length + (SE.length + (pt.length + 16))) = False := by simp; omega
          have t5 : (9223372036854775807 < X.length + SE.length + pt.length + 16) = False := by simp; omega
          have t6 : (9223372036854775807 < X.length + (SE.length + pt.length) + 16) = False := by simp; omega
          have HNEW : Hid (∀ o, (U.alloc o).drew.heap[U.heap.size]? = some o) := Lib.hid fun o => new_at U o
          have HEA : Hid (∀ o U3, Below (U.alloc o).drew.heap.size (U.alloc o).drew U3 → Below U.heap.size U U3) := Lib.hid fun o U3 h => ((Below.refl _ U).alloc (Nat.le_refl _) o).drew.trans (h.mono (by show U.heap.size ≤ (U.alloc o).heap.size; simp))
          have HEB : Hid (∀ o U3 U4, Below U.heap.size U U3 → Below (U3.alloc o).heap.size (U3.alloc o) U4 → Below U.heap.size U U4) := Lib.hid fun o U3 U4 h1 h2 => h1.trans (((Below.refl _ U3).alloc h1.size o).trans (h2.mono (by have := h1.size; simp; omega)))
          have HNEWb : Hid (∀ o o', ((U.alloc o).alloc o').drew.heap[U.heap.size]? = some o) := Lib.hid fun o o' => by
            have h1 := new_at U o
            exact (Below.heap_alloc (U.alloc o) o' U.heap.size (by simp)).trans h1
          have HEAb : Hid (∀ o o' U3, Below ((U.alloc o).alloc o').drew.heap.size ((U.alloc o).alloc o').drew U3 → Below U.heap.size U U3) := Lib.hid fun o o' U3 h => (((Below.refl _ U).alloc (Nat.le_refl _) o).alloc (by simp) o').drew.trans (h.mono (by show U.heap.size ≤ ((U.alloc o).alloc o').heap.size; simp; omega))
          have HKB : Hid (∀ o o' U3, Below ((U.alloc o).alloc o').drew.heap.size ((U.alloc o).alloc o').drew U3 → U3.heap[U.heap.size + 1]? = some o') := Lib.hid fun o o' U3 h => by
            have h1 : ((U.alloc o).alloc o').drew.heap[U.heap.size + 1]? = some o' := by
              have := new_at (U.alloc o) o'
              rw [show (U.alloc o).heap.size = U.heap.size + 1 by simp] at this
              exact this
            exact keeps_below h1 h
          have HNEWc : Hid (∀ o o', ((U.alloc o).alloc o').drew.heap[U.heap.size + 1]? = some o') := Lib.hid fun o o' => by
            have := new_at (U.alloc o) o'
            rw [show (U.alloc o).heap.size = U.heap.size + 1 by simp] at this
            exact this
          have HKC : Hid (∀ o o' U3, Below ((U.alloc o).alloc o').drew.heap.size ((U.alloc o).alloc o').drew U3 → U3.heap[U.heap.size]? = some o) := Lib.hid fun o o' U3 h => keeps_below (HNEWb.out o o') h
          have HEB0 : Hid (∀ U3 U4, Below U.heap.size U U3 → Below U3.heap.size U3 U4 → Below U.heap.size U U4) := Lib.hid fun U3 U4 h1 h2 => h1.trans (h2.mono h1.size)
          clear hbU HCALL hSE
          go_wp2_with fail
          go_region_held3 (fun w' => w'.cell? ⟨g, off + A2.length * 3, none⟩ = some (strV jp) ∧ w'.cell? ⟨W.heap.size, 0, none⟩ = some (strV path)) (first | exact zB | exact zA | exact ⟨z1, b1⟩ | go_keep)
            (first
              | (go_at_call 55; with_reducible refine (HNM.out _).mono ?_; rintro _ _ ⟨rfl, rfl⟩)
              | (go_at_call 37; with_reducible refine (HA.out _ _ ?hg).mono ?_; (case hg => first | with_reducible exact HNEW.out _ | with_reducible exact HNEWb.out _ _ | with_reducible exact HNEWc.out _ _); rintro _ U3 ⟨rfl, hbA⟩; have eA : Below U.heap.size U U3 := (by first | with_reducible exact HEA.out _ _ hbA | with_reducible exact HEAb.out _ _ _ hbA); have zA := HZ.out U3 eA)
              | (go_at_call 37; with_reducible refine (HBk.out _ _ ?hg2).mono ?_; (case hg2 => first | with_reducible exact new_at U3 _ | with_reducible exact HKB.out _ _ _ hbA | with_reducible exact HKC.out _ _ _ hbA); rintro _ U4 ⟨rfl, hbB⟩; have eB : Below U.heap.size U U4 := (by first | with_reducible exact HEB.out _ _ _ eA hbB | with_reducible exact HEB0.out _ _ eA hbB); have zB := HZ.out U4 eB))
          all_goals
            have HE8 : Hid (Below W.heap.size W U4) := Lib.hid (HBU.out.trans (eB.mono HBU.out.size))
            have HBX4 := Lib.hid (keeps_below HBOXU.out eB)
            clear eA eB zA zB hbA hbB HNEW HEA HEB HNEWb HEAb HKB HNEWc HKC HEB0 HA HBk HZ HBOXU HBU
          all_goals go_wp2_with fail
          all_goals
            go_roundw
            case rel => exact ⟨f3, nm, A2 ++ nodesT jp t2, X ++ (SE ++ (pt ++ S1)), D ++ (SE ++ (pt ++ S1)), by simp [strV], by rw [List.length_append, size_T]; go_num, o5, Lib.hid (by rw [HL4.out]; simp), Lib.hid (by rw [HX2.out]; simp), Lib.hid (by rw [HD.out, packF, HSE.out, HPT2.out, ← HS1.out, strsN_cons, strsN_nil]; simp), by simp only [sizeF] at hN2; omega, Lib.hid (by rw [List.length_append, size_T]; have := HSZ.out; simp only [sizeF] at this; omega), HE8, HBX4⟩
            case measure => simp [intOf]; omega
end Go.Proofs.Ytmlefodnbbkilaa

/- CodecBack walked: bytes are told again by their letters. -/
import Derived.Test.YtalanaongfnndaaDoorG1
import Derived.Test.YtalanaongfnndaaDoorPureB32
import Derived.Test.YtalanaongfnndaaDoorPureB64
namespace Go.Proofs.YtalanaongfnndaaDoor
open Go.RowKit Go.Shelf
theorem awake_yes : G.shelfmarklaw5_awake.f = some true := by decide +kernel
theorem awake_any (w : World) : Calls Tryd.prog 9 #[] w fun e w' => e = .returned (.bool true) ∧ Below w.heap.size w w' := G.shelfmarklaw5_awake.calls true w awake_yes
theorem hexN_len (l : List UInt8) : (hexN l).length = 2 * l.length := hexN_length l
/-- A row of bytes with something behind them, as a string. -/
theorem row_str (W : World) (b cap n : Nat) (l : List UInt8) (tl : List Value) (hn : n = l.length) {fr : Nat × Nat} (hb : W.heap[b]? = some (.cells (rowC l tl) 5 fr)) :
    (convert 22 9 (.slice (some ⟨b, 0, none⟩) n cap)).run Tryd.prog W = .ok (strV l) W := by
  subst hn
  refine run_convert_bytes_back W 22 9 5 ⟨b, 0, none⟩ cap l Tryd.underlying22 Tryd.underlying5 Tryd.underlying9 fun j hj => ?_
  rw [addr_add]
  simp only [World.cell?, hb]
  have := rowC_get l tl j hj
  simp [hj] at this ⊢
  exact this
/-- A letter put into such a row. -/
theorem row_put {W : World} {b r : Nat} {l : List UInt8} {tl : List Value} {fr : Nat × Nat} (y : UInt8) (hr : r < l.length) (hb : W.heap[b]? = some (.cells (rowC l tl) 5 fr)) :
    (W.setCell ⟨b, r, none⟩ (.int .u8 (y.toNat : Int))).heap[b]? = some (.cells (rowC (l.set r y) tl) 5 fr) := by
  have h := setRow_same hb
  rw [← h, setRow_setCell, rowC_set l tl r y hr]
  exact setRow_heap hb
set_option maxRecDepth 100000 in
theorem back_any (l : List UInt8) (x y : UInt8) (w : World) : Calls Tryd.prog 4 #[strV l, .int .u8 (x.toNat : Int), .int .u8 (y.toNat : Int)] w fun e w' => e = .returned (.bool true) ∧ Below w.heap.size w w' := by
  by_cases h64 : 64 < l.length
  · have hd : decide (64 < l.length) = true := by simp [h64]
    go_enter Tryd.func4, Tryd.ntmps4
    go_wp2_with fail
    refine (awake_any w).mono ?_
    rintro _ w1 ⟨rfl, hb⟩
    go_wp2_with fail
    refine bodyPost_ret (v := .bool true) (by simp [results, Tryd.results4, go_sem]) rfl ⟨rfl, hb⟩
  · have hd : decide (64 < l.length) = false := by simp [h64]
    have hA := hexN_len l
    have hB : (b32N l).length = (8 * l.length + 4) / 5 := by unfold b32N; rw [List.length_reverse, let32_length]
    have hC : (b64N l).length = (l.length + 2) / 3 * 4 := by
      have : (body64 l).length = m64 l.length := by rw [body_eq, let64_length]
      unfold b64N
      rw [List.length_append, List.length_replicate, this]
      unfold m64
      omega
    obtain ⟨A, hAe⟩ : ∃ A, hexN l = A := ⟨_, rfl⟩
    obtain ⟨B, hBe⟩ : ∃ B, b32N l = B := ⟨_, rfl⟩
    obtain ⟨C, hCe⟩ : ∃ C, b64N l = C := ⟨_, rfl⟩
    have c1 := fun w => hex_any l w (by omega)
    have c2 := fun w => b32_any l w (by omega)
    have c3 := fun w => b64_any l w (by omega)
    rw [hAe] at c1 hA
    rw [hBe] at c2 hB
    rw [hCe] at c3 hC
    have c4 := fun w => gethex_any A w (by omega)
    have c5 := fun w => getb32_any B (l.length : Int) w (by omega)
    have c6 := fun w => getb64_any C w (by omega)
    rw [← hAe, gethex_back, hAe] at c4
    rw [← hBe, getb32_back l (by omega), hBe] at c5
    rw [← hCe, getb64_back, hCe] at c6
    have HBE := Lib.hid hBe
    have HAE := Lib.hid hAe
    have HCE := Lib.hid hCe
    clear hAe hBe hCe
    go_enter Tryd.func4, Tryd.ntmps4
    go_wp2_with fail
    refine (c1 w).below.mono ?_
    rintro _ w1 ⟨rfl, hb1⟩
    have HB1 := Lib.hid hb1
    clear hb1
    go_wp2_with fail
    refine (c2 w1).below.mono ?_
    rintro _ w2 ⟨rfl, hb2⟩
    have HB2 := Lib.hid (HB1.out.trans (hb2.mono HB1.out.size))
    clear hb2
    go_wp2_with fail
    refine (c3 w2).below.mono ?_
    rintro _ w3 ⟨rfl, hb3⟩
    have HB3 := Lib.hid (HB2.out.trans (hb3.mono HB2.out.size))
    clear hb3
    go_wp2_with fail
    refine (c4 w3).mono ?_
    rintro _ w4 ⟨rfl, hb4⟩
    have HB4 := Lib.hid (HB3.out.trans (hb4.mono HB3.out.size))
    clear hb4
    go_wp2_with fail
    refine (c5 w4).mono ?_
    rintro _ w5 ⟨rfl, hb5⟩
    have HB5 := Lib.hid (HB4.out.trans (hb5.mono HB4.out.size))
    clear hb5
    go_wp2_with fail
    refine (c6 w5).mono ?_
    rintro _ w6 ⟨rfl, hb6⟩
    have HB6 := Lib.hid (HB5.out.trans (hb6.mono HB5.out.size))
    clear hb6 c1 c2 c3 c4 c5 c6 HB1 HB2 HB3 HB4 HB5
    by_cases h0 : l = []
    · subst h0
      obtain rfl : A = [] := List.eq_nil_of_length_eq_zero (by simpa using hA)
      obtain rfl : B = [] := List.eq_nil_of_length_eq_zero (by simpa using hB)
      obtain rfl : C = [] := List.eq_nil_of_length_eq_zero (by simpa using hC)
      clear hA hB hC
      go_wp2_with fail
      refine (awake_any w6).mono ?_
      rintro _ w7 ⟨rfl, hb⟩
      go_wp2_with fail
      exact bodyPost_ret (v := .bool true) (by simp [results, Tryd.results4, go_sem]) rfl ⟨rfl, HB6.out.trans (hb.mono HB6.out.size)⟩
    · have hpos : 0 < l.length := List.length_pos_iff.2 h0
      have hd0 : decide (l.length = 0) = false := by simp [h0]
      obtain ⟨X, d, c, tl, m, hx, hX, hblk, hfr⟩ := conv_row w6 B
      obtain ⟨r, hr⟩ : ∃ r, x.toNat % ((8 * l.length + 4) / 5) = r := ⟨_, rfl⟩
      have hrB : r < B.length := by rw [← hr, hB]; exact Nat.mod_lt _ (by omega)
      have he : ((wrap64 (x.toNat : Int)).tmod ((8 * (l.length : Int) + 4) / 5)).toNat = r := by
        have hxl := x.toNat_lt
        rw [show wrap64 (x.toNat : Int) = (x.toNat : Int) by unfold wrap64; omega, show (8 * (l.length : Int) + 4) / 5 = (((8 * l.length + 4) / 5 : Nat) : Int) by omega, Int.tmod_eq_emod_of_nonneg (by omega), ← hr]
        rfl
      have hcl : (plus w6 ⟨X, d⟩).cell? ⟨w6.heap.size, r, none⟩ = some (.int .u8 ((B.getD r 0).toNat : Int)) := by
        have := rowC_get B tl r hrB
        simp only [World.cell?, hblk]
        exact this
      have hfz := hfr r hrB
      go_wp2_with fail
      clear hcl hfz
      have hput := row_put y hrB hblk
      have hbW : Below w.heap.size w ((plus w6 ⟨X, d⟩).setCell ⟨w6.heap.size, r, none⟩ (.int .u8 (y.toNat : Int))) := by
        have hsz := HB6.out.size
        exact HB6.out.trans (Below.setCell ((below_plus w6 ⟨X, d⟩).mono hsz) (by simpa using hsz) _)
      obtain ⟨W, hW⟩ : ∃ W, (plus w6 ⟨X, d⟩).setCell ⟨w6.heap.size, r, none⟩ (.int .u8 (y.toNat : Int)) = W := ⟨_, rfl⟩
      rw [hW] at hput hbW ⊢
      obtain ⟨B2, hB2⟩ : ∃ B2, B.set r y = B2 := ⟨_, rfl⟩
      rw [hB2] at hput
      have hlen2 : B2.length = (8 * l.length + 4) / 5 := by rw [← hB2, List.length_set, hB]
      have hstr := fun V (h : V.heap[w6.heap.size]? = some (.cells (rowC B2 tl) 5 m)) => row_str V w6.heap.size c ((8 * l.length + 4) / 5) B2 tl hlen2.symm h
      have hs1 := hstr W hput
      have hwz : w6.heap.size < W.heap.size := (Array.getElem?_eq_some_iff.1 hput).1
      have c7 := fun w => getb32_any B2 (l.length : Int) w (by omega)
      have c8 := fun w => getb32_any B ((l.length : Int) + 5) w (by omega)
      have hno : getB32N B ((l.length : Int) + 5) = ([], false) := by
        cases hg : (getB32N B ((l.length : Int) + 5)).2 with
        | false =>
          unfold getB32N at hg ⊢
          split
          · rename_i hh; rw [if_pos hh] at hg; cases hg
          · rfl
        | true =>
          exfalso
          obtain ⟨h3, h4, _⟩ := getb32_only B _ hg
          generalize (getB32N B ((l.length : Int) + 5)).1 = o at *
          have : B.length = (8 * o.length + 4) / 5 := by rw [h3]; unfold b32N; rw [List.length_reverse, let32_length]
          omega
      rw [hno] at c8
      have hyes : B2 = B ∨ (getB32N B2 (l.length : Int)).2 = false ∨ (getB32N B2 (l.length : Int)).1 ≠ l := by
        cases hg : (getB32N B2 (l.length : Int)).2 with
        | false => exact .inr (.inl rfl)
        | true =>
          by_cases ho : (getB32N B2 (l.length : Int)).1 = l
          · left
            rw [(getb32_only B2 _ hg).1, ho, HBE.out]
          · exact .inr (.inr ho)
      obtain ⟨o, ok, hG⟩ : ∃ o ok, getB32N B2 (l.length : Int) = (o, ok) := ⟨_, _, rfl⟩
      rw [hG] at c7 hyes
      have HYES := Lib.hid hyes
      have HBW := Lib.hid hbW
      have HPUT := Lib.hid hput
      have HWZ := Lib.hid hwz
      have HSTR := Lib.hid hstr
      clear hyes hbW hput hwz hstr hG hno hB2 hW he hr hrB hblk hfr hX HB6 HBE HAE HCE
      go_wp2_with fail
      refine (c7 W).mono ?_
      rintro _ W1 ⟨rfl, hb7⟩
      have HB7 := Lib.hid (HBW.out.trans (hb7.mono HBW.out.size))
      have hput1 : W1.heap[w6.heap.size]? = some (.cells (rowC B2 tl) 5 m) := (hb7.block _ HWZ.out).trans HPUT.out
      have HPUT1 := Lib.hid hput1
      clear hb7 hput1 hs1
      go_wp2_with fail
      refine (c8 W1).mono ?_
      rintro _ W2 ⟨rfl, hb8⟩
      have HB8 := Lib.hid (HB7.out.trans (hb8.mono HB7.out.size))
      have hput2 : W2.heap[w6.heap.size]? = some (.cells (rowC B2 tl) 5 m) := (hb8.block _ (Array.getElem?_eq_some_iff.1 HPUT1.out).1).trans HPUT1.out
      have hs2 := HSTR.out W2 hput2
      clear hb8 hput2 c7 c8
      by_cases e1 : B2 = B
      · subst e1
        go_wp2_with fail
        refine (awake_any W2).mono ?_
        rintro _ w7 ⟨rfl, hb⟩
        go_wp2_with fail
        exact bodyPost_ret (v := .bool true) (by simp [results, Tryd.results4, go_sem]) rfl ⟨rfl, HB8.out.trans (hb.mono HB8.out.size)⟩
      · have hd1 : (B2 == B) = false := by simp [e1]
        cases ok with
        | false =>
          go_wp2_with fail
          refine (awake_any W2).mono ?_
          rintro _ w7 ⟨rfl, hb⟩
          go_wp2_with fail
          exact bodyPost_ret (v := .bool true) (by simp [results, Tryd.results4, go_sem]) rfl ⟨rfl, HB8.out.trans (hb.mono HB8.out.size)⟩
        | true =>
          have hd2 : (o == l) = false := by
            rcases HYES.out with h | h | h
            · exact absurd h e1
            · cases h
            · simpa using h
          go_wp2_with fail
          refine (awake_any W2).mono ?_
          rintro _ w7 ⟨rfl, hb⟩
          go_wp2_with fail
          exact bodyPost_ret (v := .bool true) (by simp [results, Tryd.results4, go_sem]) rfl ⟨rfl, HB8.out.trans (hb.mono HB8.out.size)⟩
      case isFalse hbad =>
        exfalso
        apply hbad
        have hxl := x.toNat_lt
        rw [show wrap64 (x.toNat : Int) = (x.toNat : Int) by unfold wrap64; omega, show (8 * (l.length : Int) + 4) / 5 = (((8 * l.length + 4) / 5 : Nat) : Int) by omega, Int.tmod_eq_emod_of_nonneg (by omega)]
        exact ⟨Int.emod_nonneg _ (by omega), Int.emod_lt_of_pos _ (by omega)⟩
theorem back_walk (a0 : ByteArray) (a1 a2 : Int) (w : World) (w1 : (Lit.int .u8 a1).wf = true) (w2 : (Lit.int .u8 a2).wf = true) :
    Calls Tryd.prog 4 #[.string a0, .int .u8 a1, .int .u8 a2] w fun e w' => e = .returned (.bool true) ∧ Below w.heap.size w w' := by
  obtain ⟨⟨l⟩⟩ := a0
  have h1 : 0 ≤ a1 ∧ a1 < 256 := by simp [Lit.wf, IntKind.min, IntKind.max, IntKind.signed, IntKind.bits] at w1; omega
  have h2 : 0 ≤ a2 ∧ a2 < 256 := by simp [Lit.wf, IntKind.min, IntKind.max, IntKind.signed, IntKind.bits] at w2; omega
  have e1 : ((UInt8.ofNat a1.toNat).toNat : Int) = a1 := by rw [UInt8.toNat_ofNat']; omega
  have e2 : ((UInt8.ofNat a2.toNat).toNat : Int) = a2 := by rw [UInt8.toNat_ofNat']; omega
  have h := back_any l (UInt8.ofNat a1.toNat) (UInt8.ofNat a2.toNat) w
  rw [e1, e2] at h
  exact h
end Go.Proofs.YtalanaongfnndaaDoor

/- The walk of Asks: bytes make what is asked. -/
import Derived.Deep.RegionHeld3
import Derived.Deep.DeepCutAuto
import Derived.Deep.CutBlock
import Derived.IntWalk
import Derived.Test.YtojgfaichkcmpaaAsks0
namespace Go.Proofs.Ytojgfaichkcmpaa
open Go.RowKit

theorem info62 : (Try.prog.info? 62).map (fun i => (i.zero, i.size, i.bytes)) = some (some (.agg #[.int .i64 0, .int .i64 0, .int .i64 0, .string ⟨#[]⟩, .slice none 0 0]), 5, 64) := by kernel_rfl
theorem u8_remW (y : UInt8) (m : Nat) : (IntKind.i64.wrap (y.toNat : Int)).tmod (m : Int) = ((y.toNat % m : Nat) : Int) := by
  have hy256 := y.toNat_lt
  rw [IntWalk.i64_in _ (by omega), Int.tmod_eq_emod_of_nonneg (by omega)]
  omega
set_option maxRecDepth 100000 in
set_option maxHeartbeats 4000000 in
theorem asks_any (v : Value) (l : List UInt8) (w : World) (hl : U8s w v l) (hcap : ∀ a n c, v = .slice a n c → l.length ≤ c) :
    Calls Try.prog 20 #[v] w fun e w' => ∃ u L, e = .returned u ∧ ARow w w' u L ∧ L.length ≤ 50 := by
  obtain ⟨⟨A, c, rfl⟩, hlm⟩ := hl.form
  have hc := hcap _ _ _ rfl
  have hlm' : l.length ≤ 9223372036854775807 := by unfold maxLen at hlm; omega
  have HL := Lib.hid hl
  clear hl hlm hcap
  go_enter Try.func20, Try.ntmps20
  go_wp2_with fail
  rename_i K hK
  have HKK := Lib.hid hK
  clear hK
  go_loopw [3, 4] (fun u z wr => ∃ k i : Nat, i = 3 * k ∧ k ≤ 50 ∧ z = .int .i64 i ∧ ∃ L, Hid (ARow w wr u L) ∧ L.length = k) (fun _ z _ => 1000 - (intOf z).toNat)
  case atStart => exact ⟨0, 0, rfl, by omega, rfl, [], ARow.nil w, rfl⟩
  case round =>
    obtain ⟨k, i, hik, hk, rfl, L, HR, hLk⟩ := hrel
    have hR := HR.out
    have hi150 : i ≤ 150 := by omega
    have HIK := Lib.hid hik
    have HLK := Lib.hid hLk
    have hL50 : L.length ≤ 50 := by omega
    clear HR
    obtain ⟨uA, uc, rfl⟩ := ownsRow_form hR.row
    clear hik hLk
    by_cases hlt : i + 2 < l.length ∧ L.length < 50
    · have d1 : decide ((i : Int) + 2 < (l.length : Int)) = true := by simp; omega
      have d2 : decide ((L.length : Int) < 50) = true := by simp; omega
      obtain ⟨h1, h2⟩ := hlt
      have b0 : i < l.length := by omega
      have b1 : i + 1 < l.length := by omega
      have b3 : i + 3 ≤ c := by omega
      have b4 : i ≤ i + 3 := by omega
      have b5 : ¬ c = i := by omega
      obtain ⟨b, o, rfl, hc0⟩ := HL.out.spot i (by omega)
      obtain ⟨b1, o1, e1, hc1⟩ := HL.out.spot (i + 1) (by omega)
      obtain ⟨b2, o2, e2, hc2⟩ := HL.out.spot (i + 2) (by omega)
      simp only [Option.some.injEq, Addr.mk.injEq] at e1 e2
      obtain ⟨rfl, rfl, -⟩ := e1
      obtain ⟨rfl, rfl, -⟩ := e2
      obtain ⟨y0, hy0⟩ : ∃ y, l.getD i 0 = y := ⟨_, rfl⟩
      obtain ⟨y1, hy1⟩ : ∃ y, l.getD (i + 1) 0 = y := ⟨_, rfl⟩
      obtain ⟨y2, hy2⟩ : ∃ y, l.getD (i + 2) 0 = y := ⟨_, rfl⟩
      simp only [hy0] at hc0
      simp only [hy1] at hc1
      simp only [hy2] at hc2
      clear hy0 hy1 hy2
      have hconv : ∀ x : Ext, (convert 31 9 (.slice (some ⟨b, o + i, none⟩) 3 (c - i))).run Try.prog (plus wr x) = .ok (strV [y0, y1, y2]) (plus wr x) := fun x => by
        have hx := Below.plus hR.below hR.below.size x
        refine run_convert_bytes_back (P := Try.prog) (plus wr x) 31 9 5 ⟨b, o + i, none⟩ (c - i) [y0, y1, y2] Try.underlying31 Try.underlying5 Try.underlying9 fun j hj => ?_
        have : j = 0 ∨ j = 1 ∨ j = 2 := by simp at hj; omega
        rcases this with rfl | rfl | rfl
        · exact (hc0 hx).1
        · exact (hc1 hx).1
        · exact (hc2 hx).1
      obtain ⟨s0, s0'⟩ := hc0 hR.below
      obtain ⟨s1, s1'⟩ := hc1 hR.below
      obtain ⟨s2, s2'⟩ := hc2 hR.below
      have w1 : IntKind.i64.wrap ((i : Int) + 1) = (i : Int) + 1 := IntWalk.i64_in _ (by omega)
      have w2 : IntKind.i64.wrap ((i : Int) + 2) = (i : Int) + 2 := IntWalk.i64_in _ (by omega)
      have w3 : IntKind.i64.wrap ((i : Int) + 3) = (i : Int) + 3 := IntWalk.i64_in _ (by omega)
      have t1 : ((i : Int) + 1).toNat = i + 1 := by omega
      have t2 : ((i : Int) + 2).toNat = i + 2 := by omega
      have t3 : ((i : Int) + 3).toNat = i + 3 := by omega
      have g1 : 0 ≤ (i : Int) + 1 := by omega
      have g2 : 0 ≤ (i : Int) + 2 := by omega
      have g3 : 0 ≤ (i : Int) + 3 := by omega
      have f1 : (i : Int) + 1 < (l.length : Int) := by omega
      have f2 : (i : Int) + 2 < (l.length : Int) := by omega
      have f3 : (i : Int) + 3 ≤ (c : Int) := by omega
      obtain ⟨xd, hxd⟩ : ∃ xd : Int, ((y0.toNat % 9 : Nat) : Int) = xd := ⟨_, rfl⟩
      obtain ⟨xa, hxa⟩ : ∃ xa : Int, ((y1.toNat % 34 : Nat) : Int) = xa := ⟨_, rfl⟩
      obtain ⟨xn, hxn⟩ : ∃ xn : Int, ((y2.toNat % 66 : Nat) : Int) = xn := ⟨_, rfl⟩
      have r0 := u8_remW y0 9
      have r1 := u8_remW y1 34
      have r2 := u8_remW y2 66
      rw [hxd, show ((9 : Nat) : Int) = 9 from rfl] at r0
      rw [hxa, show ((34 : Nat) : Int) = 34 from rfl] at r1
      rw [hxn, show ((66 : Nat) : Int) = 66 from rfl] at r2
      have hn66 : xn ≤ 65 := by omega
      clear hxd hxa hxn
      go_upto_region 5 with fail
      refine wp_region_one 29 85 28 5 62 _ mixed (by kernel_rfl) (by kernel_rfl) rfl alloc62 (fun _ _ _ _ _ h => h) ?_
      simp only [List.take_succ_cons, List.take_zero, List.drop_succ_cons, List.drop_zero]
      repeat (first | (refine wpHead_skip rfl ?_) | (refine wpHead_run rfl rfl (fun K hK => ?_); go_simp; first | (refine hK _ ?_; clear hK K) | (apply Exists.intro; refine ⟨fun _ => ?_, hK _ ?_⟩; (exact sector_ret [y0, y1, y2] _); clear hK K)))
      refine wpHead_nil ?_
      intro zz x1 x2
      clear zz
      have hR1 := hR.on (below_plus wr x1)
      generalize plus wr x1 = V at hR1 ⊢
      clear w1 w2 w3 t1 t2 t3 g1 g2 g3 f1 f2 f3 r0 r1 r2 hconv s0 s0' s1 s1' s2 s2' hR
      have hlt := hR1.lt
      have hw := hR1.below.size
      have hR2 := hR1.on (Below.plus ((Below.refl _ V).alloc (Nat.le_refl _) Z62) (by simp) x2)
      have hY : (plus (V.alloc Z62) x2).heap[V.heap.size]? = some Z62 := (heap_plus x2 (by unfold has; simp)).trans (new_at V _)
      generalize plus (V.alloc Z62) x2 = W1 at hR2 hY ⊢
      obtain ⟨Y, hYe⟩ : ∃ Y, V.heap.size = Y := ⟨_, rfl⟩
      simp only [hYe] at hlt hw hY ⊢
      clear hYe hR1
      have hne : ∀ k, (Value.slice uA L.length uc).ownBlock = some k → k ≠ Y := fun k hk => Nat.ne_of_lt (hlt k hk)
      obtain ⟨s, hs⟩ : ∃ s, secN [y0, y1, y2] = s := ⟨_, rfl⟩
      rw [hs]
      clear hs hlt
      unfold Z62 at hY
      have hR3 := ((((hR2.set Y 0 (.int .i64 xd) hY (by decide) hw hne).set Y 1 (.int .i64 xa) (setCell_block hY 0 _) (by decide) hw hne).set Y 2 (.int .i64 xn) (setCell_block (setCell_block hY 0 _) 1 _) (by decide) hw hne).set Y 3 (strV s) (setCell_block (setCell_block (setCell_block hY 0 _) 1 _) 2 _) (by decide) hw hne).set Y 4 (.slice none 0 0) (setCell_block (setCell_block (setCell_block (setCell_block hY 0 _) 1 _) 2 _) 3 _) (by decide) hw hne
      have hY3 := setCell_block (setCell_block (setCell_block (setCell_block (setCell_block hY 0 (.int .i64 xd)) 1 (.int .i64 xa)) 2 (.int .i64 xn)) 3 (strV s)) 4 (.slice none 0 0)
      simp at hY3
      obtain ⟨p0, p1, p2, p3, p4⟩ := cells5 hY
      have pf : ∀ j, W1.frozen? ⟨Y, j, none⟩ = false := fun j => by simp [World.frozen?, hY]
      have HR3 := Lib.hid hR3
      have HY3 := Lib.hid hY3
      clear hR3 hY3 hY hR2
      go_upto_block 2 with fail
      rw [show (((((W1.setCell ⟨Y, 0, none⟩ (Value.int .i64 xd)).setCell ⟨Y, 1, none⟩ (Value.int .i64 xa)).setCell ⟨Y, 2, none⟩ (Value.int .i64 xn)).setCell ⟨Y, 3, none⟩ (Value.string ⟨s.toArray⟩)).setCell ⟨Y, 4, none⟩ (Value.slice none 0 0)) =
        (((((W1.setCell ⟨Y, 0, none⟩ (Value.int .i64 xd)).setCell ⟨Y, 1, none⟩ (Value.int .i64 xa)).setCell ⟨Y, 2, none⟩ (Value.int .i64 xn)).setCell ⟨Y, 3, none⟩ (strV s)).setCell ⟨Y, 4, none⟩ (Value.slice none 0 0)) from rfl]
      have hR := HR3.out
      have hY := HY3.out
      generalize (((((W1.setCell ⟨Y, 0, none⟩ (Value.int .i64 xd)).setCell ⟨Y, 1, none⟩ (Value.int .i64 xa)).setCell ⟨Y, 2, none⟩ (Value.int .i64 xn)).setCell ⟨Y, 3, none⟩ (strV s)).setCell ⟨Y, 4, none⟩ (Value.slice none 0 0)) = W5 at hR hY ⊢
      clear HR3 HY3 p0 p1 p2 p3 p4 pf
      go_cut [] (fun wc => ∃ (d a n : Int) (A3 : Option Addr) (n3 c3 : Nat) (zs : List Int), Hid (wc.heap[Y]? = some (.cells #[.int .i64 d, .int .i64 a, .int .i64 n, strV s, .slice A3 n3 c3] 62)) ∧ Hid (ARow w wc (.slice uA L.length uc) L) ∧ Hid (IntsO wc (.slice A3 n3 c3) zs) ∧ n ≤ 9223372036854775807)
      case first =>
        obtain ⟨p0, p1, p2, p3, p4⟩ := cells5 hY
        have pf : ∀ j, W5.frozen? ⟨Y, j, none⟩ = false := fun j => by simp [World.frozen?, hY]
        by_cases h5 : xd = 5 ∨ xd = 6 ∨ xd = 7 ∨ xd = 8
        · have HY5 := Lib.hid (setCell_block hY 0 (.int .i64 0))
          have HR5 := Lib.hid (hR.set Y 0 (.int .i64 0) hY (by decide) hw hne)
          rcases h5 with h5 | h5 | h5 | h5
          · have q5 : decide (xd = 5) = true := by simp [h5]
            have q5' : (xd == 5) = true := by simp [h5]
            clear h5
            go_wp2_with fail
            go_meet
            exact ⟨_, _, _, _, _, _, _, HY5.out, HR5.out, .inl ⟨rfl, rfl⟩, by omega⟩
          · have q5 : decide (xd = 5) = false := by simp [h5]
            have q5' : (xd == 5) = false := by simp [h5]
            have q6 : decide (xd = 6) = true := by simp [h5]
            have q6' : (xd == 6) = true := by simp [h5]
            clear h5
            go_wp2_with fail
            go_meet
            exact ⟨_, _, _, _, _, _, _, HY5.out, HR5.out, .inl ⟨rfl, rfl⟩, by omega⟩
          · have q5 : decide (xd = 5) = false := by simp [h5]
            have q5' : (xd == 5) = false := by simp [h5]
            have q6 : decide (xd = 6) = false := by simp [h5]
            have q6' : (xd == 6) = false := by simp [h5]
            have q7 : decide (xd = 7) = true := by simp [h5]
            have q7' : (xd == 7) = true := by simp [h5]
            clear h5
            go_wp2_with fail
            go_meet
            exact ⟨_, _, _, _, _, _, _, HY5.out, HR5.out, .inl ⟨rfl, rfl⟩, by omega⟩
          · have q5 : decide (xd = 5) = false := by simp [h5]
            have q5' : (xd == 5) = false := by simp [h5]
            have q6 : decide (xd = 6) = false := by simp [h5]
            have q6' : (xd == 6) = false := by simp [h5]
            have q7 : decide (xd = 7) = false := by simp [h5]
            have q7' : (xd == 7) = false := by simp [h5]
            have q8 : decide (xd = 8) = true := by simp [h5]
            have q8' : (xd == 8) = true := by simp [h5]
            clear h5
            go_wp2_with fail
            go_meet
            exact ⟨_, _, _, _, _, _, _, HY5.out, HR5.out, .inl ⟨rfl, rfl⟩, by omega⟩
        · have q5 : decide (xd = 5) = false := by simp; omega
          have q5' : (xd == 5) = false := by simp; omega
          have q6 : decide (xd = 6) = false := by simp; omega
          have q6' : (xd == 6) = false := by simp; omega
          have q7 : decide (xd = 7) = false := by simp; omega
          have q7' : (xd == 7) = false := by simp; omega
          have q8 : decide (xd = 8) = false := by simp; omega
          have q8' : (xd == 8) = false := by simp; omega
          by_cases h3 : xd = 3
          · have q3 : decide (xd = 3) = true := by simp [h3]
            have q3' : (xd == 3) = true := by simp [h3]
            clear h5 h3
            have w1 : IntKind.i64.wrap ((i : Int) + 1) = (i : Int) + 1 := IntWalk.i64_in _ (by omega)
            have w2 : IntKind.i64.wrap ((i : Int) + 2) = (i : Int) + 2 := IntWalk.i64_in _ (by omega)
            have t1 : ((i : Int) + 1).toNat = i + 1 := by omega
            have t2 : ((i : Int) + 2).toNat = i + 2 := by omega
            have g1 : 0 ≤ (i : Int) + 1 := by omega
            have g2 : 0 ≤ (i : Int) + 2 := by omega
            have f1 : (i : Int) + 1 < (l.length : Int) := by omega
            have f2 : (i : Int) + 2 < (l.length : Int) := by omega
            obtain ⟨s1, s1'⟩ := hc1 hR.below
            obtain ⟨s2, s2'⟩ := hc2 hR.below
            go_wp2_with fail
            refine wp_region_plain 22 85 mixed (by kernel_rfl) (by kernel_rfl) rfl (fun _ _ _ _ _ h => h) ?_
            simp only [List.take_succ_cons, List.take_zero, List.drop_succ_cons, List.drop_zero]
            repeat (first | (refine wpHead_skip rfl ?_) | (refine wpHead_run rfl rfl (fun K hK => ?_); go_simp; first | (refine hK _ ?_; clear hK K) | (apply Exists.intro; refine ⟨fun _ => ?_, hK _ ?_⟩; (fail); clear hK K)))
            refine wpHead_nil ?_
            intro zz x3
            clear zz
            clear w1 w2 t1 t2 g1 g2 f1 f2 s1 s1' s2 s2' p0 p1 p2 p3 p4 pf
            have hR2 := hR.on (below_plus W5 x3)
            have hY2 := keeps_below hY (below_plus W5 x3)
            generalize plus W5 x3 = V2 at hR2 hY2 ⊢
            have HR5 := Lib.hid hR2
            have HY5 := Lib.hid hY2
            obtain ⟨p0, p1, p2, p3, p4⟩ := cells5 hY2
            have pf : ∀ j, V2.frozen? ⟨Y, j, none⟩ = false := fun j => by simp [World.frozen?, hY2]
            have ph : has V2 Y := (Array.getElem?_eq_some_iff.1 hY2).1
            clear hR hY hR2 hY2
            go_wp2_with fail
            go_meet
            obtain ⟨k1, k2, k3⟩ := askL HR5.out HY5.out hw hne _ _ _
            exact ⟨_, _, _, _, _, _, _, k1, k2, k3, by omega⟩
          · have q3 : decide (xd = 3) = false := by simp [h3]
            have q3' : (xd == 3) = false := by simp [h3]
            have HY5 := Lib.hid hY
            have HR5 := Lib.hid hR
            clear h5 h3
            go_wp2_with fail
            go_meet
            exact ⟨_, _, _, _, _, _, _, HY5.out, HR5.out, .inl ⟨rfl, rfl⟩, by omega⟩
      case rest =>
        obtain ⟨d, a, n, A3, n3, c3, zs, HY, HRc, HI, hn⟩ := hcut
        clear hR hY
        have hY := HY.out
        clear HY
        obtain ⟨p0, p1, p2, p3, p4⟩ := cells5 hY
        have hone : ∀ v ∈ (⟨d, a, n, s, .slice A3 n3 c3, zs⟩ : AskN).cells, v.oneCell' = true := by
          intro v hv
          simp [AskN.cells] at hv
          rcases hv with rfl | rfl | rfl | rfl | rfl <;> rfl
        have HONE := Lib.hid hone
        clear hone hY
        go_wp2_with (at_builtin; refine wpList_appendOwn rfl _ _ 42 62 rfl Try.underlying42 _ 5 64 info62 rfl (.slice uA L.length uc) L.length (L.flatMap AskN.cells) (AskN.cells ⟨d, a, n, s, .slice A3 n3 c3, zs⟩) 1 rfl HRc.out.row _ wc.heap.size rfl rfl rfl HONE.out (by omega) (by omega) (by omega) (by omega) ?_; intro v' w1 hrow1 hg1 hown1; have HA := Lib.hid (HRc.out.app (x := ⟨d, a, n, s, .slice A3 n3 c3, zs⟩) HI.out hn hg1 hrow1 hown1); clear hrow1 hg1 hown1)
        go_roundw
        case rel => exact ⟨k + 1, i + 3, by have := HIK.out; omega, by have := HLK.out; omega, by go_num, L ++ [(⟨d, a, n, s, .slice A3 n3 c3, zs⟩ : AskN)], HA.out, by have := HLK.out; simp; omega⟩
        case measure => simp [intOf]; omega
    · rcases Nat.lt_or_ge (i + 2) l.length with h1 | h1
      · have d1 : decide ((i : Int) + 2 < (l.length : Int)) = true := by simp; omega
        have d2 : decide ((L.length : Int) < 50) = false := by simp; omega
        go_wp2_with fail
        refine HKK.out _ _ ?_
        clear HKK
        go_wp2_with fail
        exact bodyPost_ret (v := .slice uA L.length uc) (by simp [results, Try.results20, go_sem]) rfl ⟨_, L, rfl, hR, hL50⟩
      · have d1 : decide ((i : Int) + 2 < (l.length : Int)) = false := by simp; omega
        go_wp2_with fail
        refine HKK.out _ _ ?_
        clear HKK
        go_wp2_with fail
        exact bodyPost_ret (v := .slice uA L.length uc) (by simp [results, Try.results20, go_sem]) rfl ⟨_, L, rfl, hR, hL50⟩
end Go.Proofs.Ytojgfaichkcmpaa

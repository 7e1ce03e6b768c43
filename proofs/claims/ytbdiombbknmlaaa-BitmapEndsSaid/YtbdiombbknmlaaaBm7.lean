/- Walks: runs compared; the document's example; runs by numbers. -/
import Derived.Laws.StructEq
import Derived.Test.YtbdiombbknmlaaaU8
import Derived.Test.YtbdiombbknmlaaaBm6
namespace Go.Proofs.Ytbdiombbknmlaaa
open Go.RowKit

theorem eqR (a b c d : Int) (w : World) : (Op.equalIn 10000 28 (.agg #[.int .i64 a, .int .i64 b]) (.agg #[.int .i64 c, .int .i64 d])).run Try.prog w = .ok (decide (a = c ∧ b = d)) w := by
  have u3 := Try.underlying3
  have a3 := Try.isAgg3
  have z3 := Try.sizeOf3
  have hS : Try.prog.underlying 28 = some (.struct (Try.prog.fieldsOf 28)) := by kernel_rfl
  have hp : Try.prog.stoodInHeld 28 = false := by kernel_rfl
  rw [show (10000 : Nat) = 9999 + 1 from rfl, run_equalIn_agg w 9999 28 _ _ hS hp]
  simp only [Program.fieldsOf, Try.underlying28]
  go_simp
  by_cases h1 : a = c <;> by_cases h2 : b = d <;> simp [h1, h2]
attribute [go_sem] eqR
set_option maxRecDepth 100000 in
theorem awake_any (hS : Sorts) (W : World) : Calls Try.prog 8 #[] W fun e w' => e = .returned (.bool true) ∧ Below W.heap.size W w' := by
  have HF := Lib.hid (free_any hS W (.slice none 0 0) [] 10 12 (.inl ⟨rfl, .inl rfl⟩) (by simp) (fun x hx => by cases hx) (by omega) (by omega))
  go_enter Try.func8, Try.ntmps8
  go_wp2_with fail
  refine HF.out.mono ?_
  rintro _ V ⟨v1, l', rfl, hp, -, hR⟩
  obtain rfl : l' = [] := List.perm_nil.1 hp
  have e : (freeS ([] ++ [(max 10 12, 0)]) 10 12).1 = [(10, 2)] := by decide
  rw [e] at hR
  have HC := Lib.hid (count_any V v1 [(10, 2)] hR.rin (by simp) (fun x hx => by simp at hx; subst hx; simp))
  have hb := hR.below
  obtain ⟨A, c, rfl⟩ := hR.form
  obtain ⟨g, rfl, -, g1, g2, g3, -⟩ := hR.at 0 (10, 2) rfl
  rw [show countN [(10, 2)] = 2 from rfl, show ([(10, 2)] : List Run).length = 1 from rfl] at HC
  rw [Nat.zero_mul] at g2 g3
  clear hR e HF hp
  go_wp2_with fail
  refine HC.out.mono ?_
  rintro _ V2 ⟨rfl, hb2⟩
  have HB := Lib.hid (hb.trans (hb2.mono hb.size))
  clear hb hb2 HC g1 g2 g3
  go_wp2_with fail
  exact bodyPost_ret (v := .bool true) (by simp [results, Try.results8, go_sem]) rfl ⟨rfl, HB.out⟩
/-- Runs of bytes. -/
def Tiny (l : List Run) : Prop := ∀ x ∈ l, 0 ≤ x.1 ∧ x.1 ≤ 255 ∧ 0 ≤ x.2 ∧ x.2 < 20
set_option maxRecDepth 100000 in
theorem runs_any (v : Value) (l : List UInt8) (w : World) (hl : U8s w v l) : Calls Try.prog 6 #[v] w fun e w' => ∃ v' L, e = .returned v' ∧ RR w w' v' L ∧ L.length ≤ 20 ∧ Tiny L := by
  obtain ⟨⟨A, c, rfl⟩, hlm⟩ := hl.form
  have hlm' : l.length ≤ 9223372036854775807 := by unfold maxLen at hlm; omega
  have HL := Lib.hid hl
  clear hl hlm
  go_enter Try.func6, Try.ntmps6
  go_wp2_with fail
  rename_i K hK
  have HKK := Lib.hid hK
  clear hK
  go_loopw [3, 4] (fun u z wr => ∃ k i : Nat, i = 2 * k ∧ k ≤ 20 ∧ z = .int .i64 i ∧ ∃ L, Hid (RR w wr u L) ∧ L.length = k ∧ Hid (Tiny L)) (fun _ z _ => 1000 - (intOf z).toNat)
  case atStart => exact ⟨0, 0, rfl, by omega, rfl, [], RR.nil w, rfl, fun x hx => by cases hx⟩
  case round =>
    obtain ⟨k, i, hik, hk, rfl, L, HR, hLk, HT⟩ := hrel
    have hR := HR.out
    have hi40 : i ≤ 40 := by omega
    have HIK := Lib.hid hik
    have HLK := Lib.hid hLk
    have hL20 : L.length ≤ 20 := by omega
    clear HR hik hLk
    obtain ⟨uA, uc, rfl⟩ := hR.form
    by_cases hlt : i + 1 < l.length ∧ L.length < 20
    · have d1 : decide ((i : Int) + 1 < (l.length : Int)) = true := by simp; omega
      have d2 : decide ((L.length : Int) < 20) = true := by simp; omega
      obtain ⟨h1, h2⟩ := hlt
      have b0 : i < l.length := by omega
      obtain ⟨b, o, rfl, hc0⟩ := HL.out.spot i (by omega)
      obtain ⟨b1, o1, e1, hc1⟩ := HL.out.spot (i + 1) (by omega)
      simp only [Option.some.injEq, Addr.mk.injEq] at e1
      obtain ⟨rfl, rfl, -⟩ := e1
      obtain ⟨y0, hy0⟩ : ∃ y, l.getD i 0 = y := ⟨_, rfl⟩
      obtain ⟨y1, hy1⟩ : ∃ y, l.getD (i + 1) 0 = y := ⟨_, rfl⟩
      simp only [hy0] at hc0
      simp only [hy1] at hc1
      clear hy0 hy1
      obtain ⟨s0, s0'⟩ := hc0 hR.below
      obtain ⟨s1, s1'⟩ := hc1 hR.below
      have w1 : IntKind.i64.wrap ((i : Int) + 1) = (i : Int) + 1 := IntWalk.i64_in _ (by omega)
      have t1 : ((i : Int) + 1).toNat = i + 1 := by omega
      have g1 : 0 ≤ (i : Int) + 1 := by omega
      have f1 : (i : Int) + 1 < (l.length : Int) := by omega
      have r0 : IntKind.i64.wrap (y0.toNat : Int) = (y0.toNat : Int) := IntWalk.i64_in _ (by have := y0.toNat_lt; omega)
      obtain ⟨xn, hxn⟩ : ∃ xn : Int, ((y1.toNat % 20 : Nat) : Int) = xn := ⟨_, rfl⟩
      obtain ⟨xa, hxa⟩ : ∃ xa : Int, (y0.toNat : Int) = xa := ⟨_, rfl⟩
      have r1 := u8_remW y1 20
      rw [hxn, show ((20 : Nat) : Int) = 20 from rfl] at r1
      have r2 : IntKind.i64.wrap (y1.toNat : Int) = (y1.toNat : Int) := IntWalk.i64_in _ (by have := y1.toNat_lt; omega)
      rw [r2] at r1
      have htiny : 0 ≤ xa ∧ xa ≤ 255 ∧ 0 ≤ xn ∧ xn < 20 := by have := y0.toNat_lt; omega
      simp only [hxa] at s0 r0
      have HTN := Lib.hid htiny
      clear hxn hxa htiny
      go_wp2_with fail
      refine wp_region_plain 14 34 mixed (by kernel_rfl) (by kernel_rfl) rfl (fun _ _ _ _ _ h => h) ?_
      simp only [List.take_succ_cons, List.take_zero, List.drop_succ_cons, List.drop_zero]
      repeat (first | (refine wpHead_skip rfl ?_) | (refine wpHead_run rfl rfl (fun K hK => ?_); go_simp; first | (refine hK _ ?_; clear hK K) | (apply Exists.intro; refine ⟨fun _ => ?_, hK _ ?_⟩; (fail); clear hK K)))
      refine wpHead_nil ?_
      intro zz x1
      clear zz
      have hR2 := hR.on (below_plus wr x1)
      generalize plus wr x1 = V at hR2 ⊢
      have HR2 := Lib.hid hR2
      have hone := flatR_one [(xa, xn)]
      have HONE := Lib.hid hone
      clear w1 t1 g1 f1 r0 r1 r2 s0 s0' s1 s1' hR hR2 hone
      go_wp2_with (at_builtin; refine wpList_appendAt rfl _ _ 23 28 rfl Try.underlying23 _ 2 16 info28 rfl (.slice uA L.length uc) L.length (flatR L) (flatR [(xa, xn)]) 1 rfl (World.ownsRow.alloc HR2.out.row _) ⟨V.heap.size, 0, none⟩ _ rfl (news_new V 28 _) rfl HONE.out (by omega) (.inl (by omega)) (by omega) (by omega) ?_; intro v' w1 hrow1 hg1 hown1 hnl1; clear hnl1; have HA := Lib.hid (HR2.out.app [(xa, xn)] hg1 hrow1 hown1); clear hrow1 hg1 hown1)
      go_roundw
      case rel => exact ⟨k + 1, i + 2, by have := HIK.out; omega, by have := HLK.out; omega, by go_num, L ++ [(xa, xn)], HA.out, by have := HLK.out; simp; omega, fun x hx => (List.mem_append.1 hx).elim (HT.out x) fun h => by simp only [List.mem_singleton] at h; subst h; exact HTN.out⟩
      case measure => simp [intOf]; omega
    · rcases Nat.lt_or_ge (i + 1) l.length with h1 | h1
      · have d1 : decide ((i : Int) + 1 < (l.length : Int)) = true := by simp; omega
        have d2 : decide ((L.length : Int) < 20) = false := by simp; omega
        go_wp2_with fail
        refine HKK.out _ _ ?_
        clear HKK
        go_wp2_with fail
        exact bodyPost_ret (v := .slice uA L.length uc) (by simp [results, Try.results6, go_sem]) rfl ⟨_, L, rfl, hR, hL20, HT.out⟩
      · have d1 : decide ((i : Int) + 1 < (l.length : Int)) = false := by simp; omega
        go_wp2_with fail
        refine HKK.out _ _ ?_
        clear HKK
        go_wp2_with fail
        exact bodyPost_ret (v := .slice uA L.length uc) (by simp [results, Try.results6, go_sem]) rfl ⟨_, L, rfl, hR, hL20, HT.out⟩
end Go.Proofs.Ytbdiombbknmlaaa

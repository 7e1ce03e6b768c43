/- Walks: does a text hold one of two bytes, whatever else it holds. -/
import Derived.Test.YtmlefodnbbkilaaNa2
import Derived.Laws.RangeString
import Derived.LoopTactic
import Derived.Shelf.Strings.IndexAny
import Derived.Laws.Small
import Derived.WalkMore
import Derived.Deep.RegionHeld3
namespace Go.Proofs.Ytmlefodnbbkilaa
open Go.RowKit

theorem run_next_any {P : Program} (w : World) (s : ByteArray) (pos : Nat) (ty : TypeId) (h : pos < s.size) :
    (Instr.next (.pointer (some ⟨w.heap.size, 0, none⟩)) true ty).run P (w.iter s pos) =
      .ok (.tuple #[.bool true, .int .i64 pos, .int .i32 ((Utf8.decode s pos).1 : Int)]) (w.iter s (pos + (Utf8.decode s pos).2)) := by
  simp only [Instr.next, getObj, setObj, Sem.run_bind, Sem.run, World.iter_heap, Result.andThen, h, if_true, World.iter_set]
  simp [goInt]
/-- One rune of any text. -/
theorem decode_spec (s : ByteArray) (i : Nat) (h : i < s.size) :
    ((s.get! i).toNat < 128 ∧ Utf8.decode s i = ((s.get! i).toNat, 1)) ∨
    ∃ c k, Utf8.decode s i = (c, k) ∧ 128 ≤ c ∧ Utf8.valid (c : Int) = true ∧ 1 ≤ k ∧ i + k ≤ s.size ∧ ∀ j, i ≤ j → j < i + k → 128 ≤ (s.get! j).toNat := by
  by_cases h0 : (s.get! i).toNat < 128
  · refine .inl ⟨h0, ?_⟩
    simp [Utf8.decode, h0]
  · refine .inr ?_
    have he : Utf8.valid ((Utf8.runeError : Nat) : Int) = true := by decide
    have hone : ∀ j, i ≤ j → j < i + 1 → 128 ≤ (s.get! j).toNat := fun j h1 h2 => by
      obtain rfl : j = i := by omega
      omega
    have herr : 128 ≤ Utf8.runeError := by decide
    unfold Utf8.decode
    simp only [Nat.add_zero]
    rw [if_neg h0]
    split
    · rename_i h1
      simp only [Bool.and_eq_true, beq_iff_eq, decide_eq_true_eq] at h1
      split
      · rename_i h2
        refine ⟨_, _, rfl, h2, ?_, by omega, by omega, fun j h3 h4 => ?_⟩
        · have : ((s.get! i).toNat % 32) * 64 + (s.get! (i + 1)).toNat % 64 < 2048 := by omega
          simp only [Utf8.valid, Bool.or_eq_true, Bool.and_eq_true, decide_eq_true_eq]
          omega
        · have : j = i ∨ j = i + 1 := by omega
          rcases this with rfl | rfl <;> omega
      · exact ⟨_, _, rfl, herr, he, by omega, by omega, hone⟩
    · split
      · rename_i h1
        simp only [Bool.and_eq_true, beq_iff_eq, decide_eq_true_eq] at h1
        split
        · rename_i h2
          simp only [Bool.and_eq_true, decide_eq_true_eq] at h2
          refine ⟨_, _, rfl, by omega, h2.2, by omega, by omega, fun j h3 h4 => ?_⟩
          have : j = i ∨ j = i + 1 ∨ j = i + 2 := by omega
          rcases this with rfl | rfl | rfl <;> omega
        · exact ⟨_, _, rfl, herr, he, by omega, by omega, hone⟩
      · split
        · rename_i h1
          simp only [Bool.and_eq_true, beq_iff_eq, decide_eq_true_eq] at h1
          split
          · rename_i h2
            simp only [Bool.and_eq_true, decide_eq_true_eq] at h2
            refine ⟨_, _, rfl, by omega, h2.2, by omega, by omega, fun j h3 h4 => ?_⟩
            have : j = i ∨ j = i + 1 ∨ j = i + 2 ∨ j = i + 3 := by omega
            rcases this with rfl | rfl | rfl | rfl <;> omega
          · exact ⟨_, _, rfl, herr, he, by omega, by omega, hone⟩
        · exact ⟨_, _, rfl, herr, he, by omega, by omega, hone⟩
/-- A great rune's letters. -/
theorem encode_spec (c : Nat) (h : 128 ≤ c) (hv : Utf8.valid (c : Int) = true) : ∃ l : List UInt8, Utf8.encode (c : Int) = ⟨l.toArray⟩ ∧ (l.length = 2 ∧ (∃ a b, l = [a, b] ∧ 128 ≤ b.toNat) ∨ 3 ≤ l.length ∧ l.length ≤ 4) := by
  unfold Utf8.encode
  rw [hv]
  simp only [if_true, Int.toNat_natCast]
  rw [if_neg (by omega)]
  split
  · refine ⟨_, rfl, .inl ⟨rfl, _, _, rfl, ?_⟩⟩
    rw [UInt8.toNat_ofNat']
    omega
  · split
    · exact ⟨_, rfl, .inr ⟨by simp, by simp⟩⟩
    · exact ⟨_, rfl, .inr ⟨by simp, by simp⟩⟩
set_option maxRecDepth 100000 in
set_option maxHeartbeats 1000000 in
theorem rune_far (c : Nat) (W : World) (h : 128 ≤ c) (hv : Utf8.valid (c : Int) = true) : Calls Try.prog 71 #[.string ⟨#[0, 47]⟩, .int .i32 (c : Int)] W fun e w' => e = .returned (.int .i64 (-1)) ∧ Below W.heap.size W w' := by
  have d1 : decide ((c : Int) < 128) = false := by simp; omega
  have d0 : decide ((0 : Int) ≤ (c : Int)) = true := by simp
  by_cases he : c = 65533
  · subst he
    clear hv
    obtain ⟨S, hS⟩ : ∃ S : ByteArray, (⟨#[0, 47]⟩ : ByteArray) = S := ⟨_, rfl⟩
    have n0 : ∀ ty, (Instr.next (.pointer (some ⟨W.heap.size, 0, none⟩)) true ty).run Try.prog (W.iter S 0) = .ok (.tuple #[.bool true, .int .i64 0, .int .i32 0]) (W.iter S 1) := fun ty => by
      subst hS
      exact run_next_ascii (P := Try.prog) W ⟨#[0, 47]⟩ 0 ty (by decide) (by decide)
    have n1 : ∀ ty, (Instr.next (.pointer (some ⟨W.heap.size, 0, none⟩)) true ty).run Try.prog (W.iter S 1) = .ok (.tuple #[.bool true, .int .i64 1, .int .i32 47]) (W.iter S 2) := fun ty => by
      subst hS
      exact run_next_ascii (P := Try.prog) W ⟨#[0, 47]⟩ 1 ty (by decide) (by decide)
    have n2 : ∀ ty, (Instr.next (.pointer (some ⟨W.heap.size, 0, none⟩)) true ty).run Try.prog (W.iter S 2) = .ok (.tuple #[.bool false]) (W.iter S 2) := fun ty => by
      subst hS
      exact run_next_end (P := Try.prog) W ⟨#[0, 47]⟩ 2 ty (by decide)
    rw [hS]
    have hbel : ∀ i, Below W.heap.size W (W.iter S i) := fun i => (Below.refl _ W).alloc (Nat.le_refl _) _
    have HBEL := Lib.hid hbel
    clear hbel hS
    go_enter Try.func71, Try.ntmps71
    go_wp2_with fail
    go_loopg [5, 6] 2 (fun g _ _ wx => ∃ i : Nat, i + g = 2 ∧ wx = W.iter S i)
    case atStart => exact ⟨0, by omega, rfl⟩
    case round =>
      obtain ⟨i, hig, rfl⟩ := hrel
      cases gk with
      | zero =>
        obtain rfl : i = 2 := by omega
        go_wp2_with fail
        exact bodyPost_ret (v := .int .i64 (-1)) (by simp [results, Try.results71, go_sem]) rfl ⟨rfl, HBEL.out _⟩
      | succ g =>
        have : i = 0 ∨ i = 1 := by omega
        rcases this with rfl | rfl
        · go_wp2_with fail
          go_roundg g
          case measure => omega
          case rel => exact ⟨1, by omega, rfl⟩
        · go_wp2_with fail
          go_roundg g
          case measure => omega
          case rel => exact ⟨2, by omega, rfl⟩
  · have d2 : ((c : Int) == 65533) = false := by simp; omega
    obtain ⟨S, hS⟩ : ∃ S : ByteArray, (⟨#[0, 47]⟩ : ByteArray) = S := ⟨_, rfl⟩
    rw [hS]
    obtain ⟨l, hl, hc⟩ := encode_spec c h hv
    have HL := Lib.hid hl
    have HV := Lib.hid hv
    have hvr : Lib.validRune (c : Int) = true := by
      simp only [Utf8.valid, Bool.or_eq_true, Bool.and_eq_true, decide_eq_true_eq] at hv
      simp only [Lib.validRune, decide_eq_true_eq]
      omega
    have HVR := Lib.hid fun V => Try.utf8_ValidRune (c : Int) V
    rw [hvr] at HVR
    clear hl hv hvr
    go_enter Try.func71, Try.ntmps71
    go_wp2_with fail
    refine (HVR.out _).mono ?_
    rintro _ V ⟨rfl, hV⟩
    rw [hV]
    clear hV HVR
    rcases hc with ⟨h2, a, b, rfl, hb⟩ | ⟨h3, h4⟩
    · obtain ⟨E, hE⟩ : ∃ E : ByteArray, (⟨#[a, b]⟩ : ByteArray) = E := ⟨_, rfl⟩
      have hconv : (convert 21 9 (.int .i32 (c : Int))).run Try.prog W = .ok (.string E) W := by
        rw [← hE, show (⟨#[a, b]⟩ : ByteArray) = ⟨[a, b].toArray⟩ from rfl, ← HL.out]
        simp [convert, run_underlying Try.underlying21, run_underlying Try.underlying9]
        simp [Conv.intToString, go_sem]
      have esz : E.size = 2 := by rw [← hE]; rfl
      have e1 : ∀ p, ((E[1]'p).toNat : Int) = (b.toNat : Int) := fun p => by subst hE; rfl
      have ssz : S.size = 2 := by rw [← hS]; rfl
      have s1 : ∀ p, ((S[1]'p).toNat : Int) = 47 := fun p => by subst hS; rfl
      have sex : S.extract 2 2 = ⟨#[]⟩ := by rw [← hS]; rfl
      have hnb : ((47 : Int) != (b.toNat : Int)) = true := by simp only [bne_iff_ne, ne_eq]; omega
      have HIX := Lib.hid fun V => Try.strings_IndexByte ⟨#[]⟩ (b.toNat : Int) V
      have hix : Lib.indexByte (⟨#[]⟩ : ByteArray).data.toList ((b.toNat : Int)).toNat.toUInt8 = -1 := rfl
      rw [hix] at HIX
      clear hE hix h2
      go_wp2_with fail
      apply wp_scope_straight
      go_wp2_with fail
      rename_i K hK
      have HKK := Lib.hid hK
      clear hK
      go_loopw [9] (fun z wr => z = .int .i64 1 ∧ Hid (wr = W)) (fun _ _ => 0)
      case atStart => exact ⟨rfl, rfl⟩
      case round =>
        obtain ⟨rfl, HW⟩ := hrel
        have hW := HW.out
        subst hW
        go_wp2_with fail
        apply wp_scope_straight
        go_wp2_with fail
        go_region_held3 (fun w' => True) (first | exact trivial) (first | exact trivial)
        all_goals
          have q1 : IntKind.i64.wrap 2 = 2 := by decide
          have q2 : IntKind.i64.wrap (1 + 1) = 2 := by decide
          go_wp2_with fail
          go_region_held3 (fun w' => True) (first | exact trivial) (first | (go_at_call 79; refine (HIX.out _).mono ?_; rintro _ _ ⟨rfl, rfl⟩))
          all_goals
            go_wp2_with fail
            repeat (simp only [Exit.noGoto_ret]; go_wp2_with fail)
            exact bodyPost_ret (v := .int .i64 (-1)) (by simp [results, Try.results71, go_sem]) rfl ⟨rfl, ⟨rfl, rfl, rfl, Nat.le_refl _, fun _ _ => rfl⟩⟩
    · have ssz : S.size = 2 := by rw [← hS]; rfl
      clear hS
      have hle : ¬ ((l.length : Int) - 1 < 2) := by omega
      have hconv : (convert 21 9 (.int .i32 (c : Int))).run Try.prog W = .ok (.string ⟨l.toArray⟩) W := by
        rw [← HL.out]
        simp [convert, run_underlying Try.underlying21, run_underlying Try.underlying9]
        simp [Conv.intToString, go_sem]
      go_wp2_with fail
      apply wp_scope_straight
      go_wp2_with fail
      rename_i K hK
      have HKK := Lib.hid hK
      clear hK
      go_loopw [9] (fun z wr => z = .int .i64 ((l.length : Int) - 1) ∧ Hid (wr = W)) (fun _ _ => 0)
      case atStart => exact ⟨rfl, rfl⟩
      case round =>
        obtain ⟨rfl, HW⟩ := hrel
        have hW := HW.out
        subst hW
        have hd : decide ((l.length : Int) - 1 < 2) = false := by simp; omega
        go_wp2_with fail
        refine HKK.out _ _ ?_
        go_wp2_with fail
        simp only [Exit.noGoto_ret]
        go_wp2_with fail
        exact bodyPost_ret (v := .int .i64 (-1)) (by simp [results, Try.results71, go_sem]) rfl ⟨rfl, Below.refl _ _⟩
end Go.Proofs.Ytmlefodnbbkilaa

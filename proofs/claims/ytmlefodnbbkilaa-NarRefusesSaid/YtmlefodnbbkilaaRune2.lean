/- Walks: does a text hold a separator, or nought. -/
import Derived.Test.YtmlefodnbbkilaaRune1
import Derived.Test.YtmlefodnbbkilaaNa3
namespace Go.Proofs.Ytmlefodnbbkilaa
open Go.RowKit

def turnB (w : World) (r : Nat) (o : Obj) : World := { w with heap := w.heap.setIfInBounds r o }
theorem turnB_at {w : World} {r : Nat} {o o' : Obj} (h : w.heap[r]? = some o') : (turnB w r o).heap[r]? = some o := by
  have := (Array.getElem?_eq_some_iff.1 h).1
  simp [turnB, this]
theorem turnB_below {B : Nat} {W w : World} (r : Nat) (o : Obj) (h : Below B W w) (hr : B ≤ r) : Below B W (turnB w r o) :=
  ⟨h.os, h.tape, h.output, by simpa [turnB] using h.size, fun k hk => by
    have : k ≠ r := by omega
    rw [← h.block k hk]
    simp [turnB, Ne.symm this]⟩
theorem next_run {P : Program} (w : World) (r : Nat) (s : ByteArray) (pos : Nat) (ty : TypeId) (hr : w.heap[r]? = some (.stringIter s pos)) (h : pos < s.size) :
    (Instr.next (.pointer (some ⟨r, 0, none⟩)) true ty).run P w = .ok (.tuple #[.bool true, .int .i64 pos, .int .i32 ((Utf8.decode s pos).1 : Int)]) (turnB w r (.stringIter s (pos + (Utf8.decode s pos).2))) := by
  simp only [Instr.next, getObj, setObj, Sem.run_bind, Sem.run, hr, Result.andThen, h, if_true]
  simp [goInt, turnB]
theorem next_end {P : Program} (w : World) (r : Nat) (s : ByteArray) (pos : Nat) (ty : TypeId) (hr : w.heap[r]? = some (.stringIter s pos)) (h : ¬ pos < s.size) :
    (Instr.next (.pointer (some ⟨r, 0, none⟩)) true ty).run P w = .ok (.tuple #[.bool false]) w := by
  simp [Instr.next, getObj, Sem.run, hr, h]
def isSep (b : UInt8) : Bool := b == 0 || b == 47
theorem any_sep (s : Bs) : s.any isSep = (s.contains 0 || s.contains 47) := by
  induction s with
  | nil => rfl
  | cons a s ih =>
    simp only [List.any_cons, List.contains_cons, ih, isSep]
    have e1 : (a == 0) = ((0 : UInt8) == a) := Bool.eq_iff_iff.2 ⟨fun h => beq_iff_eq.2 (beq_iff_eq.1 h).symm, fun h => beq_iff_eq.2 (beq_iff_eq.1 h).symm⟩
    have e2 : (a == 47) = ((47 : UInt8) == a) := Bool.eq_iff_iff.2 ⟨fun h => beq_iff_eq.2 (beq_iff_eq.1 h).symm, fun h => beq_iff_eq.2 (beq_iff_eq.1 h).symm⟩
    rw [e1, e2]
    cases ((0 : UInt8) == a) <;> cases ((47 : UInt8) == a) <;> cases s.contains 0 <;> simp
def NoSep (s : Bs) (i : Nat) : Prop := ∀ j, j < i → ∀ b, s[j]? = some b → isSep b = false
theorem index_sep (x : UInt8) : decide ((0 : Int) ≤ Lib.indexByte (⟨#[0, 47]⟩ : ByteArray).data.toList x) = isSep x := by
  rw [← Lib.contains_iff_indexByte]
  have e : (⟨#[0, 47]⟩ : ByteArray).data.toList = [0, 47] := rfl
  rw [e]
  simp only [isSep, List.contains_cons, List.contains_nil, Bool.or_false]
set_option maxRecDepth 100000 in
set_option maxHeartbeats 1000000 in
theorem index_short (s : Bs) (W : World) (h8 : s.length ≤ 8) : Calls Try.prog 60 #[strV s, .string ⟨#[0, 47]⟩] W fun e w' => (∃ i, e = .returned (.int .i64 i) ∧ decide (0 ≤ i) = s.any isSep) ∧ Below W.heap.size W w' := by
  obtain ⟨S, hS⟩ : ∃ S : ByteArray, (⟨#[0, 47]⟩ : ByteArray) = S := ⟨_, rfl⟩
  have ssz : S.size = 2 := by rw [← hS]; rfl
  have sem : S.toList.isEmpty = false := by rw [← hS, Lib.toList_data]; rfl
  have HSU := Lib.hid fun n V => Try.strings_shouldUseASCIISet n V
  have hsz : (⟨s.toArray⟩ : ByteArray).size = s.length := rfl
  have h8z : decide ((8 : Int) < (s.length : Int)) = false := decide_eq_false (by omega)
  have hget : ∀ j (hj : j < s.length), (⟨s.toArray⟩ : ByteArray).get! j = s[j] := fun j hj => by
    simp [ByteArray.get!, getElem!_pos, hj]
  have HGET := Lib.hid hget
  have HIA := Lib.hid fun r V h0 h1 => Try.strings_IndexRune_ascii S r V h0 h1
  have HSEP := Lib.hid index_sep
  have HFAR := Lib.hid rune_far
  rw [hS] at HSEP HFAR ⊢
  have hit : ∀ V : World, Below V.heap.size V (V.iter ⟨s.toArray⟩ 0) := fun V => (Below.refl _ V).alloc (Nat.le_refl _) _
  have HIT := Lib.hid hit
  clear hS hget hit
  go_enter Try.func60, Try.ntmps60
  go_wp2_with fail
  refine (HSU.out _ _).mono ?_
  rintro _ V ⟨rfl, hV⟩
  rw [hV]
  clear hV
  go_wp2_with fail
  have hi0 : (W.iter ⟨s.toArray⟩ 0).heap[W.heap.size]? = some (.stringIter ⟨s.toArray⟩ 0) := World.iter_heap W _ 0
  have HI0 := Lib.hid hi0
  clear hi0
  rename_i K hK
  have HKK := Lib.hid hK
  clear hK
  go_loopg [9, 10] s.length (fun g _ _ wx => ∃ i : Nat, i + g = s.length ∧ Hid (Below W.heap.size W wx) ∧ Hid (wx.heap[W.heap.size]? = some (.stringIter ⟨s.toArray⟩ i)) ∧ Hid (NoSep s i))
  case atStart => exact ⟨0, by omega, HIT.out W, HI0.out, fun j hj => by omega⟩
  case round =>
    obtain ⟨i, hig, HB, HI, HN⟩ := hrel
    cases gk with
    | zero =>
      obtain rfl : i = s.length := by omega
      have hnx := fun ty => next_end (P := Try.prog) wr W.heap.size ⟨s.toArray⟩ s.length ty HI.out (by rw [hsz]; omega)
      have hany : s.any isSep = false := by
        apply List.any_eq_false.2
        intro b hb
        obtain ⟨j, hj⟩ := List.getElem?_of_mem hb
        have := HN.out j (List.getElem?_eq_some_iff.1 hj).1 b hj
        simp [this]
      have HA := Lib.hid hany
      clear hany
      go_wp2_with fail
      refine HKK.out _ _ ?_
      go_wp2_with fail
      exact bodyPost_ret (v := .int .i64 (-1)) (by simp [results, Try.results60, go_sem]) rfl ⟨⟨_, rfl, by rw [HA.out]; rfl⟩, HB.out⟩
    | succ g =>
      have hi : i < s.length := by omega
      have hnx := fun ty => next_run (P := Try.prog) wr W.heap.size ⟨s.toArray⟩ i ty HI.out (by rw [hsz]; omega)
      have hx := HGET.out i hi
      obtain ⟨x, hxe⟩ : ∃ x, s[i] = x := ⟨_, rfl⟩
      rw [hxe] at hx
      have hxl : s[i]? = some x := by rw [← hxe]; exact List.getElem?_eq_getElem hi
      have HTB := Lib.hid fun k => turnB_below (B := W.heap.size) W.heap.size (.stringIter ⟨s.toArray⟩ k) HB.out (Nat.le_refl _)
      have HTA := Lib.hid fun k => turnB_at (o := .stringIter ⟨s.toArray⟩ k) HI.out
      rcases decode_spec ⟨s.toArray⟩ i (by rw [hsz]; omega) with ⟨hlt, hdec⟩ | ⟨c, k, hdec, hc, hv, hk, hik, hall⟩
      · rw [hx] at hlt hdec
        rw [hdec] at hnx
        dsimp only at hnx
        have hia := HIA.out ((x.toNat : Nat) : Int) (turnB wr W.heap.size (.stringIter ⟨s.toArray⟩ (i + 1))) (by omega) (by omega)
        rw [show ((x.toNat : Nat) : Int).toNat.toUInt8 = x by simp] at hia
        have hsx := HSEP.out x
        obtain ⟨q, hq⟩ : ∃ q, Lib.indexByte S.data.toList x = q := ⟨_, rfl⟩
        rw [hq] at hia hsx
        have HIX := Lib.hid hia
        obtain ⟨t, ht⟩ : ∃ t, isSep x = t := ⟨_, rfl⟩
        rw [ht] at hsx
        have HT := Lib.hid ht
        have HXL := Lib.hid hxl
        clear hia hq hdec hx hxe hxl hlt ht HI
        cases t with
        | true =>
          have hany : s.any isSep = true := List.any_eq_true.2 ⟨x, List.mem_of_getElem? HXL.out, HT.out⟩
          have HA := Lib.hid hany
          clear hany
          go_wp2_with fail
          refine HIX.out.mono ?_
          rintro _ V2 ⟨rfl, hV2⟩
          rw [hV2]
          clear hV2
          go_wp2_with fail
          exact bodyPost_ret (v := .int .i64 (i : Int)) (by simp [results, Try.results60, go_sem]) rfl ⟨⟨_, rfl, by rw [HA.out]; simp⟩, HTB.out _⟩
        | false =>
          have hns : NoSep s (i + 1) := by
            intro j hj b hb
            rcases Nat.lt_or_ge j i with h2 | h2
            · exact HN.out j h2 b hb
            · obtain rfl : j = i := by omega
              have h3 := HXL.out
              rw [hb] at h3
              obtain rfl := Option.some.inj h3
              exact HT.out
          have HNS := Lib.hid hns
          clear hns
          go_wp2_with fail
          refine HIX.out.mono ?_
          rintro _ V2 ⟨rfl, hV2⟩
          rw [hV2]
          clear hV2
          go_wp2_with fail
          go_roundg g
          case measure => omega
          case rel => exact ⟨i + 1, by omega, HTB.out _, HTA.out _, HNS⟩
      · rw [hdec] at hnx
        dsimp only at hnx
        rw [hsz] at hik
        have hf := HFAR.out c (turnB wr W.heap.size (.stringIter ⟨s.toArray⟩ (i + k))) hc hv
        have HF := Lib.hid hf
        have hns : NoSep s (i + k) := by
          intro j hj b hb
          rcases Nat.lt_or_ge j i with h2 | h2
          · exact HN.out j h2 b hb
          · have h3 := hall j h2 hj
            obtain ⟨hjl, hjb⟩ := List.getElem?_eq_some_iff.1 hb
            rw [HGET.out j hjl, hjb] at h3
            simp only [isSep, Bool.or_eq_false_iff, beq_eq_false_iff_ne, ne_eq]
            constructor
            · rintro rfl
              have : (0 : UInt8).toNat = 0 := rfl
              omega
            · rintro rfl
              have : (47 : UInt8).toNat = 47 := rfl
              omega
        have HNS := Lib.hid hns
        clear hf hns hall hdec hv hx hxe hxl HI
        go_wp2_with fail
        refine HF.out.mono ?_
        rintro _ V2 ⟨rfl, hb2⟩
        have hI2 := (hb2.block _ (Array.getElem?_eq_some_iff.1 (HTA.out (i + k))).1).trans (HTA.out (i + k))
        have HI2 := Lib.hid hI2
        have HB2 := Lib.hid ((HTB.out (i + k)).trans (hb2.mono (HTB.out (i + k)).size))
        clear hI2 hb2
        go_wp2_with fail
        go_roundg (g + 1 - k)
        case measure => omega
        case rel => exact ⟨i + k, by omega, HB2.out, HI2.out, HNS⟩
theorem index_any (s : Bs) : decide ((0 : Int) ≤ Lib.indexAny s [0, 47]) = s.any isSep := by
  induction s with
  | nil => rfl
  | cons a s ih =>
    have hg := Lib.indexAny_ge [0, 47] s
    have e : ([0, 47] : List UInt8).contains a = isSep a := by simp only [isSep, List.contains_cons, List.contains_nil, Bool.or_false]
    have hst : Lib.indexAny (a :: s) [0, 47] = if isSep a then 0 else if Lib.indexAny s [0, 47] == -1 then -1 else Lib.indexAny s [0, 47] + 1 := by
      rw [← e]
      rfl
    rw [hst, List.any_cons, ← ih]
    cases isSep a with
    | true => simp
    | false =>
      simp only [Bool.false_eq_true, if_false, Bool.false_or]
      split
      · rename_i h
        rw [beq_iff_eq.1 h]
      · rename_i h
        have h2 : Lib.indexAny s [0, 47] ≠ -1 := fun e => h (beq_iff_eq.2 e)
        rw [decide_eq_true (by omega), decide_eq_true (by omega)]
theorem index_sep_any (s : Bs) (W : World) (hs : s.length ≤ 1000000) : Calls Try.prog 60 #[strV s, .string ⟨#[0, 47]⟩] W fun e w' => (∃ i, e = .returned (.int .i64 i) ∧ decide (0 ≤ i) = s.any isSep) ∧ Below W.heap.size W w' := by
  by_cases h8 : s.length ≤ 8
  · exact index_short s W h8
  · have hsz : (⟨s.toArray⟩ : ByteArray).size = s.length := rfl
    have h116 : (Try.prog.info? 109).map (fun i => (i.zero, i.size)) = some (some (.agg (Array.replicate 256 (.bool false))), 256) := by kernel_rfl
    refine (Try.strings_IndexAny_long (zero_of_info h116).1 ⟨s.toArray⟩ ⟨#[0, 47]⟩ W (by decide) (by rw [hsz]; omega) (by rw [hsz]; omega) (by decide) ?_).mono ?_
    · intro j b hb
      have e : (⟨#[0, 47]⟩ : ByteArray).data.toList = [0, 47] := rfl
      rw [e] at hb
      have := List.mem_of_getElem? hb
      simp only [List.mem_cons, List.not_mem_nil, or_false] at this
      rcases this with rfl | rfl <;> decide
    · rintro _ V ⟨rfl, hV⟩
      refine ⟨⟨_, rfl, index_any s⟩, ?_⟩
      rw [hV]
      exact ((Below.refl _ W).alloc (Nat.le_refl _) _).alloc (by simp) _
theorem cont_all : ContAll := by
  intro s hs W
  have HC := Lib.hid (index_sep_any s W hs)
  rw [← any_sep]
  obtain ⟨t, ht⟩ : ∃ t, s.any isSep = t := ⟨_, rfl⟩
  rw [ht] at HC ⊢
  clear ht
  go_enter Try.func43, Try.ntmps43
  go_wp2_with fail
  refine HC.out.mono ?_
  rintro _ V ⟨⟨i, rfl, hi⟩, hb⟩
  have HB := Lib.hid hb
  have HI := Lib.hid hi
  clear hb hi HC
  go_wp2_with fail
  exact bodyPost_ret (v := .bool (decide (0 ≤ i))) (by simp [results, Try.results43, go_sem]) rfl ⟨by rw [HI.out], HB.out⟩
end Go.Proofs.Ytmlefodnbbkilaa

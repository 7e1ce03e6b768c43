/- Walks: bytes of 64 letters. -/
import Derived.Test.YtalanaongfnndaaDoorGet5
namespace Go.Proofs.YtalanaongfnndaaDoor
open Go.RowKit Go.Shelf

/-- What stands ahead of the last letters that are c. -/
def trimN (c : UInt8) (l : List UInt8) : List UInt8 := (l.reverse.dropWhile (· == c)).reverse
theorem trimN_snoc_eq (c : UInt8) (l : List UInt8) : trimN c (l ++ [c]) = trimN c l := by simp [trimN]
theorem trimN_snoc_ne (c d : UInt8) (l : List UInt8) (h : d ≠ c) : trimN c (l ++ [d]) = l ++ [d] := by simp [trimN, h]
theorem trimN_nil (c : UInt8) : trimN c [] = [] := rfl
theorem take_step (l : List UInt8) (k : Nat) (h : k < l.length) : l.take (k + 1) = l.take k ++ [l.getD k 0] := by
  rw [List.take_succ_eq_append_getElem h]
  simp [h]

def strLen : Value → Nat
  | .string b => b.size
  | _ => 0
set_option maxRecDepth 100000 in
theorem trimb_any (l : List UInt8) (c : UInt8) (w : World) (hl : l.length ≤ 1000000) :
    Calls Tryd.prog 29 #[strV l, .int .u8 (c.toNat : Int)] w fun e w' => e = .returned (strV (trimN c l)) ∧ w' = w := by
  go_enter Tryd.func29, Tryd.ntmps29
  go_wp2_with fail
  go_loopw [0] (fun s wr => ∃ p : List UInt8, p.length ≤ l.length ∧ s = strV p ∧ Hid (trimN c p = trimN c l) ∧ wr = w) (fun s _ => strLen s)
  case atStart => exact ⟨l, Nat.le_refl _, rfl, Lib.hid rfl, rfl⟩
  case round =>
    obtain ⟨p, hp, rfl, HT, rfl⟩ := hrel
    rcases List.eq_nil_or_concat p with rfl | ⟨p0, d, rfl⟩
    · go_wp2_with fail
      go_ret
      exact ⟨by rw [← HT.out, trimN_nil]; rfl, rfl⟩
    · have hp1 : p0.length + 1 ≤ l.length := by simpa using hp
      have hidx : ∀ W, (Instr.index 9 (strV (p0 ++ [d])) (.int .i64 (p0.length : Int))).run Tryd.prog W = .ok (.int .u8 (d.toNat : Int)) W := fun W => by
        have := idx_str (P := Tryd.prog) 9 (p0 ++ [d]) .i64 p0.length (by simp) W Tryd.underlying9
        simpa using this
      simp only [List.concat_eq_append] at *
      have hpos : decide ((0 : Int) < (p0.length : Int) + 1) = true := by simp; try omega
      by_cases hd : d = c
      · subst hd
        go_wp2_with fail
        have he : (⟨(p0 ++ [d]).toArray⟩ : ByteArray).extract 0 p0.length = ⟨p0.toArray⟩ := by
          apply ByteArray.ext
          rw [ByteArray.data_extract]
          simp
        rw [he]
        exact ⟨⟨p0, by omega, rfl, Lib.hid (by rw [← HT.out, trimN_snoc_eq]), trivial⟩, by simp [strLen, ByteArray.size]⟩
      · have hne : ((d.toNat : Int) == (c.toNat : Int)) = false := by
          simp
          exact fun h => hd (UInt8.toNat_inj.1 (Int.ofNat.inj h))
        have hne2 : decide ((d.toNat : Int) = (c.toNat : Int)) = false := by
          simp
          exact fun h => hd (UInt8.toNat_inj.1 (Int.ofNat.inj h))
        go_wp2_with fail
        go_ret
        exact ⟨by rw [← HT.out, trimN_snoc_ne _ _ _ hd]; rfl, rfl⟩
theorem trim_any (l : List UInt8) (w : World) (hl : l.length ≤ 1000000) :
    Calls Tryd.prog 22 #[strV l, strV [61]] w fun e w' => e = .returned (strV (trimN 61 l)) ∧ w' = w := by
  have hidx : ∀ W, (Instr.index 9 (strV [61]) (.int .i64 0)).run Tryd.prog W = .ok (.int .u8 61) W := fun W => idx_str (P := Tryd.prog) 9 [61] .i64 0 (by simp) W Tryd.underlying9
  go_enter Tryd.func22, Tryd.ntmps22
  by_cases h0 : l = []
  · subst h0
    go_wp2_with fail
    go_ret
    exact ⟨rfl, rfl⟩
  · have hne : (l == []) = false := by simp [h0]
    go_wp2_with fail
    refine (trimb_any l 61 w hl).mono ?_
    rintro _ _ ⟨rfl, rfl⟩
    go_wp2_with fail
    go_ret
    exact ⟨rfl, rfl⟩

/-- What 64 letters say. -/
def getB64N (l : List UInt8) : List UInt8 × Bool :=
  if (∀ c ∈ trimN 61 l, 0 ≤ Lib.indexByte t64L c) ∧ b64N (rdBits t64L 6 (trimN 61 l)).2.2 = l then ((rdBits t64L 6 (trimN 61 l)).2.2, true) else ([], false)
theorem trimN_length (c : UInt8) (l : List UInt8) : (trimN c l).length ≤ l.length := by
  unfold trimN
  rw [List.length_reverse]
  have := (List.dropWhile_sublist (· == c) (l := l.reverse)).length_le
  simpa using this
set_option maxRecDepth 100000 in
theorem getb64_any (l : List UInt8) (w : World) (hl : l.length ≤ 1000000) :
    Calls Tryd.prog 6 #[strV l] w fun e w' => e = .returned (.tuple #[strV (getB64N l).1, .bool (getB64N l).2]) ∧ Below w.heap.size w w' := by
  have htl := trimN_length 61 l
  have hb := (rd_bounds t64L 6 (by omega) (trimN 61 l)).2.2
  go_enter Tryd.func6, Tryd.ntmps6
  go_wp2_with fail
  refine (trim_any l w hl).mono ?_
  rintro _ w ⟨rfl, rfl⟩
  go_wp2_with fail
  refine (read_any (trimN 61 l) t64L 6 w (by omega) (by omega) (by decide)).mono ?_
  rintro _ w1 ⟨hw1, (⟨⟨c, hc, hneg⟩, rfl⟩ | ⟨hall, v, rfl, hrow⟩)⟩
  · go_wp2_with fail
    refine bodyPost_ret (v := .tuple #[strV [], .bool false]) (by simp [results, Tryd.results6, go_sem]) rfl ⟨?_, hw1⟩
    have : getB64N l = ([], false) := by
      unfold getB64N
      rw [if_neg (fun h => by have := h.1 c hc; omega)]
    rw [this]
  · have HB := Lib.hid hw1
    obtain ⟨A, c, rfl⟩ := rowB_form hrow
    have hconv := rowB_str (P := Tryd.prog) (src := 22) (dst := 9) Tryd.underlying22 Tryd.underlying5 Tryd.underlying9 hrow
    obtain ⟨o, ho⟩ : ∃ o, (rdBits t64L 6 (trimN 61 l)).2.2 = o := ⟨_, rfl⟩
    rw [ho] at hconv hb hrow ⊢
    have HROW := Lib.hid hrow
    have HO := Lib.hid ho
    clear hrow hw1 ho
    go_wp2_with fail
    refine (b64_any o w1 (by omega)).below.mono ?_
    rintro _ w2 ⟨rfl, hb2⟩
    have HB2 := Lib.hid hb2
    clear hb2
    by_cases he : b64N o = l
    · rw [he]
      have hrow2 := rowB_kept HROW.out HB2.out
      have hconv2 := rowB_str (P := Tryd.prog) (src := 22) (dst := 9) Tryd.underlying22 Tryd.underlying5 Tryd.underlying9 hrow2
      go_wp2_with fail
      refine bodyPost_ret (v := .tuple #[strV o, .bool true]) (by simp [results, Tryd.results6, go_sem]) rfl ⟨?_, HB.out.trans (HB2.out.mono HB.out.size)⟩
      have : getB64N l = (o, true) := by
        unfold getB64N
        rw [if_pos ⟨hall, by rw [HO.out]; exact he⟩, HO.out]
      rw [this]
    · have hd : (b64N o == l) = false := by simp [he]
      go_wp2_with fail
      refine bodyPost_ret (v := .tuple #[strV [], .bool false]) (by simp [results, Tryd.results6, go_sem]) rfl ⟨?_, HB.out.trans (HB2.out.mono HB.out.size)⟩
      have : getB64N l = ([], false) := by
        unfold getB64N
        rw [if_neg (fun h => he (by have := h.2; rw [HO.out] at this; exact this))]
      rw [this]
end Go.Proofs.YtalanaongfnndaaDoor

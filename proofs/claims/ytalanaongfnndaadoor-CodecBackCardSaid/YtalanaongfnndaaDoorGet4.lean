/- Walks: bytes of hex letters. -/
import Derived.Test.YtalanaongfnndaaDoorGet3
namespace Go.Proofs.YtalanaongfnndaaDoor
open Go.RowKit Go.Shelf

/-- What hex letters say. -/
def getHexN (l : List UInt8) : List UInt8 × Bool :=
  if (∀ c ∈ l, 0 ≤ Lib.indexByte hexL c) ∧ hexN (rdBits hexL 4 l).2.2 = l then ((rdBits hexL 4 l).2.2, true) else ([], false)

theorem strV_eq (a b : List UInt8) : (strV a = strV b) ↔ a = b := by
  constructor
  · intro h
    injection h with h
    injection h with h
    injection h
  · rintro rfl; rfl
theorem bytes_eq (a b : List UInt8) : ((⟨a.toArray⟩ : ByteArray) = ⟨b.toArray⟩) ↔ a = b := by
  constructor
  · intro h
    injection h with h
    injection h
  · rintro rfl; rfl

theorem rowB_kept {w w' : World} {b e : Nat} {v : Value} {l : List UInt8} (h : rowB w b e v l) (hb : Below w.heap.size w w') : rowB w' b e v l :=
  World.ownsRow.kept h (row := none) ⟨hb.os, hb.tape, hb.output, hb.size, fun k hk _ => hb.block k hk⟩ (by cases v.ownBlock <;> simp)
set_option maxRecDepth 100000 in
theorem gethex_any (l : List UInt8) (w : World) (hl : l.length ≤ 1000000) :
    Calls Tryd.prog 11 #[strV l] w fun e w' => e = .returned (.tuple #[strV (getHexN l).1, .bool (getHexN l).2]) ∧ Below w.heap.size w w' := by
  have hb := (rd_bounds hexL 4 (by omega) l).2.2
  go_enter Tryd.func11, Tryd.ntmps11
  go_wp2_with fail
  refine (read_any l hexL 4 w (by omega) hl (by decide)).mono ?_
  rintro _ w1 ⟨hw1, (⟨⟨c, hc, hneg⟩, rfl⟩ | ⟨hall, v, rfl, hrow⟩)⟩
  · go_wp2_with fail
    refine bodyPost_ret (v := .tuple #[strV [], .bool false]) (by simp [results, Tryd.results11, go_sem]) rfl ⟨?_, hw1⟩
    have : getHexN l = ([], false) := by
      unfold getHexN
      rw [if_neg (fun h => by have := h.1 c hc; omega)]
    rw [this]
  · have HB := Lib.hid hw1
    obtain ⟨A, c, rfl⟩ := rowB_form hrow
    have hconv := rowB_str (P := Tryd.prog) (src := 22) (dst := 9) Tryd.underlying22 Tryd.underlying5 Tryd.underlying9 hrow
    obtain ⟨o, ho⟩ : ∃ o, (rdBits hexL 4 l).2.2 = o := ⟨_, rfl⟩
    rw [ho] at hconv hb hrow ⊢
    have HROW := Lib.hid hrow
    have HO := Lib.hid ho
    clear hrow hw1 ho
    go_wp2_with fail
    refine (hex_any o w1 (by omega)).below.mono ?_
    rintro _ w2 ⟨rfl, hb2⟩
    have HB2 := Lib.hid hb2
    clear hb2
    by_cases he : hexN o = l
    · rw [he]
      have hrow2 := rowB_kept HROW.out HB2.out
      have hconv2 := rowB_str (P := Tryd.prog) (src := 22) (dst := 9) Tryd.underlying22 Tryd.underlying5 Tryd.underlying9 hrow2
      go_wp2_with fail
      refine bodyPost_ret (v := .tuple #[strV o, .bool true]) (by simp [results, Tryd.results11, go_sem]) rfl ⟨?_, HB.out.trans (HB2.out.mono HB.out.size)⟩
      have : getHexN l = (o, true) := by
        unfold getHexN
        rw [if_pos ⟨hall, by rw [HO.out]; exact he⟩, HO.out]
      rw [this]
    · have hd : (hexN o == l) = false := by simp [he]
      go_wp2_with fail
      refine bodyPost_ret (v := .tuple #[strV [], .bool false]) (by simp [results, Tryd.results11, go_sem]) rfl ⟨?_, HB.out.trans (HB2.out.mono HB.out.size)⟩
      have : getHexN l = ([], false) := by
        unfold getHexN
        rw [if_neg (fun h => he (by have := h.2; rw [HO.out] at this; exact this))]
      rw [this]
end Go.Proofs.YtalanaongfnndaaDoor

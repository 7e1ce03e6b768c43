/- CodecRefuses, over bytes alone: letters that are none, too few, too many, say nothing. -/
import Derived.Test.YtalanaongfnndaaG1
namespace Go.Proofs.Ytalanaongfnndaa.Pure
open Go.RowKit Go.Proofs.Ytalanaongfnndaa Go.Proofs.Ytalanaongfnndaa.G Go.Proofs.YtalanaongfnndaaW.PrintWords Go.Proofs.YtalanaongfnndaaW.PrintLast

theorem awake_f : shelfmarklaw5_awake.f = some true := by decide +kernel
theorem b32_length (l : List UInt8) : (b32N l).length = (8 * l.length + 4) / 5 := by unfold b32N; rw [List.length_reverse, let32_length]
theorem b32_f (l : List UInt8) (hl : l.length ≤ 1000000) : codec_Base32.f (ba l) = some (ba (b32N l)) := by
  unfold codec_Base32.f
  rw [if_pos (show (ba l).size ≤ 1000000 from hl)]
  rfl
theorem hex_f (l : List UInt8) (hl : l.length ≤ 1000000) : codec_Hex.f (ba l) = some (ba (hexN l)) := by
  unfold codec_Hex.f
  rw [if_pos (show (ba l).size ≤ 1000000 from hl)]
  rfl
theorem ba_append (l m : List UInt8) : ba l ++ ba m = ba (l ++ m) := by
  apply ByteArray.ext
  rw [ByteArray.data_append]
  simp [ba]
theorem gethex_f (l : List UInt8) (hl : l.length ≤ 1000000) : codec_GetHex.f (ba l) = some (ba (getHexN l).1, (getHexN l).2) := by
  unfold codec_GetHex.f
  rw [if_pos (show (ba l).size ≤ 1000000 from hl)]
  rfl
theorem getb32_f (l : List UInt8) (n : Int) (hl : l.length ≤ 1000000) : codec_GetBase32.f (ba l) n = some (ba (getB32N l n).1, (getB32N l n).2) := by
  unfold codec_GetBase32.f
  rw [if_pos (show (ba l).size ≤ 1000000 from hl)]
  rfl
theorem gethex_bad (l : List UInt8) (c : UInt8) (hc : c ∈ l) (h : Lib.indexByte hexL c < 0) : getHexN l = ([], false) := by
  unfold getHexN
  rw [if_neg (fun h' => by have := h'.1 c hc; omega)]
theorem getb32_bad (l : List UInt8) (n : Int) (c : UInt8) (hc : c ∈ l) (h : Lib.indexByte t32L c < 0) : getB32N l n = ([], false) := by
  unfold getB32N
  rw [if_neg (fun h' => by have := h'.2.2.1 c hc; omega)]
theorem getb32_neg (l : List UInt8) (n : Int) (h : n < 0) : getB32N l n = ([], false) := by
  unfold getB32N
  rw [if_neg (fun h' => by have := h'.1; omega)]
theorem get_z0 : (getB32N [122, 48] 1).2 = false := by decide +kernel
theorem get_7z : (getB32N [55, 122] 1).2 = true := by decide +kernel
theorem mn_neg (a : Int) : mn a (-1) < 0 := by unfold mn; split <;> omega

set_option maxRecDepth 100000 in
theorem CodecRefuses : shelfmarklaw5_CodecRefuses.Pure := by
  intro a0 a1 h0 h1
  obtain ⟨⟨l⟩⟩ := a0
  show shelfmarklaw5_CodecRefuses.f (ba l) a1 = some true
  have hsz : (ba l).size = l.length := rfl
  unfold shelfmarklaw5_CodecRefuses.f
  rw [hsz]
  by_cases hl : (l.length : Int) > 60
  · rw [if_pos hl, awake_f]
    rfl
  · rw [if_neg hl]
    have hhl := hexN_length l
    have hbl := b32_length l
    have hhs : (ba (hexN l)).size = (hexN l).length := rfl
    have hbs : (ba (b32N l)).size = (b32N l).length := rfl
    rw [hex_f l (by omega)]
    simp only [Option.bind_some]
    rw [if_pos (by omega), show (⟨#[65]⟩ : ByteArray) = ba [65] from rfl, ba_append, gethex_f _ (by simp; omega)]
    simp only [Option.bind_some]
    rw [if_pos (by omega), show (⟨#[65, 70]⟩ : ByteArray) = ba [65, 70] from rfl, ba_append, gethex_f _ (by simp; omega)]
    simp only [Option.bind_some]
    rw [if_pos (by omega), show (⟨#[103, 48]⟩ : ByteArray) = ba [103, 48] from rfl, ba_append, gethex_f _ (by simp; omega)]
    rw [b32_f l (by omega)]
    simp only [Option.bind_some]
    rw [if_pos (by omega), show (⟨#[101]⟩ : ByteArray) = ba [101] from rfl, ba_append, getb32_f _ _ (by simp; omega),
      show (⟨#[101, 48]⟩ : ByteArray) = ba [101, 48] from rfl, getb32_f _ _ (by simp), show (⟨#[]⟩ : ByteArray) = ba [] from rfl, getb32_f _ _ (by simp),
      show (⟨#[122, 48]⟩ : ByteArray) = ba [122, 48] from rfl, getb32_f _ _ (by simp), show (⟨#[55, 122]⟩ : ByteArray) = ba [55, 122] from rfl, getb32_f _ _ (by simp)]
    simp only [Option.bind_some]
    have e1 : (getHexN (hexN l ++ [65])).2 = false := by rw [gethex_bad _ 65 (by simp) (by decide +kernel)]
    have e2 : (getHexN (hexN l ++ [65, 70])).2 = false := by rw [gethex_bad _ 65 (by simp) (by decide +kernel)]
    have e3 : (getHexN (hexN l ++ [103, 48])).2 = false := by rw [gethex_bad _ 103 (by simp) (by decide +kernel)]
    have e4 : (getB32N (b32N l ++ [101]) (l.length : Int)).2 = false := by rw [getb32_bad _ _ 101 (by simp) (by decide +kernel)]
    have e5 : (getB32N [101, 48] 1).2 = false := by decide +kernel
    have e6 : (getB32N [] (mn a1 (-1))).2 = false := by rw [getb32_neg [] _ (mn_neg a1)]
    have e7 := get_z0
    have e8 := get_7z
    simp only [e1, e2, e3, e4, e5, e6, e7, e8, Bool.false_eq_true, if_false, if_true, awake_f, Option.bind_some]
end Go.Proofs.Ytalanaongfnndaa.Pure

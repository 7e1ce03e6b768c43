/- BitmapEnds: the walk of the law's own function. -/
import Derived.Test.YtbdiombbknmlaaaSec2
import Derived.Test.YtbdiombbknmlaaaSort1
import Derived.Test.YtbdiombbknmlaaaBm7
namespace Go.Proofs.Ytbdiombbknmlaaa
open Go.RowKit

theorem RR.lits (W : World) (l : List Run) (hl : l.length ≤ 1000) : RR W (W.alloc (.cells (flatR l).toArray 28)) (.slice (some ⟨W.heap.size, 0, none⟩) l.length l.length) l :=
  ⟨World.ownsRow_lit (base := 0) (e := 28) (size := 2) W (flatR l).toArray l.length (Nat.zero_le _) (by unfold maxLen; omega) (by simp [flatR_length]), (Below.refl _ W).alloc (Nat.le_refl _) _, fun k hk => by simp [Value.ownBlock] at hk; omega⟩
theorem take_as (W : World) (v : Value) (l o : List Run) (n m : Int) (bk : Bool) (h : RIn W v l) (hl : l.length ≤ 1000) (hn : -1000 ≤ n ∧ n ≤ 1000) (hr : takeS (realN l) n = (o, m)) (hb : decide (m < 1) = bk) (ho : bk = false → o = []) :
    Calls Try.prog 9 #[v, .int .i64 n] W fun e w' => ∃ v', e = .returned (.tuple #[v', .bool bk]) ∧ RR W w' v' o := by
  refine (take_any W v l n h (by omega) (by omega)).mono ?_
  rintro e w' ⟨v', rfl, h1⟩
  have e1 : fitsN (realN l) n = bk := by simp only [fitsN, hr]; exact hb
  have e2 : tookN (realN l) n = o := by
    simp only [tookN, hr]
    split
    · rfl
    · rename_i h2
      exact (ho (by rw [← hb]; simpa using h2)).symm
  rw [e2] at h1
  exact ⟨v', by rw [e1], h1⟩
theorem free_as (W : World) (v : Value) (l o : List Run) (f t : Int) (h : RIn W v l) (hl : l.length ≤ 1000) (hs : Small l) (hf : -1000 ≤ f ∧ f ≤ 1000) (ht : -1000 ≤ t ∧ t ≤ 1000) (hr : ∀ l', l'.Perm (realN l) → (freeS (l' ++ [(max f t, 0)]) f t).1 = o) :
    Calls Try.prog 7 #[v, .int .i64 f, .int .i64 t] W fun e w' => ∃ v', e = .returned v' ∧ RR W w' v' o := by
  refine (free_any sorts_all W v l f t h (by omega) hs (by omega) (by omega)).mono ?_
  rintro e w' ⟨v', l', rfl, hp, -, h1⟩
  rw [hr l' hp] at h1
  exact ⟨v', rfl, h1⟩
def oddR (a : Nat) : List Run := [((a : Int), 0), ((a : Int), -3)]
theorem real_odd (a : Nat) : realN (oddR a) = [] := by simp [realN, oddR]
theorem small_odd (a : Nat) (ha : a < 256) : Small (oddR a) := by
  intro x hx
  simp [oddR] at hx
  rcases hx with rfl | rfl <;> simp <;> omega
set_option maxRecDepth 100000 in
set_option maxHeartbeats 4000000 in
theorem ends_any (a n : Nat) (w : World) (ha : a < 256) (hn : n < 256) : Calls Try.prog 5 #[.int .u8 (a : Int), .int .u8 (n : Int)] w fun e w' => e = .returned (.bool true) ∧ Below w.heap.size w w' := by
  obtain ⟨k, hk⟩ : ∃ k : Int, 1 + (n : Int) = k := ⟨_, rfl⟩
  have hk1 : 1 ≤ k ∧ k ≤ 256 := by omega
  have HAW := Lib.hid (awake_any sorts_all)
  have hO := RR.lits w (oddR a) (by simp [oddR])
  have HSO := Lib.hid (small_odd a ha)
  have hO' : RR w (w.alloc (.cells #[.int .i64 (a : Int), .int .i64 0, .int .i64 (a : Int), .int .i64 (-3)] 28)) (.slice (some ⟨w.heap.size, 0, none⟩) 2 2) (oddR a) := hO
  have HO := Lib.hid hO'
  clear hO hO'
  obtain ⟨V0, hV0⟩ : ∃ V0, w.alloc (.cells #[.int .i64 (a : Int), .int .i64 0, .int .i64 (a : Int), .int .i64 (-3)] 28) = V0 := ⟨_, rfl⟩
  rw [hV0] at HO
  have HT1 := Lib.hid (take_as V0 _ (oddR a) [] 0 0 true HO.out.rin (by simp [oddR]) (by omega) (by rw [real_odd]; rfl) (by decide) (by simp))
  go_enter Try.func5, Try.ntmps5
  go_wp2_with fail
  clear hV0
  refine HT1.out.mono ?_
  rintro _ V1 ⟨v1, rfl, h1⟩
  have hO := HO.out.on h1.below
  have HT2 := Lib.hid (take_as V1 _ (oddR a) [] 1 1 false hO.rin (by simp [oddR]) (by omega) (by rw [real_odd]; rfl) (by decide) (by simp))
  obtain ⟨A1, c1, rfl⟩ := h1.form
  rw [show ([] : List Run).length = 0 from rfl]
  have HO := Lib.hid hO
  clear hO h1 HT1
  go_wp2_with fail
  refine HT2.out.mono ?_
  rintro _ V2 ⟨v2, rfl, h1⟩
  have hO := HO.out.on h1.below
  obtain ⟨A2, c2, rfl⟩ := h1.form
  rw [show ([] : List Run).length = 0 from rfl]
  have hO2 := hO.on ((Below.refl _ V2).alloc (Nat.le_refl _) (.cells #[.int .i64 (a : Int), .int .i64 k] 28))
  have hL : RR V2 (V2.alloc (.cells #[.int .i64 (a : Int), .int .i64 k] 28)) (.slice (some ⟨V2.heap.size, 0, none⟩) 1 1) [((a : Int), k)] := RR.lits V2 [((a : Int), k)] (by simp)
  have e1 : realN [((a : Int), k)] = [((a : Int), k)] := by simp only [realN]; simp; omega
  have HT3 := Lib.hid (take_as _ _ [((a : Int), k)] [] (-1) (-1) true hL.rin (by simp) (by omega) (by rw [e1]; simp [takeS, stepT]) (by decide) (by simp))
  have HO := Lib.hid hO2
  clear hO hO2 hL h1 HT2 e1
  obtain ⟨V2', hV2'⟩ : ∃ V, V2.alloc (.cells #[.int .i64 (a : Int), .int .i64 k] 28) = V := ⟨_, rfl⟩
  rw [hV2'] at HO HT3
  go_wp2_with fail
  clear hV2'
  refine HT3.out.mono ?_
  rintro _ V3 ⟨v3, rfl, h1⟩
  have hO := HO.out.on h1.below
  obtain ⟨A3, c3, rfl⟩ := h1.form
  rw [show ([] : List Run).length = 0 from rfl]
  have hO2 := hO.on ((Below.refl _ V3).alloc (Nat.le_refl _) (.cells #[.int .i64 5, .int .i64 2, .int .i64 9, .int .i64 k] 28))
  have hL : RR V3 (V3.alloc (.cells #[.int .i64 5, .int .i64 2, .int .i64 9, .int .i64 k] 28)) (.slice (some ⟨V3.heap.size, 0, none⟩) 2 2) [(5, 2), (9, k)] := RR.lits V3 [(5, 2), (9, k)] (by simp)
  have e1 : realN [(5, 2), (9, k)] = [(5, 2), (9, k)] := by
    have : decide (1 ≤ k) = true := by simp; omega
    simp only [realN, List.filter, this]
    rfl
  have e2 : min 1 k = 1 := by omega
  have HT4 := Lib.hid (take_as _ _ [(5, 2), (9, k)] [(5, 2), (9, 1)] 3 0 true hL.rin (by simp) (by omega) (by rw [e1]; simp [takeS, stepT, e2, show min (3 : Int) 2 = 2 from rfl]) (by decide) (by simp))
  have HO := Lib.hid hO2
  clear hO hO2 hL h1 HT3 e1 e2
  obtain ⟨V3', hV3'⟩ : ∃ V, V3.alloc (.cells #[.int .i64 5, .int .i64 2, .int .i64 9, .int .i64 k] 28) = V := ⟨_, rfl⟩
  rw [hV3'] at HO HT4
  go_wp2_with fail
  clear hV3'
  refine HT4.out.mono ?_
  rintro _ V4 ⟨v4, rfl, h1⟩
  have hO := HO.out.on h1.below
  have hw3 : w.heap.size ≤ V3'.heap.size := HO.out.below.size
  have hP : RR w V4 v4 [(5, 2), (9, 1)] := ⟨h1.row, hO.below, fun j hj => Nat.le_trans hw3 (h1.own j hj)⟩
  have HF1 := Lib.hid (free_as V4 _ (oddR a) [((a : Int), k)] (a : Int) ((a : Int) + k) hO.rin (by simp [oddR]) HSO.out (by omega) (by omega) (by
    intro l' hp
    rw [real_odd] at hp
    obtain rfl : l' = [] := List.perm_nil.1 hp
    rw [show max (a : Int) ((a : Int) + k) = (a : Int) + k by omega]
    simp only [freeS, List.nil_append, List.foldl_cons, List.foldl_nil, stepF]
    rw [show min ((a : Int) + k) ((a : Int) + k) - (a : Int) = k by omega, if_pos (by omega)]))
  obtain ⟨A4, c4, rfl⟩ := hP.form
  rw [show ([(5, 2), (9, 1)] : List Run).length = 2 from rfl] at *
  have HO := Lib.hid hO
  have HP := Lib.hid hP
  clear hO h1 hP hw3 HT4
  go_wp2_with fail
  refine HF1.out.mono ?_
  rintro _ V5 ⟨v5, rfl, h1⟩
  have hO := HO.out.on h1.below
  have hP := HP.out.on h1.below
  have hF : RR w V5 v5 [((a : Int), k)] := ⟨h1.row, hO.below, fun j hj => Nat.le_trans HO.out.below.size (h1.own j hj)⟩
  obtain ⟨A5, c5, rfl⟩ := hF.form
  rw [show ([((a : Int), k)] : List Run).length = 1 from rfl] at *
  obtain ⟨a1, ha1⟩ : ∃ a1 : Int, (a : Int) - 1 = a1 := ⟨_, rfl⟩
  obtain ⟨k2, hk2⟩ : ∃ k2 : Int, k + 2 = k2 := ⟨_, rfl⟩
  have hbl := (Below.refl _ V5).alloc (Nat.le_refl _) (.cells #[.int .i64 a1, .int .i64 k2] 28)
  have hO2 := hO.on hbl
  have hP2 := hP.on hbl
  have hF2 := hF.on hbl
  have hL : RR V5 (V5.alloc (.cells #[.int .i64 a1, .int .i64 k2] 28)) (.slice (some ⟨V5.heap.size, 0, none⟩) 1 1) [(a1, k2)] := RR.lits V5 [(a1, k2)] (by simp)
  have HF2 := Lib.hid (free_as _ _ [(a1, k2)] [] (a : Int) ((a : Int) + k) hL.rin (by simp) (fun x hx => by simp at hx; subst hx; simp only; omega) (by omega) (by omega) (by
    intro l' hp
    have e1 : realN [(a1, k2)] = [(a1, k2)] := by
      have : decide (1 ≤ k2) = true := by simp; omega
      simp only [realN, List.filter, this]
    rw [e1] at hp
    obtain rfl : l' = [(a1, k2)] := List.perm_singleton.1 hp
    rw [show max (a : Int) ((a : Int) + k) = (a : Int) + k by omega]
    simp only [freeS, List.cons_append, List.nil_append, List.foldl_cons, List.foldl_nil, stepF]
    rw [if_neg (by omega), if_neg (by omega)]))
  have HO := Lib.hid hO2
  have HP := Lib.hid hP2
  have HF := Lib.hid hF2
  clear hO hP hF hO2 hP2 hF2 hL h1 hbl HF1
  obtain ⟨V5', hV5'⟩ : ∃ V, V5.alloc (.cells #[.int .i64 a1, .int .i64 k2] 28) = V := ⟨_, rfl⟩
  rw [hV5'] at HO HF2 HP HF
  go_wp2_with fail
  clear hV5'
  refine HF2.out.mono ?_
  rintro _ V6 ⟨v6, rfl, h1⟩
  have hO := HO.out.on h1.below
  have hP := HP.out.on h1.below
  have hF := HF.out.on h1.below
  have hN : RR w V6 v6 [] := ⟨h1.row, hO.below, fun j hj => Nat.le_trans HO.out.below.size (h1.own j hj)⟩
  obtain ⟨A6, c6, rfl⟩ := hN.form
  rw [show ([] : List Run).length = 0 from rfl] at *
  obtain ⟨g, rfl, -, g1, g2, g3, -⟩ := hF.at 0 _ rfl
  obtain ⟨g', rfl, -, p1, p2, p3, -⟩ := hP.at 0 _ rfl
  obtain ⟨g'', hg, -, -, p4, p5, -⟩ := hP.at 1 _ rfl
  simp only [Option.some.injEq, Addr.mk.injEq] at hg
  obtain ⟨rfl, -, -⟩ := hg
  have HC := Lib.hid (count_any V6 _ (oddR a) hO.rin (by simp [oddR]) HSO.out)
  rw [show countN (oddR a) = 0 by simp [countN, oddR]; rfl] at HC
  have HO := Lib.hid hO
  clear hO hP hF hN h1 HF2 HP HF
  simp only [Nat.zero_mul, Nat.one_mul, Nat.zero_add] at g2 g3 p2 p3 p4 p5
  go_wp2_with fail
  refine HC.out.mono ?_
  rintro _ V7 ⟨rfl, hb⟩
  have hO := HO.out.on hb
  have hp0 : (placesN (oddR a)).length = 0 := by simp [placesN, placesOf, oddR]
  have hsec := sectors_any w V7 _ (oddR a) hO (by simp [oddR]) HSO.out (by omega)
  rw [hp0] at hsec
  have HS := Lib.hid hsec
  have HO := Lib.hid hO
  clear hO hb hp0 hsec HC g1 g2 g3 p1 p2 p3 p4 p5
  go_wp2_with fail
  refine HS.out.mono ?_
  rintro _ V8 ⟨v8, rfl, hr8, hb⟩
  obtain ⟨A8, c8, rfl⟩ := ownsRow_form hr8
  have hO := HO.out.on hb
  have hbb := hO.below
  have HB := Lib.hid hbb
  have HF3 := Lib.hid (free_as V8 (.slice none 0 0) [] [] ((a : Int) + k) (a : Int) (.inl ⟨rfl, .inl rfl⟩) (by simp) (fun x hx => by cases hx) (by omega) (by omega) (by
    intro l' hp
    obtain rfl : l' = [] := List.perm_nil.1 hp
    rw [show max ((a : Int) + k) (a : Int) = (a : Int) + k by omega]
    simp only [freeS, List.nil_append, List.foldl_cons, List.foldl_nil, stepF]
    rw [if_neg (by omega)]))
  clear hO hb hbb hr8 HS HO
  go_wp2_with fail
  refine HF3.out.mono ?_
  rintro _ V9 ⟨v9, rfl, h1⟩
  obtain ⟨A9, c9, rfl⟩ := h1.form
  rw [show ([] : List Run).length = 0 from rfl] at *
  have hb := HB.out.trans (h1.below.mono HB.out.size)
  have HB := Lib.hid hb
  clear h1 hb HF3
  go_wp2_with fail
  refine (HAW.out _).mono ?_
  rintro _ V12 ⟨rfl, hy⟩
  have hb9 := HB.out.trans (hy.mono HB.out.size)
  clear hy
  go_wp2_with fail
  exact bodyPost_ret (v := .bool true) (by simp [results, Try.results5, go_sem]) rfl ⟨rfl, hb9⟩
theorem bitmapEnds_any (a n : Nat) (w : World) (ha : a < 256) (hn : n < 256) : Ret Try.prog 5 #[.int .u8 (a : Int), .int .u8 (n : Int)] w (.bool true) := .of (ends_any a n w ha hn)
end Go.Proofs.Ytbdiombbknmlaaa

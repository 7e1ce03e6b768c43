/- DiskTurns: the walk of the law's own function. -/
import Derived.Test.YtojgfaichkcmpaaDiskP
import Derived.Test.YtojgfaichkcmpaaConvRow
namespace Go.Proofs.Ytojgfaichkcmpaa
open Go.RowKit

def abcS : List UInt8 := secN [97, 98, 99]
theorem abc_len : abcS.length = 64 := secN_length _
def zF : List (List UInt8) := List.replicate 32 zeroS
theorem turned_calm (F : List (List UInt8)) (i k b : Nat) (s : List UInt8) (hi : i < F.length) (hk : k < 64) (hb : 1 ≤ b) (hb' : b ≤ 255) (hs : F.getD i [] = s) :
    (calm F).turned i k b = (calm (F.set i (s.set k (s.getD k 0 ^^^ UInt8.ofNat b))), 0) := by
  unfold DS.turned
  rw [if_neg (by simp only [calm]; omega), if_neg (by simp [calm])]
  simp only [calm, Int.toNat_natCast, hs]
theorem tu_write (i : Nat) (hi : i < 32) : (calm zF).write i abcS = ({ calm zF with loose := [(i, abcS)] }, 0) := by
  unfold DS.write
  rw [if_neg (by simp [calm]), if_neg (by simp [calm, zF, abc_len]; omega), if_neg (by simp [calm])]
  rfl
theorem tu_three (i k b : Nat) (hi : i < 32) (hk : k < 64) (hb : 1 ≤ b ∧ b ≤ 255) : DS.turned { calm zF with loose := [(i, abcS)] } i k b = ({ calm zF with loose := [(i, abcS)] }, 3) := by
  unfold DS.turned
  rw [if_neg (by simp [calm, zF]; omega), if_pos (by simp)]
/-- A row of bytes that lies. -/
structure Put (W : World) (g : Nat) (s : List UInt8) (tl : List Value) (m : Nat × Nat) : Prop where
  out : W.heap[g]? = some (.cells (rowC s tl) 5 m)
theorem Put.at {W W' : World} {g : Nat} {s : List UInt8} {tl : List Value} {m : Nat × Nat} (h : Put W g s tl m) (hb : Below W.heap.size W W') : Put W' g s tl m :=
  ⟨(hb.block g (Array.getElem?_eq_some_iff.1 h.out).1).trans h.out⟩
theorem xor_back (a b : UInt8) : a ^^^ b ^^^ b = a := by
  rw [UInt8.xor_assoc, UInt8.xor_self, UInt8.xor_zero]
theorem set_back (s : List UInt8) (k : Nat) (b : UInt8) (h : k < s.length) : (s.set k (s.getD k 0 ^^^ b)).set k ((s.set k (s.getD k 0 ^^^ b)).getD k 0 ^^^ b) = s := by
  have e : (s.set k (s.getD k 0 ^^^ b)).getD k 0 = s.getD k 0 ^^^ b := by simp [h]
  rw [e, xor_back, List.set_set, List.getD_eq_getElem?_getD, List.getElem?_eq_getElem h, Option.getD_some, List.set_getElem_self]
set_option maxRecDepth 100000 in
set_option maxHeartbeats 4000000 in
theorem diskTurns_any (at0 pl by0 : Nat) (n : Int) (w : World) (ha : at0 < 256) (hp : pl < 256) (hb : by0 < 256) (hn : -9223372036854775808 ≤ n ∧ n ≤ 9223372036854775807) :
    Ret Try.prog 8 #[.int .u8 (at0 : Int), .int .u8 (pl : Int), .int .u8 (by0 : Int), .int .i64 n] w (.bool true) := by
  refine .of ?_
  obtain ⟨i, hi⟩ : ∃ i : Nat, at0 % 32 = i := ⟨_, rfl⟩
  have hi' : (at0 : Int) % 32 = (i : Int) := by omega
  have hi32 : i < 32 := by omega
  obtain ⟨k, hk⟩ : ∃ k : Nat, pl % 64 = k := ⟨_, rfl⟩
  have hk' : (pl : Int) % 64 = (k : Int) := by omega
  have hk64 : k < 64 := by omega
  obtain ⟨b, hb1⟩ : ∃ b : Nat, 1 + by0 % 255 = b := ⟨_, rfl⟩
  have hb' : 1 + (by0 : Int) % 255 = (b : Int) := by omega
  have hb255 : 1 ≤ b ∧ b ≤ 255 := by omega
  go_enter Try.func8, Try.ntmps8
  go_wp2_with fail
  refine (new_m 32 w _ (Below.refl _ _) (by omega) (by omega)).mono ?_
  rintro _ W1 ⟨p, f, rfl, hM, -, -, -⟩
  rw [calm_new] at hM
  go_wp2_with fail
  refine (err_ret 0 _).below.mono ?_
  rintro _ W2 ⟨rfl, hx⟩
  replace hM := hM.on hx
  clear hx W1
  go_wp2_with fail
  rw [hi', hk']
  clear hi' hk' hb'
  refine (sector_m hM [97, 98, 99]).mono ?_
  rintro _ V ⟨rfl, -, hM⟩
  rw [show secN [97, 98, 99] = abcS from rfl]
  go_wp2_with fail
  refine (write_m hM i abcS { calm zF with loose := [(i, abcS)] } 0 (tu_write i hi32) (by simp [calm])).mono ?_
  rintro _ V ⟨rfl, lv1, hM, -⟩
  go_wp2_with fail
  refine (turn_m hM i k b { calm zF with loose := [(i, abcS)] } 3 (tu_three i k b hi32 hk64 hb255)).mono ?_
  rintro _ V ⟨rfl, lv2, hM, -⟩
  go_wp2_with fail
  refine (flush_m hM (calm (zF.set i abcS)) 0 rfl).mono ?_
  rintro _ V ⟨rfl, lv3, hM, -⟩
  go_wp2_with fail
  refine (turn_m hM i k b _ 0 (turned_calm _ i k b abcS (by simpa [zF] using hi32) hk64 hb255.1 hb255.2 (getD_set_eq _ _ _ (by simpa [zF] using hi32)))).mono ?_
  rintro _ V ⟨rfl, lv4, hM, -⟩
  obtain ⟨y, hy⟩ : ∃ y, abcS.getD k 0 = y := ⟨_, rfl⟩
  obtain ⟨u, hu⟩ : ∃ u, y ^^^ UInt8.ofNat b = u := ⟨_, rfl⟩
  obtain ⟨s, hs⟩ : ∃ s, abcS.set k u = s := ⟨_, rfl⟩
  rw [hy, hu, hs] at hM
  have hsl : s.length = 64 := by rw [← hs, List.length_set]; exact abc_len
  have hback : s.set k (s.getD k 0 ^^^ UInt8.ofNat b) = abcS := by
    rw [← hs, ← hu, ← hy]
    exact set_back abcS k _ (by rw [abc_len]; exact hk64)
  obtain ⟨F, hF⟩ : ∃ F, (zF.set i abcS).set i s = F := ⟨_, rfl⟩
  have hFl : F.length = 32 := by rw [← hF]; simp [zF]
  have hFi : F.getD i [] = s := by rw [← hF]; exact getD_set_eq _ _ _ (by simpa [zF] using hi32)
  rw [hF] at hM
  clear hF
  go_wp2_with fail
  refine (read_m hM i s 0 ((calm_read F i (by omega)).trans (by rw [hFi]))).mono ?_
  rintro _ V ⟨rfl, -, hM⟩
  go_wp2_with fail
  refine (turn_m hM i k b _ 0 (turned_calm F i k b s (by omega) hk64 hb255.1 hb255.2 hFi)).mono ?_
  rintro _ V ⟨rfl, lv5, hM, -⟩
  rw [hback] at hM
  go_wp2_with fail
  refine (read_m hM i abcS 0 ((calm_read _ i (by simp; omega)).trans (by rw [getD_set_eq _ _ _ (by omega)]))).mono ?_
  rintro _ V ⟨rfl, -, hM⟩
  obtain ⟨G, hG⟩ : ∃ G, F.set i abcS = G := ⟨_, rfl⟩
  have hGl : G.length = 32 := by rw [← hG]; simp [hFl]
  rw [hG] at hM
  clear hG hback hFi hFl
  obtain ⟨bad, hbad, hbd⟩ : ∃ bad : Int, (if 0 ≤ n ∧ n < 32 then -1 - n else n) = bad ∧ ¬ (0 ≤ bad ∧ bad < 32) := ⟨_, rfl, by split <;> omega⟩
  by_cases hin : 0 ≤ n ∧ n < 32
  · rw [if_pos hin] at hbad
    have d1 : decide (0 ≤ n) = true := by simp [hin.1]
    have d2 : decide (n < 32) = true := by simp [hin.2]
    have hw : wrap64 (-1 - n) = bad := by unfold wrap64; omega
    go_wp2_with fail
    refine (sector_m hM [97, 98, 99]).mono ?_
    rintro _ V ⟨rfl, -, hM⟩
    rw [show secN [97, 98, 99] = abcS from rfl]
    obtain ⟨X, d, cc, tl, mm, hx, hX, hblk, hfr⟩ := conv_row V abcS
    have hcl : (plus V ⟨X, d⟩).cell? ⟨V.heap.size, k, none⟩ = some (.int .u8 (y.toNat : Int)) := by
      have := rowC_get abcS tl k (by rw [abc_len]; exact hk64)
      rw [hy] at this
      simp only [World.cell?, hblk]
      exact this
    have hfz := hfr k (by rw [abc_len]; exact hk64)
    have hcn : (UInt8.ofNat b).toNat = b := by rw [UInt8.toNat_ofNat']; omega
    have hxor := xor_u8 y (UInt8.ofNat b)
    rw [hcn, hu] at hxor
    have hwc : IntKind.u8.wrap (b : Int) = (b : Int) := by rw [IntKind.wrap_u8]; omega
    have hput := row_put (tl := tl) u (show k < abcS.length by rw [abc_len]; exact hk64) hblk
    rw [hs] at hput
    rw [abc_len] at hx
    have hk64' : (k : Int) < 64 := by omega
    clear hs hu hy
    go_wp2_with fail
    obtain ⟨Z, hZ⟩ : ∃ Z, (plus V ⟨X, d⟩).setCell ⟨V.heap.size, k, none⟩ (.int .u8 (u.toNat : Int)) = Z := ⟨_, rfl⟩
    have hbZ : Below V.heap.size V Z := by rw [← hZ]; repeat (first | exact Below.refl _ _ | refine Below.setCell ?_ (by first | (simp; done) | (simp; omega) | (simp [size_plus]; done) | (simp [size_plus]; omega)) _ | refine Below.alloc ?_ (by first | (simp; done) | (simp; omega) | (simp [size_plus]; done) | (simp [size_plus]; omega)) _ | refine Below.drew ?_ | refine Below.plus ?_ (by first | (simp; done) | (simp; omega) | (simp [size_plus]; done) | (simp [size_plus]; omega)) _)
    rw [hZ] at hput
    rw [hZ]
    replace hM := hM.on hbZ
    have HP : Put Z V.heap.size s tl mm := ⟨hput⟩
    clear hZ hx hblk hfr hcl hfz hxor hput hX
    generalize V.heap.size = g at HP ⊢
    refine (fuse_nil 1 _).mono ?_
    rintro _ V2 ⟨⟨_, rfl⟩, hV⟩
    rw [hV]
    clear hV
    go_wp2_with fail
    refine (crash_nil _ _).mono ?_
    rintro _ V2 ⟨⟨_, rfl⟩, hV⟩
    rw [hV]
    clear hV
    go_wp2_with fail
    refine (read_nil 0 _).below.mono ?_
    rintro _ V ⟨rfl, hx⟩
    replace hM := hM.on hx
    replace HP := HP.at hx
    clear hx
    go_wp2_with fail
    refine (err_ret 3 _).below.mono ?_
    rintro _ V ⟨rfl, hx⟩
    replace hM := hM.on hx
    replace HP := HP.at hx
    clear hx
    go_wp2_with fail
    refine (err_ret 0 _).below.mono ?_
    rintro _ V ⟨rfl, hx⟩
    replace hM := hM.on hx
    replace HP := HP.at hx
    clear hx
    go_wp2_with fail
    refine (err_ret 0 _).below.mono ?_
    rintro _ V ⟨rfl, hx⟩
    replace hM := hM.on hx
    replace HP := HP.at hx
    clear hx
    have hst := row_str _ g cc 64 s tl hsl.symm HP.out
    go_wp2_with fail
    clear hst
    refine (sector_ret [97, 98, 99] _).below.mono ?_
    rintro _ V ⟨rfl, hx⟩
    replace hM := hM.on hx
    replace HP := HP.at hx
    clear hx
    rw [show secN [97, 98, 99] = abcS from rfl]
    go_wp2_with fail
    refine (turn_bad hM.disk bad 0 1 (.inl (by simp only [calm, hGl]; omega))).below.mono ?_
    rintro _ V ⟨rfl, hx⟩
    replace hM := hM.on hx
    replace HP := HP.at hx
    clear hx
    go_wp2_with fail
    refine (err_ret 1 _).below.mono ?_
    rintro _ V ⟨rfl, hx⟩
    replace hM := hM.on hx
    replace HP := HP.at hx
    clear hx
    go_wp2_with fail
    refine (turn_bad hM.disk 0 64 1 (.inr (by omega))).below.mono ?_
    rintro _ V ⟨rfl, hx⟩
    replace hM := hM.on hx
    replace HP := HP.at hx
    clear hx
    go_wp2_with fail
    refine (err_ret 1 _).below.mono ?_
    rintro _ V ⟨rfl, hx⟩
    replace hM := hM.on hx
    replace HP := HP.at hx
    clear hx
    go_wp2_with fail
    refine (turn_bad hM.disk 0 0 256 (.inr (by omega))).below.mono ?_
    rintro _ V ⟨rfl, hx⟩
    replace hM := hM.on hx
    replace HP := HP.at hx
    clear hx
    go_wp2_with fail
    refine (err_ret 1 _).below.mono ?_
    rintro _ V ⟨rfl, hx⟩
    replace hM := hM.on hx
    replace HP := HP.at hx
    clear hx
    go_wp2_with fail
    refine (turn_bad hM.disk 0 0 0 (.inr (by omega))).below.mono ?_
    rintro _ V ⟨rfl, hx⟩
    replace hM := hM.on hx
    replace HP := HP.at hx
    clear hx
    go_wp2_with fail
    refine (err_ret 1 _).below.mono ?_
    rintro _ V ⟨rfl, hx⟩
    replace hM := hM.on hx
    replace HP := HP.at hx
    clear hx
    go_wp2_with fail
    refine (err_ret 1 _).below.mono ?_
    rintro _ V ⟨rfl, hx⟩
    replace hM := hM.on hx
    replace HP := HP.at hx
    clear hx
    go_wp2_with fail
    refine (sector_ret [] _).below.mono ?_
    rintro _ V ⟨rfl, hx⟩
    replace hM := hM.on hx
    replace HP := HP.at hx
    clear hx
    go_wp2_with fail
    refine (write_nil 0 (secN []) _).below.mono ?_
    rintro _ V ⟨rfl, hx⟩
    replace hM := hM.on hx
    replace HP := HP.at hx
    clear hx
    go_wp2_with fail
    refine (err_ret 1 _).below.mono ?_
    rintro _ V ⟨rfl, hx⟩
    replace hM := hM.on hx
    replace HP := HP.at hx
    clear hx
    go_wp2_with fail
    refine (flush_nil _).below.mono ?_
    rintro _ V ⟨rfl, hx⟩
    replace hM := hM.on hx
    replace HP := HP.at hx
    clear hx
    go_wp2_with fail
    refine (err_ret 1 _).below.mono ?_
    rintro _ V ⟨rfl, hx⟩
    replace hM := hM.on hx
    replace HP := HP.at hx
    clear hx
    go_wp2_with fail
    refine (len_nil _).below.mono ?_
    rintro _ V ⟨rfl, hx⟩
    replace hM := hM.on hx
    replace HP := HP.at hx
    clear hx
    go_wp2_with fail
    refine (loose_nil _).below.mono ?_
    rintro _ V ⟨rfl, hx⟩
    replace hM := hM.on hx
    replace HP := HP.at hx
    clear hx
    go_wp2_with fail
    refine (turn_nil 0 0 1 _).below.mono ?_
    rintro _ V ⟨rfl, hx⟩
    replace hM := hM.on hx
    replace HP := HP.at hx
    clear hx
    go_wp2_with fail
    refine (err_ret 1 _).below.mono ?_
    rintro _ V ⟨rfl, hx⟩
    replace hM := hM.on hx
    replace HP := HP.at hx
    clear hx
    go_wp2_with fail
    refine (awake_any _).below.mono ?_
    rintro _ V ⟨rfl, hx⟩
    replace hM := hM.on hx
    replace HP := HP.at hx
    clear hx
    go_wp2_with fail
    exact bodyPost_ret (v := .bool true) (by simp [results, Try.results8, go_sem]) rfl ⟨rfl, hM.below⟩
  · rw [if_neg hin] at hbad
    subst hbad
    by_cases h0 : 0 ≤ n
    · have d1 : decide (0 ≤ n) = true := by simp [h0]
      have d2 : decide (n < 32) = false := by simp; omega
      go_wp2_with fail
      refine (sector_m hM [97, 98, 99]).mono ?_
      rintro _ V ⟨rfl, -, hM⟩
      rw [show secN [97, 98, 99] = abcS from rfl]
      obtain ⟨X, d, cc, tl, mm, hx, hX, hblk, hfr⟩ := conv_row V abcS
      have hcl : (plus V ⟨X, d⟩).cell? ⟨V.heap.size, k, none⟩ = some (.int .u8 (y.toNat : Int)) := by
        have := rowC_get abcS tl k (by rw [abc_len]; exact hk64)
        rw [hy] at this
        simp only [World.cell?, hblk]
        exact this
      have hfz := hfr k (by rw [abc_len]; exact hk64)
      have hcn : (UInt8.ofNat b).toNat = b := by rw [UInt8.toNat_ofNat']; omega
      have hxor := xor_u8 y (UInt8.ofNat b)
      rw [hcn, hu] at hxor
      have hwc : IntKind.u8.wrap (b : Int) = (b : Int) := by rw [IntKind.wrap_u8]; omega
      have hput := row_put (tl := tl) u (show k < abcS.length by rw [abc_len]; exact hk64) hblk
      rw [hs] at hput
      rw [abc_len] at hx
      have hk64' : (k : Int) < 64 := by omega
      clear hs hu hy
      go_wp2_with fail
      obtain ⟨Z, hZ⟩ : ∃ Z, (plus V ⟨X, d⟩).setCell ⟨V.heap.size, k, none⟩ (.int .u8 (u.toNat : Int)) = Z := ⟨_, rfl⟩
      have hbZ : Below V.heap.size V Z := by rw [← hZ]; repeat (first | exact Below.refl _ _ | refine Below.setCell ?_ (by first | (simp; done) | (simp; omega) | (simp [size_plus]; done) | (simp [size_plus]; omega)) _ | refine Below.alloc ?_ (by first | (simp; done) | (simp; omega) | (simp [size_plus]; done) | (simp [size_plus]; omega)) _ | refine Below.drew ?_ | refine Below.plus ?_ (by first | (simp; done) | (simp; omega) | (simp [size_plus]; done) | (simp [size_plus]; omega)) _)
      rw [hZ] at hput
      rw [hZ]
      replace hM := hM.on hbZ
      have HP : Put Z V.heap.size s tl mm := ⟨hput⟩
      clear hZ hx hblk hfr hcl hfz hxor hput hX
      generalize V.heap.size = g at HP ⊢
      refine (fuse_nil 1 _).mono ?_
      rintro _ V2 ⟨⟨_, rfl⟩, hV⟩
      rw [hV]
      clear hV
      go_wp2_with fail
      refine (crash_nil _ _).mono ?_
      rintro _ V2 ⟨⟨_, rfl⟩, hV⟩
      rw [hV]
      clear hV
      go_wp2_with fail
      refine (read_nil 0 _).below.mono ?_
      rintro _ V ⟨rfl, hx⟩
      replace hM := hM.on hx
      replace HP := HP.at hx
      clear hx
      go_wp2_with fail
      refine (err_ret 3 _).below.mono ?_
      rintro _ V ⟨rfl, hx⟩
      replace hM := hM.on hx
      replace HP := HP.at hx
      clear hx
      go_wp2_with fail
      refine (err_ret 0 _).below.mono ?_
      rintro _ V ⟨rfl, hx⟩
      replace hM := hM.on hx
      replace HP := HP.at hx
      clear hx
      go_wp2_with fail
      refine (err_ret 0 _).below.mono ?_
      rintro _ V ⟨rfl, hx⟩
      replace hM := hM.on hx
      replace HP := HP.at hx
      clear hx
      have hst := row_str _ g cc 64 s tl hsl.symm HP.out
      go_wp2_with fail
      clear hst
      refine (sector_ret [97, 98, 99] _).below.mono ?_
      rintro _ V ⟨rfl, hx⟩
      replace hM := hM.on hx
      replace HP := HP.at hx
      clear hx
      rw [show secN [97, 98, 99] = abcS from rfl]
      go_wp2_with fail
      refine (turn_bad hM.disk n 0 1 (.inl (by simp only [calm, hGl]; omega))).below.mono ?_
      rintro _ V ⟨rfl, hx⟩
      replace hM := hM.on hx
      replace HP := HP.at hx
      clear hx
      go_wp2_with fail
      refine (err_ret 1 _).below.mono ?_
      rintro _ V ⟨rfl, hx⟩
      replace hM := hM.on hx
      replace HP := HP.at hx
      clear hx
      go_wp2_with fail
      refine (turn_bad hM.disk 0 64 1 (.inr (by omega))).below.mono ?_
      rintro _ V ⟨rfl, hx⟩
      replace hM := hM.on hx
      replace HP := HP.at hx
      clear hx
      go_wp2_with fail
      refine (err_ret 1 _).below.mono ?_
      rintro _ V ⟨rfl, hx⟩
      replace hM := hM.on hx
      replace HP := HP.at hx
      clear hx
      go_wp2_with fail
      refine (turn_bad hM.disk 0 0 256 (.inr (by omega))).below.mono ?_
      rintro _ V ⟨rfl, hx⟩
      replace hM := hM.on hx
      replace HP := HP.at hx
      clear hx
      go_wp2_with fail
      refine (err_ret 1 _).below.mono ?_
      rintro _ V ⟨rfl, hx⟩
      replace hM := hM.on hx
      replace HP := HP.at hx
      clear hx
      go_wp2_with fail
      refine (turn_bad hM.disk 0 0 0 (.inr (by omega))).below.mono ?_
      rintro _ V ⟨rfl, hx⟩
      replace hM := hM.on hx
      replace HP := HP.at hx
      clear hx
      go_wp2_with fail
      refine (err_ret 1 _).below.mono ?_
      rintro _ V ⟨rfl, hx⟩
      replace hM := hM.on hx
      replace HP := HP.at hx
      clear hx
      go_wp2_with fail
      refine (err_ret 1 _).below.mono ?_
      rintro _ V ⟨rfl, hx⟩
      replace hM := hM.on hx
      replace HP := HP.at hx
      clear hx
      go_wp2_with fail
      refine (sector_ret [] _).below.mono ?_
      rintro _ V ⟨rfl, hx⟩
      replace hM := hM.on hx
      replace HP := HP.at hx
      clear hx
      go_wp2_with fail
      refine (write_nil 0 (secN []) _).below.mono ?_
      rintro _ V ⟨rfl, hx⟩
      replace hM := hM.on hx
      replace HP := HP.at hx
      clear hx
      go_wp2_with fail
      refine (err_ret 1 _).below.mono ?_
      rintro _ V ⟨rfl, hx⟩
      replace hM := hM.on hx
      replace HP := HP.at hx
      clear hx
      go_wp2_with fail
      refine (flush_nil _).below.mono ?_
      rintro _ V ⟨rfl, hx⟩
      replace hM := hM.on hx
      replace HP := HP.at hx
      clear hx
      go_wp2_with fail
      refine (err_ret 1 _).below.mono ?_
      rintro _ V ⟨rfl, hx⟩
      replace hM := hM.on hx
      replace HP := HP.at hx
      clear hx
      go_wp2_with fail
      refine (len_nil _).below.mono ?_
      rintro _ V ⟨rfl, hx⟩
      replace hM := hM.on hx
      replace HP := HP.at hx
      clear hx
      go_wp2_with fail
      refine (loose_nil _).below.mono ?_
      rintro _ V ⟨rfl, hx⟩
      replace hM := hM.on hx
      replace HP := HP.at hx
      clear hx
      go_wp2_with fail
      refine (turn_nil 0 0 1 _).below.mono ?_
      rintro _ V ⟨rfl, hx⟩
      replace hM := hM.on hx
      replace HP := HP.at hx
      clear hx
      go_wp2_with fail
      refine (err_ret 1 _).below.mono ?_
      rintro _ V ⟨rfl, hx⟩
      replace hM := hM.on hx
      replace HP := HP.at hx
      clear hx
      go_wp2_with fail
      refine (awake_any _).below.mono ?_
      rintro _ V ⟨rfl, hx⟩
      replace hM := hM.on hx
      replace HP := HP.at hx
      clear hx
      go_wp2_with fail
      exact bodyPost_ret (v := .bool true) (by simp [results, Try.results8, go_sem]) rfl ⟨rfl, hM.below⟩
    · have d1 : decide (0 ≤ n) = false := by simp; omega
      go_wp2_with fail
      refine (sector_m hM [97, 98, 99]).mono ?_
      rintro _ V ⟨rfl, -, hM⟩
      rw [show secN [97, 98, 99] = abcS from rfl]
      obtain ⟨X, d, cc, tl, mm, hx, hX, hblk, hfr⟩ := conv_row V abcS
      have hcl : (plus V ⟨X, d⟩).cell? ⟨V.heap.size, k, none⟩ = some (.int .u8 (y.toNat : Int)) := by
        have := rowC_get abcS tl k (by rw [abc_len]; exact hk64)
        rw [hy] at this
        simp only [World.cell?, hblk]
        exact this
      have hfz := hfr k (by rw [abc_len]; exact hk64)
      have hcn : (UInt8.ofNat b).toNat = b := by rw [UInt8.toNat_ofNat']; omega
      have hxor := xor_u8 y (UInt8.ofNat b)
      rw [hcn, hu] at hxor
      have hwc : IntKind.u8.wrap (b : Int) = (b : Int) := by rw [IntKind.wrap_u8]; omega
      have hput := row_put (tl := tl) u (show k < abcS.length by rw [abc_len]; exact hk64) hblk
      rw [hs] at hput
      rw [abc_len] at hx
      have hk64' : (k : Int) < 64 := by omega
      clear hs hu hy
      go_wp2_with fail
      obtain ⟨Z, hZ⟩ : ∃ Z, (plus V ⟨X, d⟩).setCell ⟨V.heap.size, k, none⟩ (.int .u8 (u.toNat : Int)) = Z := ⟨_, rfl⟩
      have hbZ : Below V.heap.size V Z := by rw [← hZ]; repeat (first | exact Below.refl _ _ | refine Below.setCell ?_ (by first | (simp; done) | (simp; omega) | (simp [size_plus]; done) | (simp [size_plus]; omega)) _ | refine Below.alloc ?_ (by first | (simp; done) | (simp; omega) | (simp [size_plus]; done) | (simp [size_plus]; omega)) _ | refine Below.drew ?_ | refine Below.plus ?_ (by first | (simp; done) | (simp; omega) | (simp [size_plus]; done) | (simp [size_plus]; omega)) _)
      rw [hZ] at hput
      rw [hZ]
      replace hM := hM.on hbZ
      have HP : Put Z V.heap.size s tl mm := ⟨hput⟩
      clear hZ hx hblk hfr hcl hfz hxor hput hX
      generalize V.heap.size = g at HP ⊢
      refine (fuse_nil 1 _).mono ?_
      rintro _ V2 ⟨⟨_, rfl⟩, hV⟩
      rw [hV]
      clear hV
      go_wp2_with fail
      refine (crash_nil _ _).mono ?_
      rintro _ V2 ⟨⟨_, rfl⟩, hV⟩
      rw [hV]
      clear hV
      go_wp2_with fail
      refine (read_nil 0 _).below.mono ?_
      rintro _ V ⟨rfl, hx⟩
      replace hM := hM.on hx
      replace HP := HP.at hx
      clear hx
      go_wp2_with fail
      refine (err_ret 3 _).below.mono ?_
      rintro _ V ⟨rfl, hx⟩
      replace hM := hM.on hx
      replace HP := HP.at hx
      clear hx
      go_wp2_with fail
      refine (err_ret 0 _).below.mono ?_
      rintro _ V ⟨rfl, hx⟩
      replace hM := hM.on hx
      replace HP := HP.at hx
      clear hx
      go_wp2_with fail
      refine (err_ret 0 _).below.mono ?_
      rintro _ V ⟨rfl, hx⟩
      replace hM := hM.on hx
      replace HP := HP.at hx
      clear hx
      have hst := row_str _ g cc 64 s tl hsl.symm HP.out
      go_wp2_with fail
      clear hst
      refine (sector_ret [97, 98, 99] _).below.mono ?_
      rintro _ V ⟨rfl, hx⟩
      replace hM := hM.on hx
      replace HP := HP.at hx
      clear hx
      rw [show secN [97, 98, 99] = abcS from rfl]
      go_wp2_with fail
      refine (turn_bad hM.disk n 0 1 (.inl (by simp only [calm, hGl]; omega))).below.mono ?_
      rintro _ V ⟨rfl, hx⟩
      replace hM := hM.on hx
      replace HP := HP.at hx
      clear hx
      go_wp2_with fail
      refine (err_ret 1 _).below.mono ?_
      rintro _ V ⟨rfl, hx⟩
      replace hM := hM.on hx
      replace HP := HP.at hx
      clear hx
      go_wp2_with fail
      refine (turn_bad hM.disk 0 64 1 (.inr (by omega))).below.mono ?_
      rintro _ V ⟨rfl, hx⟩
      replace hM := hM.on hx
      replace HP := HP.at hx
      clear hx
      go_wp2_with fail
      refine (err_ret 1 _).below.mono ?_
      rintro _ V ⟨rfl, hx⟩
      replace hM := hM.on hx
      replace HP := HP.at hx
      clear hx
      go_wp2_with fail
      refine (turn_bad hM.disk 0 0 256 (.inr (by omega))).below.mono ?_
      rintro _ V ⟨rfl, hx⟩
      replace hM := hM.on hx
      replace HP := HP.at hx
      clear hx
      go_wp2_with fail
      refine (err_ret 1 _).below.mono ?_
      rintro _ V ⟨rfl, hx⟩
      replace hM := hM.on hx
      replace HP := HP.at hx
      clear hx
      go_wp2_with fail
      refine (turn_bad hM.disk 0 0 0 (.inr (by omega))).below.mono ?_
      rintro _ V ⟨rfl, hx⟩
      replace hM := hM.on hx
      replace HP := HP.at hx
      clear hx
      go_wp2_with fail
      refine (err_ret 1 _).below.mono ?_
      rintro _ V ⟨rfl, hx⟩
      replace hM := hM.on hx
      replace HP := HP.at hx
      clear hx
      go_wp2_with fail
      refine (err_ret 1 _).below.mono ?_
      rintro _ V ⟨rfl, hx⟩
      replace hM := hM.on hx
      replace HP := HP.at hx
      clear hx
      go_wp2_with fail
      refine (sector_ret [] _).below.mono ?_
      rintro _ V ⟨rfl, hx⟩
      replace hM := hM.on hx
      replace HP := HP.at hx
      clear hx
      go_wp2_with fail
      refine (write_nil 0 (secN []) _).below.mono ?_
      rintro _ V ⟨rfl, hx⟩
      replace hM := hM.on hx
      replace HP := HP.at hx
      clear hx
      go_wp2_with fail
      refine (err_ret 1 _).below.mono ?_
      rintro _ V ⟨rfl, hx⟩
      replace hM := hM.on hx
      replace HP := HP.at hx
      clear hx
      go_wp2_with fail
      refine (flush_nil _).below.mono ?_
      rintro _ V ⟨rfl, hx⟩
      replace hM := hM.on hx
      replace HP := HP.at hx
      clear hx
      go_wp2_with fail
      refine (err_ret 1 _).below.mono ?_
      rintro _ V ⟨rfl, hx⟩
      replace hM := hM.on hx
      replace HP := HP.at hx
      clear hx
      go_wp2_with fail
      refine (len_nil _).below.mono ?_
      rintro _ V ⟨rfl, hx⟩
      replace hM := hM.on hx
      replace HP := HP.at hx
      clear hx
      go_wp2_with fail
      refine (loose_nil _).below.mono ?_
      rintro _ V ⟨rfl, hx⟩
      replace hM := hM.on hx
      replace HP := HP.at hx
      clear hx
      go_wp2_with fail
      refine (turn_nil 0 0 1 _).below.mono ?_
      rintro _ V ⟨rfl, hx⟩
      replace hM := hM.on hx
      replace HP := HP.at hx
      clear hx
      go_wp2_with fail
      refine (err_ret 1 _).below.mono ?_
      rintro _ V ⟨rfl, hx⟩
      replace hM := hM.on hx
      replace HP := HP.at hx
      clear hx
      go_wp2_with fail
      refine (awake_any _).below.mono ?_
      rintro _ V ⟨rfl, hx⟩
      replace hM := hM.on hx
      replace HP := HP.at hx
      clear hx
      go_wp2_with fail
      exact bodyPost_ret (v := .bool true) (by simp [results, Try.results8, go_sem]) rfl ⟨rfl, hM.below⟩
end Go.Proofs.Ytojgfaichkcmpaa

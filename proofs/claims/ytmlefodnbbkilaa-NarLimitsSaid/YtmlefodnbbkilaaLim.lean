/- Walks: NarLimits. -/
import Derived.Test.YtmlefodnbbkilaaMade
import Derived.Test.YtmlefodnbbkilaaPureLim
import Derived.Deep.DeepCutAuto
import Derived.Deep.CutBlock
namespace Go.Proofs.Ytmlefodnbbkilaa
open Go.RowKit

/-- What the nodes are that are tried. -/
structure Tried (W wc : World) (u : Value) (good : Bool) (l : List Nd) : Prop where
  row : NR W wc u l
  len : l.length ≤ 300
  may : mayN l = good
  all : ∀ x ∈ l, x.1.length ≤ 1000000 ∧ x.2.2.length ≤ 1000000
theorem make_n (w : World) (k : Nat) (hk : k ≤ 1000000) : (Instr.makeSlice 22 (.int .i64 (k : Int)) (.int .i64 (k : Int))).run Try.prog w = .ok (.slice (some ⟨w.heap.size, 0, none⟩) k k) (w.alloc (.cells (u8s (List.replicate k 0)).toArray 5)) := by
  obtain ⟨i, hi, hz, hs, hb⟩ := info_parts info5
  have h := run_make (P := Try.prog) w 22 5 i (.int .u8 0) Try.underlying22 hi hz .i64 .i64 k k (by omega) (by omega) (by rw [hb]; omega) (by omega)
  have hm : madeCells (Value.int IntKind.u8 0).cells (k * 1) = (u8s (List.replicate k 0)).toArray := by
    apply Array.ext'
    rw [Nat.mul_one]
    show (madeCells #[.int .u8 0] k).toList = _
    rw [toList_madeCells_one]
    simp [u8s]
  rw [hs] at h
  simp only [Int.toNat_natCast] at h
  rw [hm] at h
  exact h
theorem two_str (w : World) (x y : Nat) (hx : x ≤ 25) (hy : y ≤ 25) : (convert 22 9 (.slice (some ⟨w.heap.size, 0, none⟩) 2 2)).run Try.prog (w.alloc (.cells #[.int .u8 (97 + (x : Int)), .int .u8 (97 + (y : Int))] 5)) = .ok (strV [UInt8.ofNat (97 + x), UInt8.ofNat (97 + y)]) (w.alloc (.cells #[.int .u8 (97 + (x : Int)), .int .u8 (97 + (y : Int))] 5)) := by
  refine block_str _ w.heap.size 2 2 [UInt8.ofNat (97 + x), UInt8.ofNat (97 + y)] rfl (fr := (0, 0)) ?_
  rw [new_at]
  simp [u8s]
  omega
theorem pack_err {l : List Nd} : (packL l).2 = if mayN l = true then 0 else 1 := by
  split
  · rename_i h
    exact (pack_mod h).2
  · rename_i h
    rw [packL_none (by simpa using h)]

set_option maxRecDepth 100000 in
set_option maxHeartbeats 2000000 in
theorem narLimits_any (n wh : Nat) (hn : n ≤ 255) (hw : wh ≤ 255) (W : World) :
    Calls Try.prog 7 #[.int .u8 n, .int .u8 wh] W fun e w' => e = .returned (.bool true) ∧ Below W.heap.size W w' := by
  have HAW := Lib.hid awake_any
  have hw0 : IntKind.i64.wrap (n : Int) = (n : Int) := IntWalk.i64_in _ (by omega)
  obtain ⟨r, hr⟩ : ∃ r : Nat, n % 10 = r := ⟨_, rfl⟩
  have hr9 : r ≤ 9 := by omega
  have hr1 : ((n : Int)).tmod 10 = (r : Int) := by rw [Int.tmod_eq_emod_of_nonneg (by omega), ← hr]; rfl
  obtain ⟨a, ha⟩ : ∃ a, 250 + r = a := ⟨_, rfl⟩
  obtain ⟨q, hq⟩ : ∃ q, wh % 4 = q := ⟨_, rfl⟩
  have hq1 : ((wh : Int)).tmod 4 = (q : Int) := by rw [Int.tmod_eq_emod_of_nonneg (by omega), ← hq]; rfl
  have hq4 : q ≤ 3 := by omega
  have HA := Lib.hid ha
  have ha1 : a ≤ 259 := by omega
  clear hr hq ha
  go_enter Try.func7, Try.ntmps7
  go_wp2_with fail
  rename_i K hK
  have HKK := Lib.hid hK
  clear hK
  go_loopw [5, 6] (fun y z wr => ∃ (i : Nat) (s : Bs), y = strV s ∧ z = .int .i64 i ∧ i ≤ a ∧ Hid (s = List.replicate i 110) ∧ s.length ≤ i ∧ Hid (wr = W)) (fun _ z _ => a - (intOf z).toNat)
  case atStart => exact ⟨0, [], rfl, by simp, by omega, Lib.hid rfl, by simp, Lib.hid rfl⟩
  case round =>
    obtain ⟨i, s, rfl, rfl, hi, HS, hsl, HW⟩ := hrel
    have hW := HW.out.symm
    subst hW
    by_cases hlt : i < a
    · have hd : decide ((i : Int) < 250 + (r : Int)) = true := by have := HA.out; simp; omega
      have e1 : (9223372036854775807 < List.length s + 1) = False := by have := HA.out; simp; omega
      have HS2 : Hid (s ++ [110] = List.replicate (i + 1) 110) := Lib.hid (by rw [HS.out, List.replicate_succ'])
      have hsl2 : (s ++ [110]).length ≤ i + 1 := by simp; omega
      go_wp2_with fail
      go_roundw
      case rel => exact ⟨i + 1, s ++ [110], rfl, by go_num, by omega, HS2, hsl2, by first | exact Lib.hid trivial | exact HW⟩
      case measure => simp [intOf]; omega
    · obtain rfl : i = a := by omega
      have hd : decide ((i : Int) < 250 + (r : Int)) = false := by have := HA.out; simp; omega
      have hsi : s.length = i := by rw [HS.out]; simp
      have HSI := Lib.hid hsi
      have HR : Hid (NR W (W.alloc (.cells #[strV [], .int .i64 4, strV []] 37)) (.slice (some ⟨W.heap.size, 0, none⟩) 1 1) [([], 4, [])]) := Lib.hid (nr_lit (Below.refl _ W) [([], 4, [])] (by simp))
      clear hsi
      go_wp2_with fail
      refine HKK.out _ _ ?_
      clear HKK
      go_upto_block 2 with fail
      go_cut [7, 8] (fun u g wc => ∃ (l : List Nd) (good : Bool), g = .bool good ∧ Hid (Tried W wc u good l))
      case first =>
        obtain ⟨w1, hw1⟩ : ∃ w, W.alloc (.cells #[strV [], .int .i64 4, strV []] 37) = w := ⟨_, rfl⟩
        rw [hw1] at HR ⊢
        clear hw1
        have q0123 : q = 0 ∨ q = 1 ∨ q = 2 ∨ q = 3 := by omega
        rcases q0123 with rfl | rfl | rfl | rfl
        · have hg : decide ((s.length : Int) ≤ 255) = decide (i ≤ 255) := by rw [HSI.out]; simp; omega
          have HT1 : Hid (∀ wc u, NR W wc u ([([], 4, [])] ++ [(s, 1, [])]) → Tried W wc u (decide (i ≤ 255)) ([([], 4, [])] ++ [(s, 1, [])])) := Lib.hid fun wc u h => ⟨h, by simp, by rw [HS.out]; exact lim_name i (by have := HA.out; omega), fun x hx => by
            simp at hx
            rcases hx with rfl | rfl
            · simp
            · simp; omega⟩
          have HR5 := Lib.hid (HR.out.on ((Below.refl _ w1).alloc (Nat.le_refl _) (.cells #[strV s, .int .i64 1, strV []] 37)))
          have HNEW := Lib.hid (news_new w1 37 (flatX encNd [(s, 1, [])]))
          have HONE := Lib.hid (encNd_ok.cells [(s, 1, [])])
          clear hd
          go_wp2_with (at_builtin; go_loud (refine wpList_appendAt rfl _ _ 25 37 rfl Try.underlying25 _ 3 40 info37 rfl (.slice (some ⟨W.heap.size, 0, none⟩) 1 1) 1 (flatX encNd [([], 4, [])]) (flatX encNd [(s, 1, [])]) 1 rfl HR5.out.row ⟨w1.heap.size, 0, none⟩ _ rfl HNEW.out rfl HONE.out (by omega) (.inl (by omega)) (by omega) (by omega) ?_); intro v2 w2 hrow1 hg1 hown1 hnl1; clear hnl1; have HU := Lib.hid (HR5.out.app [(s, 1, [])] hg1 hrow1 hown1); clear hrow1 hg1 hown1)
          go_meet
          exact ⟨_, _, by first | rfl | (rw [hg]; rfl), Lib.hid (HT1.out _ _ HU.out)⟩
        · rw [show ((1 : Nat) : Int) = 1 from rfl]
          obtain ⟨r8, hr8⟩ : ∃ r8 : Nat, n % 8 = r8 := ⟨_, rfl⟩
          have hr7 : r8 ≤ 7 := by omega
          have hr2 : ((n : Int)).tmod 8 = (r8 : Int) := by rw [Int.tmod_eq_emod_of_nonneg (by omega), ← hr8]; rfl
          clear hd hr8
          go_wp2_with fail
          rename_i K2 hK2
          have HK2 := Lib.hid hK2
          clear hK2
          go_loopw [7, 9, 10] (fun u y z wd => ∃ (j : Nat) (p : Bs) (L : List Nd), y = strV p ∧ z = .int .i64 j ∧ j ≤ 60 + r8 ∧ Hid (p = dp (j + 1)) ∧ p.length ≤ 2 * j + 1 ∧ Hid (L = ([], 4, []) :: chL j) ∧ L.length ≤ j + 1 ∧ Hid (NR W wd u L)) (fun _ _ z _ => 60 + r8 - (intOf z).toNat)
          case atStart => exact ⟨0, [100], [([], 4, [])], rfl, by simp, by omega, Lib.hid rfl, by simp, Lib.hid rfl, by simp, HR⟩
          case round =>
            clear HR
            obtain ⟨j, p, L, rfl, rfl, hj, HP, hpl, HL, hLl, HR⟩ := hrel
            obtain ⟨A2, c2, rfl⟩ := HR.out.form
            by_cases hlt : j < 60 + r8
            · have hd : decide ((j : Int) < 60 + (r8 : Int)) = true := by simp; omega
              have e1 : (9223372036854775807 < List.length p + 2) = False := by simp; omega
              have HR5 := Lib.hid (HR.out.on ((Below.refl _ _).alloc (Nat.le_refl _) (.cells #[strV p, .int .i64 4, strV []] 37)))
              have HNEW := Lib.hid (fun wd => news_new wd 37 (flatX encNd [(p, 4, [])]))
              have HONE := Lib.hid (encNd_ok.cells [(p, 4, [])])
              go_wp2_with (at_builtin; go_loud (refine wpList_appendAt rfl _ _ 25 37 rfl Try.underlying25 _ 3 40 info37 rfl (.slice A2 L.length c2) L.length (flatX encNd L) (flatX encNd [(p, 4, [])]) 1 rfl HR5.out.row ⟨_, 0, none⟩ _ rfl (HNEW.out _) rfl HONE.out (by omega) (.inl (by omega)) (by omega) (by omega) ?_); intro v2 w2 hrow1 hg1 hown1 hnl1; clear hnl1; have HU := Lib.hid (HR5.out.app [(p, 4, [])] hg1 hrow1 hown1); clear hrow1 hg1 hown1)
              have HP2 : Hid (p ++ [47, 100] = dp (j + 1 + 1)) := Lib.hid (by rw [dp_first (j + 1), if_neg (by omega), HP.out])
              have HL2 : Hid (L ++ [(p, 4, [])] = ([], 4, []) :: chL (j + 1)) := Lib.hid (by rw [chL_succ, HL.out, HP.out]; rfl)
              go_roundw
              case rel => exact ⟨j + 1, p ++ [47, 100], L ++ [(p, 4, [])], rfl, by go_num, by omega, HP2, by simp; omega, HL2, by simp; omega, HU⟩
              case measure => simp [intOf]; omega
            · have hd : decide ((j : Int) < 60 + (r8 : Int)) = false := by simp; omega
              have hjj : j = 60 + r8 := by omega
              have hg : decide (60 + (r8 : Int) ≤ 64) = decide (j ≤ 64) := by simp; omega
              have HT1 : Hid (∀ wc, NR W wc (.slice A2 L.length c2) L → Tried W wc (.slice A2 L.length c2) (decide (j ≤ 64)) L) := Lib.hid fun wc h => ⟨h, by omega, by rw [HL.out]; exact lim_deep j (by omega) (by omega), fun x hx => by
                rw [HL.out] at hx
                rcases List.mem_cons.1 hx with rfl | hx
                · simp
                · obtain ⟨t, ht, rfl⟩ := List.mem_map.1 hx
                  have := dp_len t
                  have := List.mem_range.1 ht
                  dsimp only
                  constructor
                  · omega
                  · simp⟩
              have HG := Lib.hid hg
              clear hjj hg
              go_wp2_with fail
              refine HK2.out _ _ ?_
              clear HK2
              go_wp2_with fail
              go_meet
              exact ⟨L, _, by first | rfl | (rw [HG.out]), Lib.hid (HT1.out _ HR.out)⟩
        · rw [show ((2 : Nat) : Int) = 2 from rfl]
          obtain ⟨r7, hr7⟩ : ∃ r7 : Nat, n % 7 = r7 := ⟨_, rfl⟩
          have hr6 : r7 ≤ 6 := by omega
          have hr2 : ((n : Int)).tmod 7 = (r7 : Int) := by rw [Int.tmod_eq_emod_of_nonneg (by omega), ← hr7]; rfl
          have hmk := make_n w1 (65533 + r7) (by omega)
          obtain ⟨Z, hZ⟩ : ∃ Z : Bs, List.replicate (65533 + r7) (0 : UInt8) = Z := ⟨_, rfl⟩
          have hZl : Z.length = 65533 + r7 := by rw [← hZ]; simp
          rw [hZ] at hmk
          have hm := lim_data (65533 + r7)
          rw [hZ] at hm
          obtain ⟨w2, hw2⟩ : ∃ w2, w1.alloc (.cells (u8s Z).toArray 5) = w2 := ⟨_, rfl⟩
          have hcv : (convert 22 9 (.slice (some ⟨w1.heap.size, 0, none⟩) (65533 + r7) (65533 + r7))).run Try.prog w2 = .ok (strV Z) w2 := block_str w2 w1.heap.size (65533 + r7) (65533 + r7) Z hZl.symm (by rw [← hw2]; exact new_at w1 _)
          have hbw : Below W.heap.size W w2 := by rw [← hw2]; exact HR.out.below.alloc HR.out.below.size _
          have HT1 : Hid (Tried W (w2.alloc (.cells #[strV [], .int .i64 1, strV Z] 37)) (.slice (some ⟨w2.heap.size, 0, none⟩) 1 1) (decide (65533 + r7 ≤ 65536)) [([], 1, Z)]) := Lib.hid ⟨nr_lit hbw [([], 1, Z)] (by simp), by simp, hm, fun x hx => by
            rw [List.mem_singleton.1 hx]
            simp
            omega⟩
          have HG : Hid (decide (65533 + (r7 : Int) ≤ 65536) = decide (65533 + r7 ≤ 65536)) := Lib.hid (by simp; omega)
          rw [hw2, show ((65533 + r7 : Nat) : Int) = 65533 + (r7 : Int) from rfl] at hmk
          clear hd hr7 hZ hZl hm hw2 hbw HR
          go_wp2_with fail
          go_meet
          exact ⟨[([], 1, Z)], _, by first | rfl | (rw [HG.out]), HT1⟩
        · rw [show ((3 : Nat) : Int) = 3 from rfl]
          obtain ⟨rc, hrc⟩ : ∃ rc : Nat, n % 12 = rc := ⟨_, rfl⟩
          have hr11 : rc ≤ 11 := by omega
          have hr2 : ((n : Int)).tmod 12 = (rc : Int) := by rw [Int.tmod_eq_emod_of_nonneg (by omega), ← hrc]; rfl
          clear hd hrc
          go_wp2_with fail
          rename_i K2 hK2
          have HK2 := Lib.hid hK2
          clear hK2
          go_loopw [7, 13] (fun u z wd => ∃ (j : Nat) (L : List Nd), z = .int .i64 ((j : Int) + 1) ∧ j + 1 ≤ 250 + rc ∧ Hid (L = ([], 4, []) :: flL j 1) ∧ L.length ≤ j + 1 ∧ Hid (NR W wd u L)) (fun _ z _ => 250 + rc - (intOf z).toNat)
          case atStart => exact ⟨0, [([], 4, [])], by simp, by omega, Lib.hid rfl, by simp, HR⟩
          case round =>
            clear HR
            obtain ⟨j, L, rfl, hj, HL, hLl, HR⟩ := hrel
            obtain ⟨A2, c2, rfl⟩ := HR.out.form
            by_cases hlt : j + 1 < 250 + rc
            · have hd : decide ((j : Int) + 1 < 250 + (rc : Int)) = true := by simp; omega
              obtain ⟨e1, he1⟩ : ∃ e : Nat, (j + 1) / 26 = e := ⟨_, rfl⟩
              obtain ⟨e2, he2⟩ : ∃ e : Nat, e1 % 26 = e := ⟨_, rfl⟩
              obtain ⟨e3, he3⟩ : ∃ e : Nat, (j + 1) % 26 = e := ⟨_, rfl⟩
              have g1 : ((j : Int) + 1).tdiv 26 = (e1 : Int) := by rw [Int.tdiv_eq_ediv_of_nonneg (by omega)]; omega
              have g2 : ((e1 : Int)).tmod 26 = (e2 : Int) := by rw [Int.tmod_eq_emod_of_nonneg (by omega)]; omega
              have g3 : ((j : Int) + 1).tmod 26 = (e3 : Int) := by rw [Int.tmod_eq_emod_of_nonneg (by omega)]; omega
              have g4 : e2 ≤ 25 := by omega
              have g5 : e3 ≤ 25 := by omega
              have g6 : e1 ≤ 11 := by omega
              have hnm : nm2 (j + 1) = [UInt8.ofNat (97 + e2), UInt8.ofNat (97 + e3)] := by unfold nm2; rw [he1, he2, he3]
              obtain ⟨p, hp⟩ : ∃ p, nm2 (j + 1) = p := ⟨_, rfl⟩
              have HP := Lib.hid hp
              have hpl : p.length = 2 := by rw [← hp]; rfl
              have hcv := two_str wr e2 e3 g4 g5
              rw [← hnm, hp] at hcv
              clear he1 he2 he3 hnm hp
              have hbl : Below wr.heap.size wr (wr.alloc (.cells #[.int .u8 (97 + (e2 : Int)), .int .u8 (97 + (e3 : Int))] 5)) := (Below.refl _ wr).alloc (Nat.le_refl _) _
              have HR5 := Lib.hid (HR.out.on (hbl.alloc hbl.size (.cells #[strV p, .int .i64 1, strV []] 37)))
              have hnw := news_new (wr.alloc (.cells #[.int .u8 (97 + (e2 : Int)), .int .u8 (97 + (e3 : Int))] 5)) 37 (flatX encNd [(p, 1, [])])
              rw [World.size_alloc] at hnw
              have HNEW := Lib.hid hnw
              clear hnw
              have HONE := Lib.hid (encNd_ok.cells [(p, 1, [])])
              clear hbl
              go_wp2_with (at_builtin; go_loud (refine wpList_appendAt rfl _ _ 25 37 rfl Try.underlying25 _ 3 40 info37 rfl (.slice A2 L.length c2) L.length (flatX encNd L) (flatX encNd [(p, 1, [])]) 1 rfl HR5.out.row ⟨wr.heap.size + 1, 0, none⟩ _ rfl HNEW.out rfl HONE.out (by omega) (.inl (by omega)) (by omega) (by omega) ?_); intro v2 w2 hrow1 hg1 hown1 hnl1; clear hnl1; have HU := Lib.hid (HR5.out.app [(p, 1, [])] hg1 hrow1 hown1); clear hrow1 hg1 hown1)
              have HL2 : Hid (L ++ [(p, 1, [])] = ([], 4, []) :: flL (j + 1) 1) := Lib.hid (by rw [flL_succ, HL.out, ← HP.out]; rfl)
              go_roundw
              case rel => exact ⟨j + 1, L ++ [(p, 1, [])], by go_num, by omega, HL2, by simp; omega, HU⟩
              case measure => simp [intOf]; omega
            · have hd : decide ((j : Int) + 1 < 250 + (rc : Int)) = false := by simp; omega
              have HG : Hid (decide (250 + (rc : Int) ≤ 256) = decide (j < 256)) := Lib.hid (by simp; omega)
              have HT1 : Hid (∀ wc, NR W wc (.slice A2 L.length c2) L → Tried W wc (.slice A2 L.length c2) (decide (j < 256)) L) := Lib.hid fun wc h => ⟨h, by omega, by rw [HL.out]; exact lim_nodes j (by omega), fun x hx => by
                rw [HL.out] at hx
                rcases List.mem_cons.1 hx with rfl | hx
                · simp
                · obtain ⟨t, ht, rfl⟩ := List.mem_map.1 hx
                  constructor <;> simp [nm2]⟩
              go_wp2_with fail
              refine HK2.out _ _ ?_
              clear HK2
              go_wp2_with fail
              go_meet
              exact ⟨L, _, by first | rfl | (rw [HG.out]), Lib.hid (HT1.out _ HR.out)⟩
      case rest =>
        obtain ⟨l, good, rfl, HT⟩ := hcut
        have hNI := HT.out.row.xin encNd_ok
        have hln := HT.out.len
        have HB := Lib.hid HT.out.row.below
        obtain ⟨A, vc, rfl⟩ := HT.out.row.form
        have HPK := Lib.hid (pack_any cont_all hNI (by omega) fun x hx => (HT.out.all x hx).1)
        have HMY := Lib.hid fun U (hU : Below wc.heap.size wc U) => may_any cont_all (hNI.on hU) (by omega) fun x hx => (HT.out.all x hx).1
        rw [HT.out.may] at HMY
        rw [pack_err, HT.out.may] at HPK
        obtain ⟨S, hS⟩ : ∃ S, (packL l).1 = S := ⟨_, rfl⟩
        rw [hS] at HPK
        have HAB := Lib.hid fun U (hU : Below wc.heap.size wc U) => (HAW.out U).mono fun (e : Ending) w' (q : e = .returned (.bool true) ∧ Below U.heap.size U w') => (⟨q.1, hU.trans (q.2.mono hU.size)⟩ : e = .returned (.bool true) ∧ Below wc.heap.size wc w')
        have HER := Lib.hid err_any
        clear hNI hS hr1 hw0 hq1 HT HR
        cases good with
        | true =>
          rw [if_pos rfl] at HPK
          go_wp2_with fail
          refine HPK.out.mono ?_
          rintro _ V1 ⟨rfl, hb⟩
          have HB1 := Lib.hid hb
          clear hb HPK
          go_wp2_with fail
          refine (HMY.out _ HB1.out).mono ?_
          rintro _ V2 ⟨rfl, hb⟩
          have HB2 := Lib.hid (HB1.out.trans (hb.mono HB1.out.size))
          clear hb HMY
          go_wp2_with fail
          refine (HER.out _ _).mono ?_
          rintro _ _ ⟨rfl, rfl⟩
          go_wp2_with fail
          refine (HAB.out _ HB2.out).mono ?_
          rintro _ V4 ⟨rfl, hb⟩
          have HB4 := Lib.hid (HB.out.trans (hb.mono HB.out.size))
          clear hb HAB
          go_wp2_with fail
          exact bodyPost_ret (v := .bool true) (by simp [results, Try.results7, go_sem]) rfl ⟨rfl, HB4.out⟩
        | false =>
          rw [if_neg (by simp)] at HPK
          go_wp2_with fail
          refine HPK.out.mono ?_
          rintro _ V1 ⟨rfl, hb⟩
          have HB1 := Lib.hid hb
          clear hb HPK
          go_wp2_with fail
          refine (HMY.out _ HB1.out).mono ?_
          rintro _ V2 ⟨rfl, hb⟩
          have HB2 := Lib.hid (HB1.out.trans (hb.mono HB1.out.size))
          clear hb HMY
          go_wp2_with fail
          refine (HER.out _ _).mono ?_
          rintro _ _ ⟨rfl, rfl⟩
          go_wp2_with fail
          refine (HAB.out _ HB2.out).mono ?_
          rintro _ V4 ⟨rfl, hb⟩
          have HB4 := Lib.hid (HB.out.trans (hb.mono HB.out.size))
          clear hb HAB
          go_wp2_with fail
          exact bodyPost_ret (v := .bool true) (by simp [results, Try.results7, go_sem]) rfl ⟨rfl, HB4.out⟩
theorem narLimits_row (a b : Nat) (W : World) (ha : a < 256) (hb : b < 256) : Ret Try.prog 7 #[.int .u8 a, .int .u8 b] W (.bool true) := .of (narLimits_any a b (by omega) (by omega) W)
end Go.Proofs.Ytmlefodnbbkilaa

/- Walks: a node is packed. -/
import Derived.Test.YtmlefodnbbkilaaPk4
namespace Go.Proofs.Ytmlefodnbbkilaa
open Go.RowKit Go.Shelf

attribute [local go_sem] Oper.semAt_some
/-- A put from a literal that was just laid. -/
theorem strs2 : (strsN [sOpen, sType]).length = 32 := by simp [strsN_cons, strsN_nil, strN_len]
theorem strs1 : (strsN [sShut]).length = 16 := by simp [strsN_cons, strsN_nil, strN_len]
theorem put_lit {B P : Nat} {v lv : Value} {s : Bs} {W : World} (l : List Bs) (h : PkAt B P v lv s W) (hl : s.length + (strsN l).length ≤ 100000000000000) (hl3 : (strsN l).length ≤ 1000000000) (hl2 : l.length ≤ 1000000) (lit : Array Value) (hlit : lit = (l.map strV).toArray) :
    Calls Try.prog 29 #[.pointer (some ⟨P, 0, none⟩), .slice (some ⟨W.heap.size, 0, none⟩) l.length l.length] (W.alloc (.cells lit 9)) fun e w' => e = .returned (.tuple #[]) ∧ ∃ v', PkAt B P v' lv (s ++ strsN l) w' ∧ PkTo P v v' W w' := by
  subst hlit
  have hb : Below W.heap.size W (W.alloc (.cells (l.map strV).toArray 9)) := (Below.refl _ W).alloc (Nat.le_refl _) _
  have hP := h.lt
  refine (put_any l W.heap.size l.length (h.on hb) (new_at W _) (by omega) (fun e => by have := (h.own _ e).2; omega) hl hl3 hl2).mono ?_
  rintro _ V ⟨rfl, v', h1, h2⟩
  exact ⟨rfl, v', h1, (PkTo.of_below hb).trans h2⟩
theorem pk_others {B P : Nat} {u u' lv : Value} {s s' : Bs} {W W' : World} (h : PkTo P u u' W W') (ha : PkAt B P u lv s W) (hb : PkAt B P u' lv s' W') : KeepsOthers W W' ∧ KpP B P W W' := by
  obtain ⟨p, hp, hc⟩ := ha.cells
  obtain ⟨p', hp', hc'⟩ := hb.cells
  have hbuf : ∀ k, u.ownBlock = some k → ∃ cur fz, W.heap[k]? = some (.cells cur 5 fz) := by
    intro k hk
    rcases ha.row.2 with ⟨rfl, _⟩ | ⟨g, cap, cur, fz, rfl, _, hg, _⟩
    · cases hk
    · cases hk
      exact ⟨cur, fz, hg⟩
  refine ⟨⟨h.size, fun k o hk ho => ?_⟩, ⟨(h.below ha).block, fun k cur e m he hk => ?_, fun p2 v2 lv2 h2 => ?_⟩⟩
  · refine (h.kept k (has_box hk) (fun e => ?_) fun e => ?_).trans hk
    · subst e
      rw [hc] at hk
      cases hk
      cases ho
    · obtain ⟨cur, fz, h3⟩ := hbuf k e
      rw [h3] at hk
      cases hk
      cases ho
  · refine (h.kept k (has_box hk) (fun e2 => ?_) fun e2 => ?_).trans hk
    · subst e2
      rw [hc] at hk
      injection hk with hk
      injection hk with _ h4 _
      rcases he with rfl | rfl | rfl <;> exact absurd h4 (by decide)
    · obtain ⟨cur, fz, h3⟩ := hbuf k e2
      rw [h3] at hk
      injection hk with hk
      injection hk with _ h4 _
      rcases he with rfl | rfl | rfl <;> exact absurd h4 (by decide)
  · rw [hc] at h2
    injection h2 with h2
    injection h2 with h3 _ _
    have : lv = lv2 := by
      have := congrArg (fun a : Array Value => a[2]?) h3
      simpa using this
    subst this
    exact ⟨p', u', hc'⟩
/-- A record of no cells turns: the packer stays. -/
theorem pk_turned {B P : Nat} {v u lv : Value} {s : Bs} {W0 W W' : World} {row : Option Nat} (ha : PkAt B P u lv s W) (h : PkTo P v u W0 W) (hg : W.grownBy W' row) (hr : ∀ r, row = some r → W0.heap.size ≤ r ∧ ∃ o : Obj, W.heap[r]? = some o ∧ o.isCells = false) :
    PkAt B P u lv s W' ∧ PkTo P v u W0 W' := by
  obtain ⟨p, hp, hc⟩ := ha.cells
  have key : ∀ k cur e m, W.heap[k]? = some (Obj.cells cur e m) → W'.heap[k]? = some (Obj.cells cur e m) := fun k cur e m hk => (hg.block k (has_box hk) fun e2 => by
    obtain ⟨_, o, ho, hcc⟩ := hr k e2.symm
    rw [hk] at ho
    cases ho
    cases hcc).trans hk
  refine ⟨⟨⟨p, hp, key _ _ _ _ hc⟩, ⟨ha.row.1, ?_⟩, ha.ne, ha.base⟩, ⟨hg.os.trans h.os, hg.tape.trans h.tape, hg.output.trans h.output, Nat.le_trans h.size hg.size, fun k h1 h2 h3 => ?_, h.own⟩⟩
  · rcases ha.row.2 with h0 | ⟨g, cap, cur, fz, rfl, h1, h2, h3⟩
    · exact .inl h0
    · exact .inr ⟨g, cap, cur, fz, rfl, h1, key _ _ _ _ h2, h3⟩
  · exact (hg.block k (Nat.lt_of_lt_of_le h1 h.size) fun e => by have := (hr k e.symm).1; omega).trans (h.kept k h1 h2 h3)
theorem below_stops {γ : Type} (L : List γ) (e2 : γ → Nat × Bs) (n : Nat) (hn : 1 ≤ n) (bt bi bh B P at_ : Nat) (head : Bs) (lv : Value) (l : List Nd) (w W0 : World) (hLE : L.map e2 = belowN head (at_ + 1) (l.drop (at_ + 1))) (hW0 : W0.heap.size = B)
    (hl : l.length ≤ 1000000) (hbt : w.heap[bt]? = some (.cells #[.pointer (some ⟨P, 0, none⟩)] 54)) (hbi : w.heap[bi]? = some (.cells #[.int .i64 (at_ : Int)] 3)) (hbh : w.heap[bh]? = some (.cells #[strV head] 9))
    (hP : ∃ p v, w.heap[P]? = some (.cells #[p, v, lv] 59 (0, 0))) (hNI : NIn W0 lv l) (hlow : ∀ k, k < B → w.heap[k]? = W0.heap[k]?) (hBw : B ≤ w.heap.size) (ha : at_ < l.length) :
    SeqStopsK Fence.wide n Try.prog 63 #[.pointer (some ⟨bi, 0, none⟩), .pointer (some ⟨bt, 0, none⟩), .pointer (some ⟨bh, 0, none⟩)] (fun x : {p : γ // p ∈ L} => encE (e2 x.1)) (KpP B P) (fun ys => ys.map Subtype.val = L) (fun _ => True) L.length w := by
  intro lp J Jx W hW hJ _ hY h0
  obtain ⟨p, v, hp⟩ := hP
  exact below_in L e2 n hn lp bt bi bh B P at_ head lv l J Jx W W0 hLE hJ hW0 hY hl (keeps_below hbt hW) (keeps_below hbi hW) (keeps_below hbh hW) ⟨p, v, keeps_below hp hW⟩ hNI (fun k hk => (hW.block k (by omega)).trans (hlow k hk)) ha h0
abbrev packE (e : Nat × Bs × Tr) : Bs := strsN [sEntry, sOpen, sName, e.2.1, sNode] ++ (packT e.2.2 ++ strN sShut)
theorem flat_le {γ : Type} (L : List γ) (f : γ → Bs) (T : Nat) (h : ∀ e ∈ L, (f e).length ≤ T) : (L.flatMap f).length ≤ L.length * T := by
  induction L with
  | nil => simp
  | cons a L ih =>
    rw [List.flatMap_cons, List.length_append, List.length_cons, Nat.succ_mul]
    have h1 := h a (by simp)
    have h2 := ih fun e he => h e (by simp [he])
    omega
set_option maxRecDepth 100000 in
set_option maxHeartbeats 4000000 in
theorem node_any (B : Nat) (N : Nat) : ∀ (t : Tr) (deep T P : Nat) (path s : Bs) (A C l : List Nd) (v lv : Value) (W W0 : World), sizeT t ≤ N → okT deep t → l = A ++ (nodesT path t ++ C) → Behind path C → NIn W0 lv l → W0.heap.size = B → Below B W0 W → PkAt B P v lv s W →
    (packT t).length ≤ T → T ≤ 1000000000 → s.length + (66 - deep) * (300 * T) ≤ 100000000000000 → deep ≤ 64 → l.length ≤ 300 → (∀ y ∈ l, y.1.length ≤ 1000000) →
    Calls Try.prog 30 #[.pointer (some ⟨P, 0, none⟩), .int .i64 (A.length : Int)] W fun e w' => e = .returned (.tuple #[]) ∧ ∃ v', PkAt B P v' lv (s ++ packT t) w' ∧ PkTo P v v' W w' := by
  induction N with
  | zero => intro t _ _ _ _ _ _ _ _ _ _ _ _ h; cases t <;> simp [sizeT] at h
  | succ N ih =>
    intro t deep T P path s A C l v lv W W0 hN ok hl hC hNI hB hbel hPk hT hT2 hs hdeep hl3 hpath
    obtain ⟨k, d, r, et⟩ := nodesT_head t path
    have hx : l[A.length]? = some (path, k, d) := by rw [hl, et]; simp
    have hAl : A.length < l.length := (List.getElem?_eq_some_iff.1 hx).1
    have hmin : 48 ≤ (packT t).length := by
      cases t <;> simp only [packT, strsN_cons, strsN_nil, List.length_append, strN_len] <;> simp <;> omega
    have hTs : s.length + 600 * T ≤ 100000000000000 := by
      have : 2 * (300 * T) ≤ (66 - deep) * (300 * T) := Nat.mul_le_mul_right _ (by omega)
      omega
    obtain ⟨LA, Lc, rfl⟩ := hNI.form
    obtain ⟨g, off, rfl, g1, g2, g3, g4⟩ := nin_at (hNI.on (by rw [hB]; exact hbel)) A.length _ hx
    obtain ⟨p0, hp0, hcell⟩ := hPk.cells
    obtain ⟨-, -, c3⟩ := cells3 hcell
    have q4 : has W P := has_box hcell
    have hd : decide ((A.length : Int) < (l.length : Int)) = true := by
      have := (List.getElem?_eq_some_iff.1 hx).1
      simp
      omega
    dsimp only at g2 g3 g4
    have hH : (packT t).length ≤ T := hT
    -- what the call lays first
    obtain ⟨V, hV⟩ : ∃ V, (W.alloc (.cells #[.pointer (some ⟨P, 0, none⟩)] 54)).alloc (.cells #[strV path, .int .i64 k, strV d] 37) = V := ⟨_, rfl⟩
    have hVb : Below W.heap.size W V := by rw [← hV]; exact ((Below.refl _ W).alloc (Nat.le_refl _) _).alloc (by simp) _
    have hsz : V.heap.size = W.heap.size + 1 + 1 := by rw [← hV]; simp
    have b1 : V.heap[W.heap.size]? = some (.cells #[.pointer (some ⟨P, 0, none⟩)] 54) := by
      rw [← hV]
      exact (Below.heap_alloc _ _ _ (by simp)).trans (new_at W _)
    have b2 : V.heap[W.heap.size + 1]? = some (.cells #[strV path, .int .i64 k, strV d] 37) := by
      rw [← hV]
      have := new_at (W.alloc (.cells #[.pointer (some ⟨P, 0, none⟩)] 54)) (.cells #[strV path, .int .i64 k, strV d] 37)
      simpa using this
    have HBX := Lib.hid (And.intro b1 b2)
    have hPV := hPk.on hVb
    have HPUT := Lib.hid (put_lit [sOpen, sType] hPV (by rw [strs2]; omega) (by rw [strs2]; omega) (by simp) #[strV sOpen, strV sType] rfl)
    have v1 : V.cell? ⟨W.heap.size, 0, none⟩ = some (.pointer (some ⟨P, 0, none⟩)) := by simp [World.cell?, b1]
    have hTO : PkTo P v v W V := PkTo.of_below hVb
    have HTO := Lib.hid hTO
    have HPK := Lib.hid hPk
    have HNI := Lib.hid hNI
    have HBE := Lib.hid hbel
    have HSZ := Lib.hid hsz
    have HL := Lib.hid hl
    have HET := Lib.hid et
    have HX := Lib.hid hx
    clear b1 b2 hPV hPk hNI hbel hcell hp0 hsz hl et hx hTO hVb
    refine (callsIn_wide (n := 6)).1 ?_
    refine callsIn_of_wp_marks Try.func30 rfl trivial ?_ rfl
    simp only [Try.ntmps30, List.size_toArray, List.length_cons, List.length_nil, Nat.reduceAdd, Nat.reduceSub, Array.replicate_succ, Array.replicate_zero, List.push_toArray, List.append_toArray, List.nil_append, List.cons_append]
    gi_wp2
    refine ⟨trivial, ?_⟩
    refine (callsIn_wide.2 HPUT.out).mono ?_
    rintro _ V1 ⟨rfl, u1, hP1, hT1⟩
    have hk1 := hT1.keep HBX.out.1 (fun e => by have := HPK.out.lt; omega) (fun e => by have := (HPK.out.own _ e).2; omega)
    have hk2 := hT1.keep HBX.out.2 (fun e => by have := HPK.out.lt; omega) (fun e => by have := (HPK.out.own _ e).2; omega)
    have HK1 := Lib.hid hk1
    have HK2 := Lib.hid hk2
    have HP1 := Lib.hid hP1
    have HT1 := Lib.hid (HTO.out.trans hT1)
    have v1 : V1.cell? ⟨W.heap.size, 0, none⟩ = some (.pointer (some ⟨P, 0, none⟩)) := by simp [World.cell?, hk1.1]
    obtain ⟨-, y2, y3⟩ := cells3 hk2.1
    clear hk1 hk2 hP1 hT1 HPUT HBX HTO c3 q4 g1 g2 g3 g4 hd
    cases t with
    | file d0 =>
      have he := HET.out
      simp only [nodesT, List.cons.injEq, Prod.mk.injEq] at he
      obtain ⟨⟨-, rfl, rfl⟩, -⟩ := he
      have hpt : packT (.file d0) = strsN [sOpen, sType] ++ (strsN [sRegular, sContents, d0] ++ strsN [sShut]) := by simp [packT, strsN]
      have hln : (strsN [sRegular, sContents, d0]).length + 48 = (packT (.file d0)).length := by rw [hpt]; simp only [List.length_append, strs2, strs1]; omega
      have HPUT := Lib.hid (put_lit [sRegular, sContents, d0] HP1.out (by rw [List.length_append, strs2]; omega) (by omega) (by simp) #[strV sRegular, strV sContents, strV d0] rfl)
      have HPT := Lib.hid hpt
      clear hpt
      gi_wp2
      refine ⟨trivial, ?_⟩
      refine (callsIn_wide.2 HPUT.out).mono ?_
      rintro _ V2 ⟨rfl, u2, hP2, hT2⟩
      have hk3 := hT2.keep HK1.out.1 (fun e => by have := HPK.out.lt; omega) HK1.out.2
      have v2 : V2.cell? ⟨W.heap.size, 0, none⟩ = some (.pointer (some ⟨P, 0, none⟩)) := by simp [World.cell?, hk3.1]
      have HPUT2 := Lib.hid (put_lit [sShut] hP2 (by simp only [List.length_append, strs2, strs1]; omega) (by rw [strs1]; omega) (by simp) #[strV sShut] rfl)
      have HF := Lib.hid (HT1.out.trans hT2)
      clear hP2 hT2 hk3 HPUT HP1 HT1 HK1 HK2 v1 y2 y3
      gi_wp2
      refine ⟨trivial, ?_⟩
      refine (callsIn_wide.2 HPUT2.out).mono ?_
      rintro _ V3 ⟨rfl, u3, hP3, hT3⟩
      have HR : Hid (∃ v', PkAt B P v' (.slice (some ⟨g, off, none⟩) l.length Lc) (s ++ packT (.file d0)) V3 ∧ PkTo P v v' W V3) := Lib.hid ⟨u3, by rw [HPT.out]; simpa only [List.append_assoc] using hP3, HF.out.trans hT3⟩
      clear hP3 hT3 HPUT2
      gi_wp2
      exact ⟨.tuple #[], results_none rfl _ _ _, rfl, HR.out⟩
    | exec d0 =>
      have he := HET.out
      simp only [nodesT, List.cons.injEq, Prod.mk.injEq] at he
      obtain ⟨⟨-, rfl, rfl⟩, -⟩ := he
      have hpt : packT (.exec d0) = strsN [sOpen, sType] ++ (strsN [sRegular, sExecutable, [], sContents, d0] ++ strsN [sShut]) := by simp [packT, strsN]
      have hln : (strsN [sRegular, sExecutable, [], sContents, d0]).length + 48 = (packT (.exec d0)).length := by rw [hpt]; simp only [List.length_append, strs2, strs1]; omega
      have HPUT := Lib.hid (put_lit [sRegular, sExecutable, [], sContents, d0] HP1.out (by rw [List.length_append, strs2]; omega) (by omega) (by simp) #[strV sRegular, strV sExecutable, strV [], strV sContents, strV d0] rfl)
      have HPT := Lib.hid hpt
      clear hpt
      gi_wp2
      refine ⟨trivial, ?_⟩
      refine (callsIn_wide.2 HPUT.out).mono ?_
      rintro _ V2 ⟨rfl, u2, hP2, hT2⟩
      have hk3 := hT2.keep HK1.out.1 (fun e => by have := HPK.out.lt; omega) HK1.out.2
      have v2 : V2.cell? ⟨W.heap.size, 0, none⟩ = some (.pointer (some ⟨P, 0, none⟩)) := by simp [World.cell?, hk3.1]
      have HPUT2 := Lib.hid (put_lit [sShut] hP2 (by simp only [List.length_append, strs2, strs1]; omega) (by rw [strs1]; omega) (by simp) #[strV sShut] rfl)
      have HF := Lib.hid (HT1.out.trans hT2)
      clear hP2 hT2 hk3 HPUT HP1 HT1 HK1 HK2 v1 y2 y3
      gi_wp2
      refine ⟨trivial, ?_⟩
      refine (callsIn_wide.2 HPUT2.out).mono ?_
      rintro _ V3 ⟨rfl, u3, hP3, hT3⟩
      have HR : Hid (∃ v', PkAt B P v' (.slice (some ⟨g, off, none⟩) l.length Lc) (s ++ packT (.exec d0)) V3 ∧ PkTo P v v' W V3) := Lib.hid ⟨u3, by rw [HPT.out]; simpa only [List.append_assoc] using hP3, HF.out.trans hT3⟩
      clear hP3 hT3 HPUT2
      gi_wp2
      exact ⟨.tuple #[], results_none rfl _ _ _, rfl, HR.out⟩
    | link d0 =>
      have he := HET.out
      simp only [nodesT, List.cons.injEq, Prod.mk.injEq] at he
      obtain ⟨⟨-, rfl, rfl⟩, -⟩ := he
      have hpt : packT (.link d0) = strsN [sOpen, sType] ++ (strsN [sSymlink, sTarget, d0] ++ strsN [sShut]) := by simp [packT, strsN]
      have hln : (strsN [sSymlink, sTarget, d0]).length + 48 = (packT (.link d0)).length := by rw [hpt]; simp only [List.length_append, strs2, strs1]; omega
      have HPUT := Lib.hid (put_lit [sSymlink, sTarget, d0] HP1.out (by rw [List.length_append, strs2]; omega) (by omega) (by simp) #[strV sSymlink, strV sTarget, strV d0] rfl)
      have HPT := Lib.hid hpt
      clear hpt
      gi_wp2
      refine ⟨trivial, ?_⟩
      refine (callsIn_wide.2 HPUT.out).mono ?_
      rintro _ V2 ⟨rfl, u2, hP2, hT2⟩
      have hk3 := hT2.keep HK1.out.1 (fun e => by have := HPK.out.lt; omega) HK1.out.2
      have v2 : V2.cell? ⟨W.heap.size, 0, none⟩ = some (.pointer (some ⟨P, 0, none⟩)) := by simp [World.cell?, hk3.1]
      have HPUT2 := Lib.hid (put_lit [sShut] hP2 (by simp only [List.length_append, strs2, strs1]; omega) (by rw [strs1]; omega) (by simp) #[strV sShut] rfl)
      have HF := Lib.hid (HT1.out.trans hT2)
      clear hP2 hT2 hk3 HPUT HP1 HT1 HK1 HK2 v1 y2 y3
      gi_wp2
      refine ⟨trivial, ?_⟩
      refine (callsIn_wide.2 HPUT2.out).mono ?_
      rintro _ V3 ⟨rfl, u3, hP3, hT3⟩
      have HR : Hid (∃ v', PkAt B P v' (.slice (some ⟨g, off, none⟩) l.length Lc) (s ++ packT (.link d0)) V3 ∧ PkTo P v v' W V3) := Lib.hid ⟨u3, by rw [HPT.out]; simpa only [List.append_assoc] using hP3, HF.out.trans hT3⟩
      clear hP3 hT3 HPUT2
      gi_wp2
      exact ⟨.tuple #[], results_none rfl _ _ _, rfl, HR.out⟩
    | dir f =>
      have he := HET.out
      simp only [nodesT, List.cons.injEq, Prod.mk.injEq] at he
      obtain ⟨⟨-, rfl, rfl⟩, -⟩ := he
      have hpt : packT (.dir f) = strsN [sOpen, sType] ++ (strsN [sDirectory] ++ (packF f ++ strsN [sShut])) := by simp [packT, strsN]
      have hsd : (strsN [sDirectory]).length = 24 := by simp [strsN_cons, strsN_nil, strN_len]
      have hln : (packF f).length + 72 = (packT (.dir f)).length := by rw [hpt]; simp only [List.length_append, strs2, strs1, hsd]; omega
      have HPUT := Lib.hid (put_lit [sDirectory] HP1.out (by rw [List.length_append, strs2, hsd]; omega) (by omega) (by simp) #[strV sDirectory] rfl)
      have HPT := Lib.hid hpt
      clear hpt
      gi_wp2
      refine ⟨trivial, ?_⟩
      refine (callsIn_wide.2 HPUT.out).mono ?_
      rintro _ V2 ⟨rfl, u2, hP2, hT2⟩
      have hk3 := hT2.keep HK1.out.1 (fun e => by have := HPK.out.lt; omega) HK1.out.2
      have v2 : V2.cell? ⟨W.heap.size, 0, none⟩ = some (.pointer (some ⟨P, 0, none⟩)) := by simp [World.cell?, hk3.1]
      have hF := HT1.out.trans hT2
      obtain ⟨p2, hp2, hc2⟩ := hP2.cells
      have hbe2 := HBE.out.trans (hF.below HPK.out)
      have HB49 := Lib.hid (below_any (at_ := A.length) hc2 (HNI.out.on (by rw [hB]; exact hbe2)) HX.out (hpath _ (List.mem_of_getElem? HX.out)) (by omega))
      have HF := Lib.hid hF
      have HP2 := Lib.hid hP2
      have HK3 := Lib.hid hk3
      have HBE2 := Lib.hid hbe2
      clear hP2 hT2 hk3 HPUT HP1 HT1 HK1 HK2 v1 y2 y3 hF hbe2 hc2 hp2
      gi_wp2
      refine ⟨trivial, ?_⟩
      refine (callsIn_wide.2 HB49.out).mono ?_
      rintro _ V3 ⟨bi, bt, bh, rfl, hb3, n1, n2, n3⟩
      clear HB49 v2
      have hP3 := HP2.out.on hb3
      have hF3 := HF.out.trans (PkTo.of_below hb3)
      have hbx3 := keeps_below HK3.out.1 hb3
      have okf : okF deep [] f := by simpa only [okT] using ok
      have hcp : Behind path C := hC
      have hl' : l = A ++ ((path, 4, []) :: (nodesF path f ++ C)) := by rw [HL.out]; simp [nodesT]
      have hLE : (entriesF (A.length + 1) f).map ent2 = belowN (headN path) (A.length + 1) (l.drop (A.length + 1)) := by
        rw [below_entries f deep [] path C (A.length + 1) okf hcp, hl']
        simp
      have hent : ∀ e ∈ entriesF (A.length + 1) f, ∃ A' C', l = A' ++ (nodesT (joinP path e.2.1) e.2.2 ++ C') ∧ A'.length = e.1 ∧ Behind (joinP path e.2.1) C' ∧ okT (deep + 1) e.2.2 ∧ deep < 64 ∧ mayNameN e.2.1 = true ∧ sizeT e.2.2 ≤ sizeF f ∧ (packE e).length ≤ (packF f).length := by
        have := entry_at f deep [] path (A ++ [(path, 4, [])]) C okf hcp
        simp only [List.length_append, List.length_singleton] at this
        rw [hl']
        simpa using this
      have hne : (entriesF (A.length + 1) f).length ≤ 300 := by
        have h1 := entries_len f (A.length + 1)
        have h2 := size_F f path
        have h3 : l.length = A.length + 1 + (nodesF path f).length + C.length := by rw [hl']; simp; omega
        omega
      have HENT := Lib.hid hent
      obtain ⟨E, hE⟩ : ∃ E, entriesF (A.length + 1) f = E := ⟨_, rfl⟩
      rw [hE] at hLE HENT hne
      have hpe : packF f = E.flatMap packE := by rw [← hE]; exact packF_entries f (A.length + 1)
      have HPE := Lib.hid hpe
      have HST := Lib.hid (below_stops E ent2 5 (by omega) bt bi bh B P A.length (headN path) (.slice (some ⟨g, off, none⟩) l.length Lc) l V3 W0 hLE hB (by omega) n1 n2 n3 (by obtain ⟨p, _, h⟩ := hP3.cells; exact ⟨p, _, h⟩) HNI.out
        (fun k hk => (HBE2.out.trans (hb3.mono (by have := HP2.out.lt; have := HP2.out.base; omega))).block k hk) (by have := hP3.lt; have := hP3.base; omega) hAl)
      have HP3 := Lib.hid hP3
      have HF3 := Lib.hid hF3
      have HBX3 := Lib.hid hbx3
      have HB3 := Lib.hid hb3
      clear n1 n2 n3 hP3 hF3 hbx3 hb3 hLE hent hpe hl' hcp hE
      gi_wp2
      refine wpIn_rangeFunc_ownF rfl (by omega) (gf := 63) (lb := #[.pointer (some ⟨bi, 0, none⟩), .pointer (some ⟨bt, 0, none⟩), .pointer (some ⟨bh, 0, none⟩)]) rfl trivial (enters_of Try.func63 (by kernel_rfl) rfl)
        HST.out kpP_t (fun W l o o' hl ho hc _ => kpP_b W l o o' (by have := HP3.out.lt; have := HP3.out.base; omega) ho hc) (Below.refl _ V3) (fun _ => rfl)
        (fun pre W' => ∃ u, PkAt B P u (.slice (some ⟨g, off, none⟩) l.length Lc) (s ++ strsN [sOpen, sType] ++ strsN [sDirectory] ++ (pre.map Subtype.val).flatMap packE) W' ∧ PkTo P v u W W' ∧ W'.heap[W.heap.size]? = some (.cells #[.pointer (some ⟨P, 0, none⟩)] 54) ∧ u.ownBlock ≠ some W.heap.size)
        (fun _ _ _ => False)
        (fun pre X Y row hs hg hr => by
          obtain ⟨u, h1, h2, h3, h4⟩ := hs
          have hr2 : ∀ r, row = some r → W.heap.size ≤ r ∧ ∃ o : Obj, X.heap[r]? = some o ∧ o.isCells = false := fun r e => ⟨Nat.le_trans HF3.out.size (hr r e).1, (hr r e).2⟩
          obtain ⟨k1, k2⟩ := pk_turned h1 h2 hg hr2
          refine ⟨u, k1, k2, (hg.block _ (has_box h3) fun e => ?_).trans h3, h4⟩
          obtain ⟨_, o, ho, hcc⟩ := hr _ e.symm
          rw [h3] at ho
          cases ho
          cases hcc)
        (fun _ _ _ _ _ hs _ _ => hs)
        ⟨u2, by simpa using HP3.out, HF3.out, HBX3.out, HK3.out.2⟩
        ?a1 ?assign ?body ?done ?stop
      case assign =>
        intro l2 x V4 K hK
        gi_wp2
        exact hK
      case body =>
        rintro l2 pre ⟨⟨i, nm, t2⟩, he⟩ V4 ⟨u, hP4, hF4, hx4, hn4⟩ hlen
        obtain ⟨A', C', m1, m2, m3, m4, m5, m6, m7, m8⟩ := HENT.out _ he
        dsimp only at m1 m2 m3 m4 m6 m7 m8 ⊢
        subst m2
        have hX : ((pre.map Subtype.val).flatMap packE).length ≤ 299 * (packF f).length := by
          have h1 := flat_le (pre.map Subtype.val) packE (packF f).length (fun e he => by
            obtain ⟨y, _, rfl⟩ := List.mem_map.1 he
            obtain ⟨_, _, _, _, _, _, _, _, _, h8⟩ := HENT.out y.1 y.2
            exact h8)
          rw [List.length_map] at h1
          have h2 : pre.length * (packF f).length ≤ 299 * (packF f).length := Nat.mul_le_mul_right _ (by omega)
          omega
        have hZ : (66 - deep) * (300 * T) = (66 - (deep + 1)) * (300 * T) + 300 * T := by
          rw [show 66 - deep = (66 - (deep + 1)) + 1 by omega, Nat.succ_mul]
        have hlE : (strsN [sEntry, sOpen, sName, nm, sNode]).length + (packT t2).length + 16 ≤ (packF f).length := by
          have := m8
          simp only [packE, List.length_append] at this
          have h1 := strN_len sShut
          simp only [List.length_cons, List.length_nil] at h1
          omega
        have hZ2 : s.length + 32 + 24 + 299 * (packF f).length + (packF f).length + (66 - (deep + 1)) * (300 * T) ≤ 100000000000000 := by omega
        have hs4 : (s ++ strsN [sOpen, sType] ++ strsN [sDirectory] ++ (pre.map Subtype.val).flatMap packE).length ≤ s.length + 32 + 24 + 299 * (packF f).length := by
          rw [List.length_append, List.length_append, List.length_append, strs2, hsd]
          omega
        obtain ⟨s4, hs4e⟩ : ∃ s4, s ++ strsN [sOpen, sType] ++ strsN [sDirectory] ++ (pre.map Subtype.val).flatMap packE = s4 := ⟨_, rfl⟩
        have HS4 := Lib.hid hs4e
        rw [hs4e] at hs4 hP4
        clear hs4e hX hZ
        have w4 : V4.cell? ⟨W.heap.size, 0, none⟩ = some (.pointer (some ⟨P, 0, none⟩)) := by simp [World.cell?, hx4]
        have hlB := hP4.lt
        have HPUT := Lib.hid (put_lit [sEntry, sOpen, sName, nm, sNode] hP4 (by omega) (by omega) (by simp) #[strV sEntry, strV sOpen, strV sName, strV nm, strV sNode] rfl)
        have HWP : Hid (W.heap.size ≠ P) := Lib.hid fun e => by have := HPK.out.lt; omega
        have HP4 := Lib.hid hP4
        have HF4 := Lib.hid hF4
        have HX4 := Lib.hid hx4
        have HN4 := Lib.hid hn4
        have HM1 := Lib.hid m1
        clear hP4 hF4 hx4 hn4 m1
        gi_wp2
        refine ⟨trivial, ?_⟩
        refine (CallsIn.inRound l2 (callsIn_wide.2 HPUT.out)).mono ?_
        rintro _ V5 ⟨rfl, u5, hP5, hT5⟩
        have hx5 := hT5.keep HX4.out HWP.out HN4.out
        have w5 : V5.cell? ⟨W.heap.size, 0, none⟩ = some (.pointer (some ⟨P, 0, none⟩)) := by simp [World.cell?, hx5.1]
        have HCH := Lib.hid (ih t2 (deep + 1) T P (joinP path nm) _ A' C' l u5 (.slice (some ⟨g, off, none⟩) l.length Lc) V5 W0 (by simp only [sizeT] at hN; omega) m4 HM1.out m3 HNI.out hB
          (HBE.out.trans ((HF4.out.trans hT5).below HPK.out)) hP5 (by omega) hT2 (by rw [List.length_append]; omega) (by omega) hl3 hpath)
        have HP5 := Lib.hid hP5
        have HT5 := Lib.hid hT5
        have HX5 := Lib.hid hx5
        clear hP5 hT5 hx5 w4 HPUT
        gi_wp2
        refine ⟨trivial, ?_⟩
        refine (CallsIn.inRound l2 (callsIn_wide.2 HCH.out)).mono ?_
        rintro _ V6 ⟨rfl, u6, hP6, hT6⟩
        have hx6 := hT6.keep HX5.out.1 HWP.out HX5.out.2
        have w6 : V6.cell? ⟨W.heap.size, 0, none⟩ = some (.pointer (some ⟨P, 0, none⟩)) := by simp [World.cell?, hx6.1]
        have HPUT := Lib.hid (put_lit [sShut] hP6 (by rw [List.length_append, List.length_append, strs1]; omega) (by rw [strs1]; omega) (by simp) #[strV sShut] rfl)
        have HT6 := Lib.hid (HT5.out.trans hT6)
        have HX6 := Lib.hid hx6
        clear hP6 hT6 hx6 w5 HCH
        gi_wp2
        refine ⟨trivial, ?_⟩
        refine (CallsIn.inRound l2 (callsIn_wide.2 HPUT.out)).mono ?_
        rintro _ V7 ⟨rfl, u7, hP7, hT7⟩
        have hT47 := HT6.out.trans hT7
        have hx7 := hT7.keep HX6.out.1 HWP.out HX6.out.2
        obtain ⟨o1, o2⟩ := pk_others hT47 HP4.out hP7
        have HR : Hid (KeepsOthers V4 V7 ∧ KpP B P V4 V7 ∧ ∃ u, PkAt B P u (.slice (some ⟨g, off, none⟩) l.length Lc) (s ++ strsN [sOpen, sType] ++ strsN [sDirectory] ++ ((pre ++ [(⟨(A'.length, nm, t2), he⟩ : {p : Nat × Bs × Tr // p ∈ E})]).map Subtype.val).flatMap packE) V7 ∧ PkTo P v u W V7 ∧ V7.heap[W.heap.size]? = some (.cells #[.pointer (some ⟨P, 0, none⟩)] 54) ∧ u.ownBlock ≠ some W.heap.size) :=
          Lib.hid ⟨o1, o2, u7, by
            have e : s ++ strsN [sOpen, sType] ++ strsN [sDirectory] ++ ((pre ++ [(⟨(A'.length, nm, t2), he⟩ : {p : Nat × Bs × Tr // p ∈ E})]).map Subtype.val).flatMap packE = s4 ++ strsN [sEntry, sOpen, sName, nm, sNode] ++ packT t2 ++ strsN [sShut] := by
              rw [← HS4.out]
              simp [packE, strsN]
            rw [e]
            exact hP7, HF4.out.trans hT47, hx7⟩
        clear hP7 hT7 hT47 hx7 o1 o2 w6 HPUT
        gi_wp2
        exact HR.out
      case done =>
        rintro D ys V4 hD hS ⟨u, hP4, hF4, hx4, hn4⟩ hK
        have hfl : (ys.map Subtype.val).flatMap packE = packF f := by rw [hS, HPE.out]
        rw [hfl] at hP4
        have w4 : V4.cell? ⟨W.heap.size, 0, none⟩ = some (.pointer (some ⟨P, 0, none⟩)) := by simp [World.cell?, hx4]
        have HPUT := Lib.hid (put_lit [sShut] hP4 (by rw [List.length_append, List.length_append, List.length_append, strs2, strs1, hsd]; omega) (by rw [strs1]; omega) (by simp) #[strV sShut] rfl)
        have HP4 := Lib.hid hP4
        have HF4 := Lib.hid hF4
        have HK := Lib.hid hK
        have HDW : Hid (W.heap.size ≤ D) := Lib.hid (Nat.le_trans HF3.out.size hD)
        clear hP4 hF4 hx4 hn4 hK hS hfl
        gi_wp2
        refine ⟨trivial, ?_⟩
        refine (callsIn_wide.2 HPUT.out).mono ?_
        rintro _ V5 ⟨rfl, u5, hP5, hT5⟩
        have hK5 := (pk_others hT5 HP4.out hP5).1.same D _ HK.out rfl
        have hfin := pk_turned hP5 (HF4.out.trans hT5) (grownBy_putObj' V5 D (.deferred none)) (fun r e => by cases e; exact ⟨HDW.out, _, hK5, rfl⟩)
        have HFIN : Hid (∃ v', PkAt B P v' (.slice (some ⟨g, off, none⟩) l.length Lc) (s ++ packT (.dir f)) (V5.putObj D (.deferred none)) ∧ PkTo P v v' W (V5.putObj D (.deferred none))) := Lib.hid ⟨u5, by rw [HPT.out]; simpa only [List.append_assoc] using hfin.1, hfin.2⟩
        have HK5 := Lib.hid hK5
        clear hP5 hT5 hfin hK5 w4 HPUT
        gi_wp2
        refine ⟨by simp, .inl ⟨_, _, rfl, run_takeDeferred HK5.out, ?_⟩⟩
        exact ⟨.tuple #[], results_none rfl _ _ _, rfl, HFIN.out⟩
      case stop =>
        rintro D c pre V4 _ _ h _
        exact h.elim
end Go.Proofs.Ytmlefodnbbkilaa

/- Walks: loose writes become firm. -/
import Derived.Test.YtojgfaichkcmpaaDisk2
namespace Go.Proofs.Ytojgfaichkcmpaa
open Go.RowKit

/-- Writes put into sectors, one by one. -/
def putAll (F : List (List UInt8)) (l : List (Nat × List UInt8)) : List (List UInt8) := l.foldl (fun F x => F.set x.1 x.2) F
theorem putAll_length (l : List (Nat × List UInt8)) : ∀ F : List (List UInt8), (putAll F l).length = F.length := by
  induction l with
  | nil => intro F; rfl
  | cons x l ih => intro F; exact (ih _).trans (by simp)
theorem putAll_snoc (F : List (List UInt8)) (l : List (Nat × List UInt8)) (x : Nat × List UInt8) : putAll F (l ++ [x]) = (putAll F l).set x.1 x.2 := by simp [putAll]
def DS.flush (S : DS) : DS × Int := if S.down = true then (S, 7) else ({ S with firm := putAll S.firm S.loose, loose := [] }, 0)
theorem loosV_get : ∀ (l : List (Nat × List UInt8)) (k : Nat), k < l.length → (loosV l)[k * 2]? = some (.int .i64 ((l.getD k (0, [])).1 : Int)) ∧ (loosV l)[k * 2 + 1]? = some (strV (l.getD k (0, [])).2)
  | x :: l, 0, _ => ⟨rfl, rfl⟩
  | x :: l, k + 1, h => by
    have ih := loosV_get l k (by simpa using h)
    have e : loosV (x :: l) = .int .i64 (x.1 : Int) :: strV x.2 :: loosV l := rfl
    rw [e, show (k + 1) * 2 = k * 2 + 1 + 1 by omega, List.getElem?_cons_succ, List.getElem?_cons_succ, show k * 2 + 1 + 1 + 1 = (k * 2 + 1) + 1 + 1 by omega, List.getElem?_cons_succ, List.getElem?_cons_succ, List.getD_cons_succ]
    exact ih
/-- A loose write's two cells. -/
theorem DiskAt.loose_at {W : World} {p f : Nat} {lv : Value} {S : DS} (h : DiskAt W p f lv S) (k : Nat) (hk : k < S.loose.length) :
    ∃ g c, lv = .slice (some ⟨g, 0, none⟩) S.loose.length c ∧ g < W.heap.size ∧ W.cell? ⟨g, k * 2, none⟩ = some (.int .i64 ((S.loose.getD k (0, [])).1 : Int)) ∧ W.cell? ⟨g, k * 2 + 1, none⟩ = some (strV (S.loose.getD k (0, [])).2) := by
  obtain ⟨h1, h2⟩ := loosV_get S.loose k hk
  have hrow := h.hl
  rcases h.hl.2 with ⟨hv, h0⟩ | ⟨g, cap, cur, hv, _, hg, _⟩
  · omega
  · refine ⟨g, cap, hv, (Array.getElem?_eq_some_iff.1 hg).1, ?_, ?_⟩
    · have := hrow.cells (g := g) (by rw [hv]; rfl) _ _ h1
      rwa [show (⟨g, 0, none⟩ : Addr).add (k * 2) = ⟨g, k * 2, none⟩ by unfold Addr.add; split <;> simp_all] at this
    · have := hrow.cells (g := g) (by rw [hv]; rfl) _ _ h2
      rwa [show (⟨g, 0, none⟩ : Addr).add (k * 2 + 1) = ⟨g, k * 2 + 1, none⟩ by unfold Addr.add; split <;> simp_all] at this
theorem DiskAt.kept {W W' : World} {p f : Nat} {lv : Value} {S : DS} (h : DiskAt W p f lv S) (hk : ∀ k, k < W.heap.size → W'.heap[k]? = W.heap[k]?) : DiskAt W' p f lv S :=
  ⟨(hk p h.lt.1).trans h.hp, (hk f h.lt.2).trans h.hf, ownsRow_same h.hl fun g hg => by
    obtain ⟨cur, h1⟩ := ownsRow_elem h.hl hg
    exact hk g (Array.getElem?_eq_some_iff.1 h1).1, h.hn, h.hm, h.hfu, h.hb, h.hs⟩
theorem DiskAt.below {W W' : World} {p f : Nat} {lv : Value} {S : DS} (h : DiskAt W p f lv S) (hb : Below W.heap.size W W') : DiskAt W' p f lv S := h.kept hb.block
theorem Changed.trans {A B C : World} {p f : Nat} {u v x : Value} (h : Changed A B p f u v) (k : Changed B C p f v x) : Changed A C p f u x :=
  ⟨k.os.trans h.os, k.tape.trans h.tape, k.output.trans h.output, Nat.le_trans h.size k.size, fun b hb h1 h2 h3 => by
    by_cases hv : v.ownBlock = some b
    · rcases h.own b hv with h4 | h4
      · exact absurd h4 h3
      · omega
    · exact (k.block b (Nat.lt_of_lt_of_le hb h.size) h1 h2 hv).trans (h.block b hb h1 h2 h3), fun b hb => by
    rcases k.own b hb with h4 | h4
    · exact h.own b h4
    · exact .inr (Nat.le_trans h.size h4)⟩
theorem Changed.below {A B C : World} {p f : Nat} {u v : Value} (h : Changed A B p f u v) (k : Below B.heap.size B C) : Changed A C p f u v :=
  h.trans ⟨k.os, k.tape, k.output, k.size, fun b hb _ _ _ => k.block b hb, fun _ hb => .inl hb⟩
/-- A sector put. -/
theorem DiskAt.put {W : World} {p f : Nat} {lv : Value} {S : DS} (h : DiskAt W p f lv S) (j : Nat) (s : List UInt8) (hs : s.length = 64) :
    DiskAt (W.setCell ⟨f, j, none⟩ (strV s)) p f lv { S with firm := S.firm.set j s } ∧ Changed W (W.setCell ⟨f, j, none⟩ (strV s)) p f lv lv := by
  refine ⟨⟨?_, ?_, ?_, ?_, h.hm, h.hfu, ?_, fun t ht => (List.mem_or_eq_of_mem_set ht).elim (h.hs.1 t) fun e => by rw [e]; exact hs, h.hs.2⟩, ⟨rfl, rfl, rfl, by rw [setCell_size]; omega, fun k _ _ hk _ => setCell_other W f j k _ hk, fun k hk => .inl hk⟩⟩
  · rw [setCell_other W f j p _ h.pf, h.hp, List.length_set]
  · rw [setCell_block h.hf, strsV_set]
  · exact ownsRow_same h.hl fun g hg => setCell_other W f j g _ (fun e => h.fl (e ▸ hg))
  · rw [List.length_set]; exact h.hn
  · intro x hx
    rw [List.length_set]
    exact h.hb x hx
theorem DiskAt.sector {W : World} {p f : Nat} {lv : Value} {S : DS} (h : DiskAt W p f lv S) (j : Nat) (hj : j < S.firm.length) :
    W.cell? ⟨f, j, none⟩ = some (strV (S.firm.getD j [])) ∧ W.frozen? ⟨f, j, none⟩ = false := by
  refine ⟨?_, by simp [World.frozen?, h.hf]⟩
  simp only [World.cell?, h.hf]
  exact strsV_get hj
/-- No loose writes any more. -/
theorem DiskAt.none {W : World} {p f : Nat} {lv : Value} {S : DS} (h : DiskAt W p f lv S) :
    DiskAt (W.setCell ⟨p, 1, none⟩ (.slice none 0 0)) p f (.slice none 0 0) { S with loose := [] } ∧ Changed W (W.setCell ⟨p, 1, none⟩ (.slice none 0 0)) p f lv (.slice none 0 0) := by
  refine ⟨⟨?_, ?_, World.ownsRow_nil _ 0 54 2, h.hn, by simp, h.hfu, by simp, h.hs.1, by simp⟩, ⟨rfl, rfl, rfl, by rw [setCell_size]; omega, fun k _ hk _ _ => setCell_other W p 1 k _ hk, fun k hk => by cases hk⟩⟩
  · rw [setCell_block h.hp]
    rfl
  · rw [setCell_other W p 1 f _ (Ne.symm h.pf), h.hf]
set_option maxRecDepth 100000 in
theorem flush_any {W : World} {p f : Nat} {lv : Value} {S : DS} (h : DiskAt W p f lv S) :
    Calls Try.prog 13 #[ptr p] W fun e w' => e = .returned (.int .i64 S.flush.2) ∧ ∃ lv', DiskAt w' p f lv' S.flush.1 ∧ Changed W w' p f lv lv' := by
  obtain ⟨c0, c1, c2, c3, hf⟩ := h.cells
  by_cases hd : S.down = true
  · have hw : S.flush = (S, 7) := by unfold DS.flush; rw [if_pos hd]
    rw [hw]
    rw [hd] at c2
    go_enter Try.func13, Try.ntmps13
    go_wp2_with fail
    exact bodyPost_ret (v := .int .i64 7) (by simp [results, Try.results13, go_sem]) rfl ⟨rfl, lv, h, Changed.refl _ _ _ _⟩
  · have hd' : S.down = false := by simpa using hd
    have hw : S.flush = ({ S with firm := putAll S.firm S.loose, loose := [] }, 0) := by unfold DS.flush; rw [if_neg hd]
    rw [hw]
    rw [hd'] at c2
    obtain ⟨A, z, hlv⟩ := h.form
    rw [hlv] at c1
    go_enter Try.func13, Try.ntmps13
    go_wp2_with fail
    have HW := Lib.hid h
    clear c0 c1 c2 c3 hf hw hd hd'
    go_loopw [18] (fun v wr => ∃ k : Nat, k ≤ S.loose.length ∧ v = .int .i64 k ∧ Hid (DiskAt wr p f lv { S with firm := putAll S.firm (S.loose.take k) }) ∧ Hid (Changed W wr p f lv lv)) (fun v _ => S.loose.length - (intOf v).toNat)
    case atStart => exact ⟨0, by omega, rfl, h, Changed.refl _ _ _ _⟩
    case round =>
      obtain ⟨k, hk, rfl, HD, HC⟩ := hrel
      by_cases hlt : k < S.loose.length
      · have hd : decide ((k : Int) < (S.loose.length : Int)) = true := by simp; omega
        obtain ⟨c0, c1, c2, c3, hf⟩ := HD.out.cells
        obtain ⟨g, z', hlv', hg, r1, r2⟩ := HD.out.loose_at k hlt
        simp only at hlv' r1 r2
        obtain ⟨x, hx⟩ : ∃ x, S.loose.getD k (0, []) = x := ⟨_, rfl⟩
        rw [hx] at r1 r2
        have hxb : x.1 < S.firm.length := by
          have := HD.out.hb x (by rw [← hx]; simp [hlt])
          simpa [putAll_length] using this
        have hx64 : x.2.length = 64 := HD.out.hs.2 x (by rw [← hx]; simp [hlt])
        have HX := Lib.hid (show putAll S.firm (S.loose.take (k + 1)) = (putAll S.firm (S.loose.take k)).set x.1 x.2 by
          rw [List.take_succ_eq_append_getElem hlt, putAll_snoc]
          have : S.loose[k] = x := by rw [← hx]; simp [hlt]
          rw [this])
        obtain ⟨s1, s2⟩ := HD.out.sector x.1 (by simpa [putAll_length] using hxb)
        simp only [putAll_length] at c0
        obtain ⟨rfl, -, rfl⟩ := by simpa only [Value.slice.injEq] using hlv.symm.trans hlv'
        have hpl := HD.out.lt.1
        have hfl := HD.out.lt.2
        have hne := HD.out.pf
        obtain ⟨a, b⟩ := x
        simp only at r1 r2 hxb s1 s2 HX
        generalize (putAll S.firm (List.take k S.loose)).getD a [] = old at s1
        have q1 : has wr p := hpl
        have q2 : has wr f := hfl
        have q3 : has wr g := hg
        clear hx hlv'
        go_wp2_with fail
        refine wp_region_plain 9 35 mixed (by kernel_rfl) (by kernel_rfl) rfl (fun _ _ _ _ _ h => h) ?_
        simp only [List.take_succ_cons, List.take_zero, List.drop_succ_cons, List.drop_zero]
        repeat (first | (refine wpHead_skip rfl ?_) | (refine wpHead_run rfl rfl (fun K hK => ?_); go_simp; first | (refine hK _ ?_; clear hK K) | (apply Exists.intro; refine ⟨fun _ => ?_, hK _ ?_⟩; (fail); clear hK K)))
        refine wpHead_nil ?_
        intro zz x1
        clear zz
        go_wp2_with fail
        go_roundw
        case rel =>
          have e1 : wrap64 ((k : Int) + 1) = ((k + 1 : Nat) : Int) := by have := h.hm; unfold wrap64; omega
          obtain ⟨dp, cp⟩ := HD.out.put a b hx64
          have hb : Below (wr.setCell ⟨f, a, none⟩ (strV b)).heap.size (wr.setCell ⟨f, a, none⟩ (strV b)) (plus ((wr.setCell ⟨f, a, none⟩ (strV b)).alloc (.cells #[.int .i64 (a : Int), .string ⟨b.toArray⟩] 54)) x1) := by repeat (first | exact Below.refl _ _ | refine Below.setCell ?_ (by first | (simp; done) | (simp; omega) | (simp [size_plus]; done) | (simp [size_plus]; omega)) _ | refine Below.alloc ?_ (by first | (simp; done) | (simp; omega) | (simp [size_plus]; done) | (simp [size_plus]; omega)) _ | refine Below.drew ?_ | refine Below.plus ?_ (by first | (simp; done) | (simp; omega) | (simp [size_plus]; done) | (simp [size_plus]; omega)) _)
          refine ⟨k + 1, by omega, by rw [e1], ?_, (HC.out.trans cp).below hb⟩
          have dq := dp.below hb
          simp only at dq
          rw [← HX.out] at dq
          exact dq
        case measure =>
          have e1 : wrap64 ((k : Int) + 1) = ((k + 1 : Nat) : Int) := by have := h.hm; unfold wrap64; omega
          rw [e1]
          simp only [intOf]
          omega
      · obtain rfl : k = S.loose.length := by omega
        obtain ⟨c0, c1, c2, c3, hf⟩ := HD.out.cells
        have hd : decide ((S.loose.length : Int) < (S.loose.length : Int)) = false := by simp
        go_wp2_with fail
        have HD' := HD.out
        rw [List.take_length] at HD'
        obtain ⟨dn, cn⟩ := HD'.none
        exact bodyPost_ret (v := .int .i64 0) (by simp [results, Try.results13, go_sem]) rfl ⟨rfl, _, dn, by rw [← hlv]; exact HC.out.trans cn⟩
end Go.Proofs.Ytojgfaichkcmpaa

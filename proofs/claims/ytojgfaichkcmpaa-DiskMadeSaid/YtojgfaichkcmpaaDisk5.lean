/- Walks: a disk is made. -/
import Derived.Test.YtojgfaichkcmpaaDisk4
import Derived.Laws.CopyRow
import Derived.Laws.MakeOwn
import Derived.Laws.IdiomCopy
namespace Go.Proofs.Ytojgfaichkcmpaa
open Go.RowKit

theorem setRow_new (V : World) (x : Ext) (cur cs : Array Value) (T : TypeId) : (plus (V.alloc (.cells cur T)) x).setRow V.heap.size cs = plus (V.alloc (.cells cs T)) x := by
  have e : ∀ (d : Array Value), (plus (V.alloc (.cells d T)) x).heap = V.heap.push (.cells d T) ++ x.blocks := fun d => rfl
  have hh : (V.heap.push (.cells cur T) ++ x.blocks).modify V.heap.size (fun | .cells _ elem frozen => .cells cs elem frozen | o => o) = V.heap.push (.cells cs T) ++ x.blocks := by
    apply Array.ext_getElem?
    intro i
    simp only [Array.getElem?_modify, Array.getElem?_append, Array.getElem?_push, Array.size_push]
    by_cases h1 : V.heap.size = i
    · subst h1
      simp
    · by_cases h2 : i < V.heap.size + 1
      · simp [h1, h2, Ne.symm h1]
      · simp [h1, h2]
  unfold World.setRow
  rw [e]
  exact congrArg (fun h => ({ plus (V.alloc (.cells cur T)) x with heap := h } : World)) hh
theorem info9 : (Try.prog.info? 9).map (fun i => (i.zero, i.size, i.bytes)) = some (some (.string ⟨#[]⟩), 1, 16) := by kernel_rfl
theorem size9 : (Try.prog.info? 9).map (·.size) = some 1 := by kernel_rfl
theorem info_9 : ∃ i, Try.prog.info? 9 = some i ∧ i.zero = some (.string ⟨#[]⟩) ∧ i.size = 1 ∧ i.bytes = 16 := by
  have h := info9
  cases hi : Try.prog.info? 9 with
  | none => rw [hi] at h; cases h
  | some i =>
    rw [hi] at h
    simp only [Option.map_some, Option.some.injEq, Prod.mk.injEq] at h
    exact ⟨i, rfl, h.1, h.2.1, h.2.2⟩
theorem copy_strs (V : World) (z : Ext) (F cs : List (List UInt8)) (o dl dc sb sl sc : Nat) (hn : cs.length = min sl dl) (hfit : o + cs.length ≤ F.length)
    (hsrc : ∀ j, j < cs.length → (plus (V.alloc (.cells (strsV F) 9)) z).cell? ⟨sb, j, none⟩ = some (strV (cs.getD j []))) :
    (Builtin.copy_ #[38, 38] 3 #[.slice (some ⟨V.heap.size, o, none⟩) dl dc, .slice (some ⟨sb, 0, none⟩) sl sc]).run Try.prog (plus (V.alloc (.cells (strsV F) 9)) z) =
      .ok (goInt cs.length) (plus (V.alloc (.cells (strsV (F.take o ++ cs ++ F.drop (o + cs.length))) 9)) z) := by
  rw [run_copy_row (P := Try.prog) _ 38 38 3 9 V.heap.size o dl dc ⟨sb, 0, none⟩ sl sc (strsV F) 9 (cs.map fun s => strV s) Try.underlying38 size9 ?_ (by rw [List.length_map]; exact hn) ?_ (by rw [List.length_map, strsV_size]; exact hfit) ?_]
  · rw [setRow_new, List.length_map]
    congr 3
    simp [strsV, List.map_take, List.map_drop]
  · rw [heap_plus z (by unfold has; simp)]
    exact new_at V _
  · intro j v hj
    rw [show (⟨sb, 0, none⟩ : Addr).add j = ⟨sb, j, none⟩ by unfold Addr.add; split <;> simp_all]
    have hlt : j < cs.length := by
      have := (List.getElem?_eq_some_iff.1 hj).1
      simpa using this
    rw [hsrc j hlt]
    simpa [hlt] using hj
  · intro v hv
    obtain ⟨s, _, rfl⟩ := List.mem_map.1 hv
    rfl
theorem make_strs (n : Nat) (hn : n ≤ 100000) (w : World) : (Instr.makeSlice 38 (.int .i64 (n : Int)) (.int .i64 (n : Int))).run Try.prog w = .ok (.slice (some ⟨w.heap.size, 0, none⟩) n n) (w.alloc (.cells (strsV (List.replicate n [])) 9)) := by
  obtain ⟨i, hi, hz, hs, hb⟩ := info_9
  have h := run_make (P := Try.prog) w 38 9 i (.string ⟨#[]⟩) Try.underlying38 hi hz .i64 .i64 n n (by omega) (by omega) (by rw [hb]; omega) (by omega)
  have hm : madeCells (Value.string ⟨#[]⟩).cells (n * 1) = strsV (List.replicate n []) := by
    apply Array.ext'
    rw [Nat.mul_one]
    show (madeCells #[.string ⟨#[]⟩] n).toList = _
    rw [toList_madeCells_one]
    simp [strsV]
  rw [hs, Int.toNat_natCast, hm] at h
  exact h
theorem plus_none (w : World) : plus w ⟨#[], w.drawn⟩ = w := by simp [plus]
def reps (s : List UInt8) (n k : Nat) : List (List UInt8) := List.replicate k s ++ List.replicate (n - k) []
theorem reps_step (s : List UInt8) (n k m : Nat) (hm : m = min k (n - k)) : (reps s n k).take k ++ (reps s n k).take m ++ (reps s n k).drop (k + m) = reps s n (k + m) := by
  have h1 : (reps s n k).take k = List.replicate k s := by simp [reps]
  have h2 : (reps s n k).take m = List.replicate m s := by
    unfold reps
    rw [List.take_append_of_le_length (by simp; omega), List.take_replicate, Nat.min_eq_left (by omega)]
  have h3 : (reps s n k).drop (k + m) = List.replicate (n - (k + m)) [] := by
    unfold reps
    rw [List.drop_append]
    simp
    omega
  rw [h1, h2, h3, reps, ← List.replicate_append_replicate]
theorem reps_cell (V : World) (z : Ext) (s : List UInt8) {n k j : Nat} (hj : j < n) (hk : k ≤ n) : (plus (V.alloc (.cells (strsV (reps s n k)) 9)) z).cell? ⟨V.heap.size, j, none⟩ = some (strV ((reps s n k).getD j [])) := by
  rw [cell?_plus (by unfold has; simp)]
  unfold World.cell?
  rw [new_at]
  exact strsV_get (by simp [reps]; omega)
set_option maxRecDepth 100000 in
theorem repeat_any (s : List UInt8) (n b0 : Nat) (W : World) (h1 : 1 ≤ n) (hn : n ≤ 100000) (hb0 : W.heap[b0]? = some (.cells #[strV s] 9)) :
    Calls Try.prog 23 #[.slice (some ⟨b0, 0, none⟩) 1 1, .int .i64 (n : Int)] W fun e w' => e = .returned (.slice (some ⟨W.heap.size, 0, none⟩) n n) ∧ ∃ x, w' = plus (W.alloc (.cells (strsV (List.replicate n s)) 9)) x := by
  have hlt : b0 < W.heap.size := (Array.getElem?_eq_some_iff.1 hb0).1
  have hmk := make_strs n hn W
  have hmul := Try.bits_Mul 1 n (by omega) (by omega) W
  rw [show 1 * n / 18446744073709551616 = 0 by omega, show 1 * n % 18446744073709551616 = n by omega] at hmul
  have hcp := copy_strs W ⟨#[], W.drawn⟩ (List.replicate n []) [s] 0 n n b0 1 1 (by simp; omega) (by simp; omega) (fun j hj => by
    have hj0 : j = 0 := by simpa using hj
    subst hj0
    rw [cell?_plus (by unfold has; simp; omega)]
    simp only [World.cell?, Below.heap_alloc W _ _ hlt, hb0]
    simp)
  rw [show plus (W.alloc (.cells (strsV (List.replicate n [])) 9)) ⟨#[], W.drawn⟩ = W.alloc (.cells (strsV (List.replicate n [])) 9) from plus_none _,
    show (List.replicate n ([] : List UInt8)).take 0 ++ [s] ++ (List.replicate n []).drop (0 + [s].length) = reps s n 1 by simp [reps]] at hcp
  go_enter Try.func23, Try.ntmps23
  go_wp2_with fail
  refine hmul.mono ?_
  rintro _ W2 ⟨rfl, hW2⟩
  rw [hW2]
  clear hW2 hmul
  go_wp2_with fail
  clear hcp hmk
  go_loopw [8] (fun v wr => ∃ k : Nat, 1 ≤ k ∧ k ≤ n ∧ v = .int .i64 k ∧ ∃ x : Ext, wr = plus (W.alloc (.cells (strsV (reps s n k)) 9)) x) (fun v _ => n - (intOf v).toNat)
  case atStart => exact ⟨1, by omega, by omega, rfl, _, rfl⟩
  case round =>
    obtain ⟨k, hk1, hk, rfl, x, rfl⟩ := hrel
    by_cases hlt2 : k < n
    · have hd : decide ((k : Int) < (n : Int)) = true := by simp; omega
      obtain ⟨m, hm⟩ : ∃ m, m = min k (n - k) := ⟨_, rfl⟩
      have hrl : (reps s n k).length = n := by simp [reps]; omega
      have hc : ∀ y, (Builtin.copy_ #[38, 38] 3 #[.slice (some ⟨W.heap.size, k, none⟩) (n - k) (n - k), .slice (some ⟨W.heap.size, 0, none⟩) k n]).run Try.prog (plus (plus (W.alloc (.cells (strsV (reps s n k)) 9)) x) y) =
          .ok (.int .i64 (m : Int)) (plus (W.alloc (.cells (strsV (reps s n (k + m))) 9)) ⟨x.blocks ++ y.blocks, y.draws⟩) := fun y => by
        have h := copy_strs W ⟨x.blocks ++ y.blocks, y.draws⟩ (reps s n k) ((reps s n k).take m) k (n - k) (n - k) W.heap.size k n (by rw [List.length_take, hrl]; omega) (by rw [List.length_take, hrl]; omega) (fun j hj => by
          rw [List.length_take, hrl] at hj
          have hjm : j < m := Nat.lt_of_lt_of_le hj (Nat.min_le_left _ _)
          rw [reps_cell W _ s (Nat.lt_of_lt_of_le hj (Nat.min_le_right _ _)) hk]
          rw [List.getD_eq_getElem?_getD, List.getD_eq_getElem?_getD, List.getElem?_take, if_pos hjm])
        rw [plus_plus, h, show ((reps s n k).take m).length = m by rw [List.length_take, hrl]; omega, reps_step s n k m hm]
        rfl
      have HM := Lib.hid hm
      clear hm
      go_wp2_with fail
      refine wp_region_plain 7 48 mixed (by kernel_rfl) (by kernel_rfl) rfl (fun _ _ _ _ _ h => h) ?_
      simp only [List.take_succ_cons, List.take_zero, List.drop_succ_cons, List.drop_zero]
      repeat (first | (refine wpHead_skip rfl ?_) | (refine wpHead_run rfl rfl (fun K hK => ?_); go_simp; first | (refine hK _ ?_; clear hK K) | (apply Exists.intro; refine ⟨fun _ => ?_, hK _ ?_⟩; (fail); clear hK K)))
      refine wpHead_nil ?_
      intro zz x1
      clear zz
      go_wp2_with fail
      go_roundw
      case rel =>
        have hm := HM.out
        exact ⟨k + m, by omega, by omega, by rw [show wrap64 ((k : Int) + (m : Int)) = ((k + m : Nat) : Int) by unfold wrap64; omega], _, rfl⟩
      case measure =>
        have hm := HM.out
        rw [show wrap64 ((k : Int) + (m : Int)) = ((k + m : Nat) : Int) by unfold wrap64; omega]
        simp only [intOf]
        omega
    · obtain rfl : k = n := by omega
      go_wp2_with fail
      have e : reps s k k = List.replicate k s := by simp [reps]
      rw [e]
      exact bodyPost_ret (v := .slice (some ⟨W.heap.size, 0, none⟩) k k) (by simp [results, Try.results23, go_sem]) rfl ⟨rfl, x, rfl⟩
def zeroS : List UInt8 := List.replicate 64 0
def DS.new (n : Nat) : DS := { firm := List.replicate n zeroS, loose := [], down := false, fuse := -1 }
set_option maxRecDepth 100000 in
theorem new_any (n : Nat) (W : World) (h1 : 32 ≤ n) (hn : n ≤ 4096) :
    Calls Try.prog 9 #[.int .i64 (n : Int)] W fun e w' => ∃ p f, e = .returned (.tuple #[ptr p, .int .i64 0]) ∧ W.heap.size ≤ p ∧ W.heap.size ≤ f ∧ DiskAt w' p f (.slice none 0 0) (DS.new n) ∧ Below W.heap.size W w' := by
  have hrep := fun W => Try.strings_Repeat ⟨#[0]⟩ 64 W (by omega) (by decide)
  rw [show (⟨(Lib.repeatL (⟨#[0]⟩ : ByteArray).data.toList 64).toArray⟩ : ByteArray) = ⟨zeroS.toArray⟩ by decide +kernel] at hrep
  have hd1 : decide ((n : Int) < 32) = false := by simp; omega
  have hd2 : decide ((4096 : Int) < (n : Int)) = false := by simp; omega
  go_enter Try.func9, Try.ntmps9
  go_wp2_with fail
  refine (hrep W).mono ?_
  rintro _ W1 ⟨rfl, hb1⟩
  go_wp2_with fail
  refine (repeat_any zeroS n W1.heap.size (W1.alloc (.cells #[strV zeroS] 9)) (by omega) (by omega) (new_at W1 _)).mono ?_
  rintro _ _ ⟨rfl, x, rfl⟩
  go_wp2_with fail
  have hb2 : Below W.heap.size W ((plus ((W1.alloc (.cells #[strV zeroS] 9)).alloc (.cells (strsV (List.replicate n zeroS)) 9)) x).alloc (.cells #[.slice (some ⟨W1.heap.size + 1, 0, none⟩) n n, .slice none 0 0, .bool false, .int .i64 (-1)] 51)) := by
    have hs := hb1.size
    refine hb1.trans ?_
    refine Below.mono (B := W1.heap.size) ?_ hs
    repeat (first | exact Below.refl _ _ | refine Below.setCell ?_ (by first | (simp; done) | (simp; omega) | (simp [size_plus]; done) | (simp [size_plus]; omega)) _ | refine Below.alloc ?_ (by first | (simp; done) | (simp; omega) | (simp [size_plus]; done) | (simp [size_plus]; omega)) _ | refine Below.drew ?_ | refine Below.plus ?_ (by first | (simp; done) | (simp; omega) | (simp [size_plus]; done) | (simp [size_plus]; omega)) _)
  refine bodyPost_ret (v := .tuple #[ptr (W1.heap.size + 1 + 1 + x.blocks.size), .int .i64 0]) (by simp [results, Try.results9, go_sem]) rfl ⟨_, W1.heap.size + 1, rfl, by have := hb1.size; omega, by have := hb1.size; omega, ⟨?_, ?_, World.ownsRow_nil _ 0 54 2, by simp [DS.new]; omega, by simp [DS.new], by simp [DS.new], by simp [DS.new], ?_⟩, hb2⟩
  · have h := new_at (plus ((W1.alloc (.cells #[strV zeroS] 9)).alloc (.cells (strsV (List.replicate n zeroS)) 9)) x) (.cells #[.slice (some ⟨W1.heap.size + 1, 0, none⟩) n n, .slice none 0 0, .bool false, .int .i64 (-1)] 51)
    rw [size_plus] at h
    simp only [World.size_alloc] at h
    rw [h]
    simp [DS.new]
  · rw [Below.heap_alloc _ _ _ (by rw [size_plus]; simp; omega), heap_plus x (by unfold has; simp)]
    have h := new_at (W1.alloc (.cells #[strV zeroS] 9)) (.cells (strsV (List.replicate n zeroS)) 9)
    simp only [World.size_alloc] at h
    exact h
  · refine ⟨fun s hs => ?_, by simp [DS.new]⟩
    rw [List.eq_of_mem_replicate hs]
    rfl
end Go.Proofs.Ytojgfaichkcmpaa

/- Walks: the laws' own small functions. -/
import Derived.Test.YtojgfaichkcmpaaDisk6
import Derived.Laws.MakeOwn
namespace Go.Proofs.Ytojgfaichkcmpaa
open Go.RowKit

theorem info8 : (Try.prog.info? 5).map (fun i => (i.zero, i.size, i.bytes)) = some (some (.int .u8 0), 1, 1) := by kernel_rfl
theorem info_8 : ∃ i, Try.prog.info? 5 = some i ∧ i.zero = some (.int .u8 0) ∧ i.size = 1 ∧ i.bytes = 1 := by
  have h := info8
  cases hi : Try.prog.info? 5 with
  | none => rw [hi] at h; cases h
  | some i =>
    rw [hi] at h
    simp only [Option.map_some, Option.some.injEq, Prod.mk.injEq] at h
    exact ⟨i, rfl, h.1, h.2.1, h.2.2⟩

theorem make_bytes (n : Nat) (hn : n ≤ 1000) (w : World) : (Instr.makeSlice 31 (.int .i64 (n : Int)) (.int .i64 (n : Int))).run Try.prog w = .ok (.slice (some ⟨w.heap.size, 0, none⟩) n n) (w.alloc (.cells (u8s (List.replicate n 0)).toArray 5)) := by
  obtain ⟨i, hi, hz, hs, hb⟩ := info_8
  have h := run_make (P := Try.prog) w 31 5 i (.int .u8 0) Try.underlying31 hi hz .i64 .i64 n n (by omega) (by omega) (by rw [hb]; omega) (by omega)
  have hm : madeCells (Value.int IntKind.u8 0).cells (n * 1) = (u8s (List.replicate n 0)).toArray := by
    apply Array.ext'
    rw [Nat.mul_one]
    show (madeCells #[.int .u8 0] n).toList = _
    rw [toList_madeCells_one]
    simp [u8s]
  rw [hs, Int.toNat_natCast, hm] at h
  exact h
theorem u8s_at (l : List UInt8) (j : Nat) (h : j < l.length) : ((u8s l).toArray)[j]? = some (.int .u8 ((l.getD j 0).toNat : Int)) := by
  simp [u8s, h]
theorem u8s_put (l : List UInt8) (j : Nat) (b : UInt8) : ((u8s l).toArray).setIfInBounds j (.int .u8 (b.toNat : Int)) = (u8s (l.set j b)).toArray := by
  simp [u8s]
theorem block_str (W : World) (b cap n : Nat) (l : List UInt8) (hn : n = l.length) {fr : Nat × Nat} (hb : W.heap[b]? = some (.cells (u8s l).toArray 5 fr)) :
    (convert 31 9 (.slice (some ⟨b, 0, none⟩) n cap)).run Try.prog W = .ok (strV l) W := by
  subst hn
  refine run_convert_bytes_back W 31 9 5 ⟨b, 0, none⟩ cap l Try.underlying31 Try.underlying5 Try.underlying9 fun j hj => ?_
  rw [addr_add]
  simp only [World.cell?, hb]
  have := u8s_at l j hj
  simp [hj] at this ⊢
  exact this

/-- A text as a sector. -/
def secN (s : List UInt8) : List UInt8 := s.take 64 ++ List.replicate (64 - s.length) 0
def secS (s : List UInt8) (k : Nat) : List UInt8 := s.take k ++ List.replicate (64 - k) 0
theorem secS_set (s : List UInt8) (k : Nat) (h1 : k < s.length) (h2 : k < 64) : (secS s k).set k (s.getD k 0) = secS s (k + 1) := by
  unfold secS
  rw [List.set_append_right _ _ (by simp; omega), List.take_succ_eq_append_getElem h1]
  have e : List.replicate (64 - k) (0 : UInt8) = 0 :: List.replicate (64 - (k + 1)) 0 := by
    rw [show 64 - k = (64 - (k + 1)) + 1 by omega]
    rfl
  have hg : s.getD k 0 = s[k] := by simp [h1]
  rw [e, show k - (s.take k).length = 0 by simp; omega, List.set_cons_zero, hg, List.append_assoc]
  rfl
theorem secS_length (s : List UInt8) (k : Nat) (h1 : k ≤ s.length) (h2 : k ≤ 64) : (secS s k).length = 64 := by
  simp [secS]
  omega
theorem secN_length (s : List UInt8) : (secN s).length = 64 := by
  simp [secN]
  omega
theorem secS_all (s : List UInt8) (k : Nat) (h : k = min s.length 64) : secS s k = secN s := by
  unfold secS secN
  by_cases hl : s.length ≤ 64
  · rw [h, Nat.min_eq_left hl, List.take_of_length_le (Nat.le_refl _), List.take_of_length_le hl]
  · rw [h, Nat.min_eq_right (by omega), show 64 - s.length = 0 by omega]
theorem err_any (n : Int) (w : World) : Calls Try.prog 10 #[.int .i64 n] w fun e w' => e = .returned (.int .i64 n) ∧ w' = w := by
  go_enter Try.func10, Try.ntmps10
  go_wp2_with fail
  exact bodyPost_ret (v := .int .i64 n) (by simp [results, Try.results10, go_sem]) rfl ⟨rfl, rfl⟩
set_option maxRecDepth 100000 in
theorem sector_any (l : List UInt8) (w : World) : Calls Try.prog 12 #[strV l] w fun e w' => e = .returned (strV (secN l)) ∧ Below w.heap.size w w' := by
  have hmk := make_bytes 64 (by omega) w
  rw [show ((64 : Nat) : Int) = 64 from rfl, show List.replicate 64 (0 : UInt8) = secS l 0 by simp [secS]] at hmk
  go_enter Try.func12, Try.ntmps12
  go_wp2_with fail
  clear hmk
  go_loopw [4] (fun v wr => ∃ k : Nat, k ≤ l.length ∧ k ≤ 64 ∧ v = .int .i64 k ∧ wr = w.alloc (.cells (u8s (secS l k)).toArray 5)) (fun v _ => 64 - (intOf v).toNat)
  case atStart => exact ⟨0, by omega, by omega, rfl, rfl⟩
  case round =>
    obtain ⟨k, hk, hk64, rfl, rfl⟩ := hrel
    by_cases h1 : k < l.length
    · have hd1 : decide ((k : Int) < (l.length : Int)) = true := by simp; omega
      by_cases h2 : k < 64
      · have hd2 : decide ((k : Int) < 64) = true := by simp; omega
        have hlen := secS_length l k hk hk64
        have hget := u8s_at (secS l k) k (by omega)
        obtain ⟨y, hy⟩ : ∃ y, (secS l k).getD k 0 = y := ⟨_, rfl⟩
        rw [hy] at hget
        have hput := u8s_put (secS l k) k (l.getD k 0)
        rw [secS_set l k h1 h2] at hput
        have hgb : l.getD k 0 = l[k] := by simp [h1]
        rw [hgb] at hput
        have hi64 : (k : Int) < 64 := by omega
        clear hy
        go_wp2_with fail
        go_roundw
        case rel =>
          have e : (u8s (secS l k)).set k (.int .u8 (l[k].toNat : Int)) = u8s (secS l (k + 1)) := by
            rw [← secS_set l k h1 h2, hgb]
            simp [u8s]
          exact ⟨k + 1, by omega, by omega, by go_num, congrArg (fun z => w.alloc (.cells (List.toArray z) 5)) e⟩
        case measure => simp [intOf]; omega
      · have hd2 : decide ((k : Int) < 64) = false := by simp; omega
        have hconv := block_str (w.alloc (.cells (u8s (secS l k)).toArray 5)) w.heap.size 64 64 (secS l k) (secS_length l k hk hk64).symm (fr := (0, 0)) (new_at w _)
        have HS := Lib.hid (secS_all l k (by omega))
        go_wp2_with fail
        refine bodyPost_ret (v := strV (secS l k)) (by simp [results, Try.results12, go_sem]) rfl ⟨by rw [HS.out], ?_⟩
        repeat (first | exact Below.refl _ _ | refine Below.setCell ?_ (by first | (simp; done) | (simp; omega) | (simp [size_plus]; done) | (simp [size_plus]; omega)) _ | refine Below.alloc ?_ (by first | (simp; done) | (simp; omega) | (simp [size_plus]; done) | (simp [size_plus]; omega)) _ | refine Below.drew ?_ | refine Below.plus ?_ (by first | (simp; done) | (simp; omega) | (simp [size_plus]; done) | (simp [size_plus]; omega)) _)
    · have hd1 : decide ((k : Int) < (l.length : Int)) = false := by simp; omega
      have hconv := block_str (w.alloc (.cells (u8s (secS l k)).toArray 5)) w.heap.size 64 64 (secS l k) (secS_length l k hk hk64).symm (fr := (0, 0)) (new_at w _)
      have HS := Lib.hid (secS_all l k (by omega))
      go_wp2_with fail
      refine bodyPost_ret (v := strV (secS l k)) (by simp [results, Try.results12, go_sem]) rfl ⟨by rw [HS.out], ?_⟩
      repeat (first | exact Below.refl _ _ | refine Below.setCell ?_ (by first | (simp; done) | (simp; omega) | (simp [size_plus]; done) | (simp [size_plus]; omega)) _ | refine Below.alloc ?_ (by first | (simp; done) | (simp; omega) | (simp [size_plus]; done) | (simp [size_plus]; omega)) _ | refine Below.drew ?_ | refine Below.plus ?_ (by first | (simp; done) | (simp; omega) | (simp [size_plus]; done) | (simp [size_plus]; omega)) _)
end Go.Proofs.Ytojgfaichkcmpaa

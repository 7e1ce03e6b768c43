/- Walks: bytes by sixteen letters. -/
import Derived.Test.YtalanaongfnndaaDoorChecked
import Derived.Test.YtalanaongfnndaaDoorRowB
namespace Go.Proofs.YtalanaongfnndaaDoor
open Go.RowKit

theorem mixed : Tryd.prog.follows .mixedOrders = true := by kernel_rfl
attribute [go_sem] cell?_plus frozen?_plus shape?_plus setCell_plus plus_drew drew_plus tape_plus size_plus has_alloc has_plus_iff has_setCell has_drew cell?_alloc_has frozen?_alloc_has setCell_alloc_has headOp headAt headUpon isAlloc

theorem info8 : (Tryd.prog.info? 5).map (fun i => (i.zero, i.size, i.bytes)) = some (some (.int .u8 0), 1, 1) := by kernel_rfl
theorem info_8 : ∃ i, Tryd.prog.info? 5 = some i ∧ i.zero = some (.int .u8 0) ∧ i.size = 1 ∧ i.bytes = 1 := by
  have h := info8
  cases hi : Tryd.prog.info? 5 with
  | none => rw [hi] at h; cases h
  | some i =>
    rw [hi] at h
    simp only [Option.map_some, Option.some.injEq, Prod.mk.injEq] at h
    exact ⟨i, rfl, h.1, h.2.1, h.2.2⟩

/-- A string's bytes in a new row: where they lie. -/
theorem conv_bytes (W : World) (l : List UInt8) (n : Nat) (hn : n = W.heap.size) : ∃ (X : Array Obj) (d c : Nat), (convert 9 22 (strV l)).run Tryd.prog W = .ok (.slice (some ⟨n, 0, none⟩) l.length c) (plus W ⟨X, d⟩) ∧ X.size = 1 ∧
    ∀ W' : World, W'.heap[n]? = (plus W ⟨X, d⟩).heap[n]? → ∀ j, j < l.length → W'.cell? ⟨n, j, none⟩ = some (.int .u8 ((l.getD j 0).toNat : Int)) := by
  subst hn
  have hb : Below W.heap.size W (Lib.bytesWorld W 5 ⟨l.toArray⟩) := ⟨rfl, rfl, rfl, by rw [Lib.bytesWorld_size]; omega, fun k hk => Lib.bytesWorld_at_old W 5 _ k hk⟩
  obtain ⟨x, hx⟩ := plus_of_below hb
  have hs : x.blocks.size = 1 := by
    have := Lib.bytesWorld_size W 5 ⟨l.toArray⟩
    rw [hx, size_plus] at this
    omega
  refine ⟨x.blocks, x.draws, grownCap W l.length 0 5, ?_, hs, fun W' hW j hj => ?_⟩
  · show _ = Result.ok _ (plus W x)
    rw [← hx]
    exact Lib.run_convert_string_bytes W 9 22 5 ⟨l.toArray⟩ Tryd.underlying9 Tryd.underlying22 Tryd.underlying5
  · have hc := Lib.bytesWorld_cell W 5 ⟨l.toArray⟩ j hj
    rw [hx] at hc
    unfold World.cell? at hc ⊢
    simp only [hW] at hc ⊢
    exact hc

def hexL : List UInt8 := [48, 49, 50, 51, 52, 53, 54, 55, 56, 57, 97, 98, 99, 100, 101, 102]
/-- Bytes by sixteen letters. -/
def hexN (l : List UInt8) : List UInt8 := l.flatMap fun c => [hexL.getD (c.toNat / 16) 0, hexL.getD (c.toNat % 16) 0]

theorem hexN_succ (l : List UInt8) (k : Nat) (h : k < l.length) : hexN (l.take (k + 1)) = hexN (l.take k) ++ [hexL.getD ((l.getD k 0).toNat / 16) 0, hexL.getD ((l.getD k 0).toNat % 16) 0] := by
  unfold hexN
  rw [List.take_succ_eq_append_getElem h, List.flatMap_append]
  simp [h]
theorem hexN_length (l : List UInt8) : (hexN l).length = 2 * l.length := by
  induction l with
  | nil => rfl
  | cons c l ih => simp [hexN] at ih ⊢; omega
theorem idx_hex (x : Nat) (hx : x < 16) (w : World) : (Instr.index 9 (.string ⟨#[48, 49, 50, 51, 52, 53, 54, 55, 56, 57, 97, 98, 99, 100, 101, 102]⟩) (.int .u8 (x : Int))).run Tryd.prog w = .ok (.int .u8 ((hexL.getD x 0).toNat : Int)) w :=
  idx_str 9 hexL .u8 x hx w Tryd.underlying9

set_option maxRecDepth 100000 in
theorem hex_any (l : List UInt8) (w : World) (hl : l.length ≤ 1000000) : Ret Tryd.prog 10 #[strV l] w (strV (hexN l)) := by
  refine Ret.of ?_
  go_enter Tryd.func10, Tryd.ntmps10
  go_wp2_with fail
  obtain ⟨X, d, c, hx, hs, hcell⟩ := conv_bytes w l w.heap.size rfl
  rw [hx]
  clear hx
  go_wp2_with fail
  have hsz : (plus w ⟨X, d⟩).heap.size = w.heap.size + 1 := by rw [size_plus]; simp [hs]
  obtain ⟨W1, hW1⟩ : ∃ W1, plus w ⟨X, d⟩ = W1 := ⟨_, rfl⟩
  have HB0 := Lib.hid (show Below w.heap.size w W1 from hW1 ▸ below_plus w _)
  rw [hW1] at hsz hcell ⊢
  have HC := Lib.hid hcell
  have HZ := Lib.hid hsz
  clear hcell hsz hs hW1
  go_loopw [3, 9] (fun v i wr => ∃ k : Nat, k ≤ l.length ∧ i = .int .i64 k ∧ Hid (rowB wr (w.heap.size + 1) 5 v (hexN (l.take k))) ∧ Hid (Below (w.heap.size + 1) W1 wr)) (fun _ i _ => l.length - (intOf i).toNat)
  case atStart => exact ⟨0, by omega, rfl, Lib.hid (rowB_nil _ _ _), Lib.hid (Below.refl _ _)⟩
  case round =>
    obtain ⟨k, hk, rfl, HR, HB⟩ := hrel
    by_cases hlt : k < l.length
    · have hd : decide ((k : Int) < (l.length : Int)) = true := by simp; omega
      have hcl := HC.out wr (HB.out.block _ (by omega)) k hlt
      obtain ⟨b, hbe⟩ : ∃ b, l.getD k 0 = b := ⟨_, rfl⟩
      rw [hbe] at hcl
      have HBE := Lib.hid hbe
      clear hbe
      have hb256 := b.toNat_lt
      obtain ⟨p, hp⟩ : ∃ p, hexL.getD (b.toNat / 16) 0 = p := ⟨_, rfl⟩
      obtain ⟨q, hq⟩ : ∃ q, hexL.getD (b.toNat % 16) 0 = q := ⟨_, rfl⟩
      have hi1 := fun W => idx_hex (b.toNat / 16) (by omega) W
      have hi2 := fun W => idx_hex (b.toNat % 16) (by omega) W
      rw [hp] at hi1
      rw [hq] at hi2
      rw [show ((b.toNat / 16 : Nat) : Int) = (b.toNat : Int) / 16 by omega] at hi1
      rw [show ((b.toNat % 16 : Nat) : Int) = (b.toNat : Int) % 16 by omega] at hi2
      have hand := u8_and15 (x := (b.toNat : Int)) (by omega) (by omega)
      have HN := Lib.hid (show hexN (l.take (k + 1)) = hexN (l.take k) ++ [p, q] by rw [hexN_succ l k hlt, HBE.out, hp, hq])
      clear hp hq
      go_wp2_with fail
      refine wp_region_plain 7 25 mixed (by kernel_rfl) (by kernel_rfl) rfl (fun _ _ _ _ _ h => h) ?_
      simp only [List.take_succ_cons, List.take_zero, List.drop_succ_cons, List.drop_zero]
      repeat (first | (refine wpHead_skip rfl ?_) | (refine wpHead_run rfl rfl (fun K hK => ?_); go_simp; first | (refine hK _ ?_; clear hK K) | (apply Exists.intro; refine ⟨fun _ => ?_, hK _ ?_⟩; (fail); clear hK K)))
      refine wpHead_nil ?_
      intro zz x
      clear zz
      have hR := rowB_plus HR.out x
      have hlen := hexN_length (l.take k)
      have hB : w.heap.size + 1 ≤ (plus wr x).heap.size := by rw [size_plus]; have := HB.out.size; have := HZ.out; omega
      have HR' := Lib.hid hR
      have HL := Lib.hid hlen
      have HBB := Lib.hid hB
      clear hR hlen hB
      go_wp2_with (at_builtin; refine wpList_appendB rfl _ _ 22 5 rfl Tryd.underlying22 info8 (w.heap.size + 1) u3 _ [p, q] rfl HR'.out _ 2 2 (by simp [size_plus]) rfl rfl (by have := HL.out; simp at this ⊢; omega) HBB.out ?_; intro v' w1 hrow1 hbel1; have HR1 := Lib.hid hrow1; have HB1 := Lib.hid hbel1; clear hrow1 hbel1)
      go_roundw
      case rel => exact ⟨k + 1, by omega, by go_num, Lib.hid (by rw [HN.out]; exact HR1.out), Lib.hid ((Below.plus HB.out (by have := HB.out.size; have := HZ.out; omega) x).trans HB1.out)⟩
      case measure => simp [intOf]; omega
    · obtain rfl : k = l.length := by omega
      rw [List.take_length] at HR
      have hconv := rowB_str (P := Tryd.prog) (src := 22) (dst := 9) Tryd.underlying22 Tryd.underlying5 Tryd.underlying9 HR.out
      go_wp2_with fail
      go_ret
      refine ⟨rfl, HB0.out.trans (HB.out.mono (by omega))⟩
end Go.Proofs.YtalanaongfnndaaDoor

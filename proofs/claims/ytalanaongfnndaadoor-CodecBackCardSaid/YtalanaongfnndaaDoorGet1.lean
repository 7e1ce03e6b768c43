/- Walks: letters' places, told one by one. -/
import Derived.Test.YtalanaongfnndaaDoorCod3
import Derived.RangeFuncNested
import Derived.RangeFuncBound
import Derived.RangeFuncCalls
import Derived.RangeFuncLeaves
import Derived.RangeFuncFrom
import Derived.Shelf.Abstract
import Derived.Shelf.RegionOpen
import Derived.OwnWalkIn
import Derived.TacticsInMore
import Derived.LoopNIn
import Derived.LoopIn
import Derived.Lib.Bytealg
namespace Go.Proofs.YtalanaongfnndaaDoor
open Go.RowKit Go.Shelf

attribute [local go_sem] Oper.semAt_some

/-- A string's bytes in a new row that bears a mark. -/
theorem conv_marked (W : World) (l : List UInt8) : ∃ (X : Array Obj) (d c : Nat) (cur : Array Value) (m : Nat × Nat), (convert 9 22 (strV l)).run Tryd.prog W = .ok (.slice (some ⟨W.heap.size, 0, none⟩) l.length c) (plus W ⟨X, d⟩) ∧ X.size = 1 ∧ m.2 ≠ 0 ∧
    (plus W ⟨X, d⟩).heap[W.heap.size]? = some (.cells cur 5 m) ∧ ∀ W' : World, W'.heap[W.heap.size]? = some (.cells cur 5 m) → ∀ j, j < l.length → W'.cell? ⟨W.heap.size, j, none⟩ = some (.int .u8 ((l.getD j 0).toNat : Int)) := by
  obtain ⟨X, d, c, h1, h2, h3⟩ := conv_bytes W l W.heap.size rfl
  have hr := Lib.run_convert_string_bytes (P := Tryd.prog) W 9 22 5 ⟨l.toArray⟩ Tryd.underlying9 Tryd.underlying22 Tryd.underlying5
  have he : plus W ⟨X, d⟩ = Lib.bytesWorld W 5 ⟨l.toArray⟩ := by
    have := h1.symm.trans hr
    injection this with _ h
  have hb := Lib.bytesWorld_at_new W 5 ⟨l.toArray⟩
  rw [← he] at hb
  exact ⟨X, d, c, _, _, h1, h2, by simp, hb, fun W' hW => h3 W' (hW.trans hb.symm)⟩

theorem ib19_run (s : ByteArray) (c : Int) (w : World) : (callFunc 42 #[.string s, .int .u8 c]).run Tryd.prog w = .ok (.value (.int .i64 (Lib.indexByte s.data.toList c.toNat.toUInt8))) w := by
  rw [run_callFunc_extern Tryd.func42 (by kernel_rfl) (by kernel_rfl) (by kernel_rfl) (e := Extern.BytealgIndexByte.indexByte) (by kernel_rfl), Lib.run_indexByteString]
  rfl
theorem ib18_any (s : ByteArray) (c : Int) (w : World) :
    Calls Tryd.prog 38 #[.string s, .int .u8 c] w fun e w' => e = .returned (.int .i64 (Lib.indexByte s.data.toList c.toNat.toUInt8)) ∧ w' = w := by
  go_enter Tryd.func38, Tryd.ntmps38
  go_wp2_with fail
  rw [ib19_run]
  try simp only [Result.andThen]
  rw [Oper.upon_value]
  go_wp2_with fail
  go_ret
  exact ⟨rfl, rfl⟩
theorem ib_any (s : ByteArray) (c : Int) (w : World) :
    Calls Tryd.prog 34 #[.string s, .int .u8 c] w fun e w' => e = .returned (.int .i64 (Lib.indexByte s.data.toList c.toNat.toUInt8)) ∧ w' = w := by
  go_enter Tryd.func34, Tryd.ntmps34
  go_wp2_with fail
  refine (ib18_any s c w).mono ?_
  rintro _ _ ⟨rfl, rfl⟩
  go_wp2_with fail
  go_ret
  exact ⟨rfl, rfl⟩

theorem u8_back (b : UInt8) : b.toNat.toUInt8 = b := UInt8.ofNat_toNat
/-- A block, and all rows that bear a mark, are as they were. -/
def KpM (b : Nat) (W W' : World) : Prop := W'.heap[b]? = W.heap[b]? ∧ ∀ (k : Nat) (cur : Array Value) (e : TypeId) (m : Nat × Nat), m.2 ≠ 0 → W.heap[k]? = some (.cells cur e m) → W'.heap[k]? = some (.cells cur e m)
theorem kpM_t {b : Nat} {A C D : World} (h : KpM b A C) (k : KpM b C D) : KpM b A D := ⟨k.1.trans h.1, fun j cur e m hm hj => k.2 j cur e m hm (h.2 j cur e m hm hj)⟩
theorem kpM_b {b B : Nat} (hb : b < B) (W : World) (l : Nat) (o o' : Obj) (hl : B ≤ l) (ho : W.heap[l]? = some o) (hc : o.isCells = false) (_ : o.isWalk = false) : KpM b W (W.putObj l o') :=
  ⟨World.putObj_heap_other (by omega), fun k cur e m _ hk => (World.putObj_heap_other (by intro he; subst he; rw [hk] at ho; cases ho; simp [Obj.isCells] at hc)).trans hk⟩

set_option maxRecDepth 100000 in
set_option maxHeartbeats 2000000 in
theorem values1_in (n : Nat) (hn : 1 ≤ n) (l bs bt : Nat) (s t : List UInt8) (J Jx : List UInt8 → World → Prop) (W : World) (hJ : AbidesFrom W.heap.size J)
    (hY : ∀ pre (x : UInt8) W, J pre W → pre.length < s.length → YieldAt Fence.wide (n - 1) Tryd.prog l #[.int .i64 (Lib.indexByte t x)] W fun r W' =>
      (r = .returned (.bool true) ∧ J (pre ++ [x]) W' ∧ KpM bt W W') ∨ (r = .returned (.bool false) ∧ Jx (pre ++ [x]) W'))
    (hs : s.length ≤ 2000000) (hbs : W.heap[bs]? = some (.cells #[strV s] 9)) (hbt : W.heap[bt]? = some (.cells #[strV t] 9)) (h0 : J [] W) :
    CallsIn Fence.wide n Tryd.prog 33 #[.func (.yield l) #[] #[], .pointer (some ⟨bs, 0, none⟩), .pointer (some ⟨bt, 0, none⟩)] W fun r W' => (∃ v, r = .returned v) ∧
      ((∃ ys, ys = s ∧ J ys W') ∨ (∃ pre, (∃ k, pre = s.take k) ∧ Jx pre W')) := by
  refine callsIn_of_wp Tryd.func33 rfl trivial ?_ rfl
  simp only [Tryd.ntmps33, List.size_toArray, List.length_cons, List.length_nil, Nat.reduceAdd, Nat.reduceSub, Array.replicate_succ, Array.replicate_zero, List.push_toArray, List.append_toArray, List.nil_append, List.cons_append]
  have hcs : W.cell? ⟨bs, 0, none⟩ = some (strV s) := by simp only [World.cell?, hbs]; rfl
  gi_wp2
  obtain ⟨X, d, c, cur, m, hx, hX, hm, hblk, hcell⟩ := conv_marked W s
  rw [hx]
  clear hx
  gi_wp2
  have hJ1 : J [] (plus W ⟨X, d⟩) := hJ [] W _ none h0 ⟨rfl, rfl, rfl, by rw [size_plus]; omega, fun k hk _ => heap_plus _ hk⟩ (fun _ h => by cases h)
  have hbt1 : (plus W ⟨X, d⟩).heap[bt]? = some (.cells #[strV t] 9) := (heap_plus _ (Array.getElem?_eq_some_iff.1 hbt).1).trans hbt
  obtain ⟨nb, hnb⟩ : ∃ nb, W.heap.size = nb := ⟨_, rfl⟩
  rw [hnb] at hblk hcell ⊢
  obtain ⟨W1, hW1⟩ : ∃ W1, plus W ⟨X, d⟩ = W1 := ⟨_, rfl⟩
  rw [hW1] at hJ1 hbt1 hblk ⊢
  clear hW1 hX hbs hbt hcs h0
  have HM := Lib.hid hm
  have HC := Lib.hid hcell
  clear hm hcell
  gi_loopw [9] (fun i wr => ∃ k : Nat, k ≤ s.length ∧ i = .int .i64 (k : Int) ∧ wr.heap[bt]? = some (.cells #[strV t] 9) ∧ Hid (wr.heap[nb]? = some (.cells cur 5 m)) ∧ J (s.take k) wr)
    (fun i _ => s.length - (intOf i).toNat)
  case atStart => exact ⟨0, by omega, rfl, hbt1, Lib.hid hblk, hJ1⟩
  case round =>
    obtain ⟨k, hk, rfl, hbx, HK, hJs⟩ := hrel
    by_cases hlt : k < s.length
    · have hd : decide ((k : Int) < (s.length : Int)) = true := by simp; omega
      have hcl := HC.out wr HK.out k hlt
      have HV := Lib.hid (show s.take (k + 1) = s.take k ++ [s.getD k 0] by rw [List.take_succ_eq_append_getElem hlt]; simp [hlt])
      obtain ⟨b, hbe⟩ : ∃ b, s.getD k 0 = b := ⟨_, rfl⟩
      rw [hbe] at hcl HV
      clear hbe
      have hb256 := b.toNat_lt
      have hcp : wr.cell? ⟨bt, 0, none⟩ = some (strV t) := by simp only [World.cell?, hbx]; rfl
      obtain ⟨fn, tmps, assign, body, hy, hR⟩ := hY (s.take k) b wr hJs (by simp; omega)
      gi_wp2
      refine ⟨trivial, ?_⟩
      refine (callsIn_wide.2 (ib_any ⟨t.toArray⟩ (b.toNat : Int) wr)).mono ?_
      rintro _ _ ⟨rfl, rfl⟩
      simp only [Int.toNat_natCast, u8_back] at *
      gi_wp2
      refine hR.mono ?_
      rintro r W3 (⟨rfl, hJ3, hk3, hk4⟩ | ⟨rfl, hJx3⟩)
      · have hb3 := hk3.trans hbx
        have hb4 := hk4 nb _ _ _ HM.out HK.out
        gi_wp2
        go_roundw
        case rel => exact ⟨k + 1, by omega, by go_num, hb3, Lib.hid hb4, by rw [HV.out]; exact hJ3⟩
        case measure => simp [intOf]; omega
      · gi_wp2
        refine bodyPost_ret (results_none rfl _ _ _) rfl ?_
        exact ⟨⟨_, rfl⟩, .inr ⟨_, ⟨k + 1, HV.out.symm⟩, hJx3⟩⟩
    · obtain rfl : k = s.length := by omega
      rw [List.take_length] at hJs
      gi_wp2
      go_end0
      exact ⟨⟨_, rfl⟩, .inl ⟨_, rfl, hJs⟩⟩
theorem values_in (n : Nat) (s t : List UInt8) (w : World) :
    CallsIn Fence.wide n Tryd.prog 24 #[strV s, strV t] w fun r w' => r = .returned (.func (.func 33) #[] #[.pointer (some ⟨w.heap.size, 0, none⟩), .pointer (some ⟨w.heap.size + 1, 0, none⟩)]) ∧ w' = (w.alloc (.cells #[strV s] 9)).alloc (.cells #[strV t] 9) := by
  refine callsIn_of_wp Tryd.func24 rfl trivial ?_ rfl
  simp only [Tryd.ntmps24, List.size_toArray, List.length_cons, List.length_nil, Nat.reduceAdd, Nat.reduceSub, Array.replicate_succ, Array.replicate_zero, List.push_toArray, List.append_toArray, List.nil_append, List.cons_append]
  gi_wp2
  go_ret
  exact ⟨rfl, rfl⟩
theorem values_stops (n : Nat) (hn : 1 ≤ n) (bs bt : Nat) (s t : List UInt8) (w : World) (hs : s.length ≤ 2000000) (hbs : w.heap[bs]? = some (.cells #[strV s] 9)) (hbt : w.heap[bt]? = some (.cells #[strV t] 9)) :
    SeqStopsK Fence.wide n Tryd.prog 33 #[.pointer (some ⟨bs, 0, none⟩), .pointer (some ⟨bt, 0, none⟩)] (fun x : UInt8 => #[Value.int .i64 (Lib.indexByte t x)]) (KpM bt) (fun ys => ys = s) (fun pre => ∃ k, pre = s.take k) s.length w := fun l J Jx W hW hJ _ hY h0 =>
  values1_in n hn l bs bt s t J Jx W hJ hY hs ((hW.block bs (Array.getElem?_eq_some_iff.1 hbs).1).trans hbs) ((hW.block bt (Array.getElem?_eq_some_iff.1 hbt).1).trans hbt) h0
end Go.Proofs.YtalanaongfnndaaDoor

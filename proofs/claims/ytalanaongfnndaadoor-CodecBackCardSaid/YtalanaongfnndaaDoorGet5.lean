/- Walks: bytes of 32 letters. -/
import Derived.Test.YtalanaongfnndaaDoorGet4
namespace Go.Proofs.YtalanaongfnndaaDoor
open Go.RowKit Go.Shelf

attribute [local go_sem] Oper.semAt_some

/-- A string's bytes in a new row, that may be written. -/
theorem conv_row (W : World) (l : List UInt8) : ∃ (X : Array Obj) (d c : Nat) (tl : List Value) (m : Nat × Nat), (convert 9 22 (strV l)).run Tryd.prog W = .ok (.slice (some ⟨W.heap.size, 0, none⟩) l.length c) (plus W ⟨X, d⟩) ∧ X.size = 1 ∧
    (plus W ⟨X, d⟩).heap[W.heap.size]? = some (.cells (rowC l tl) 5 m) ∧ ∀ j, j < l.length → (plus W ⟨X, d⟩).frozen? ⟨W.heap.size, j, none⟩ = false := by
  obtain ⟨X, d, c, h1, h2, h3⟩ := conv_bytes W l W.heap.size rfl
  have hr := Lib.run_convert_string_bytes (P := Tryd.prog) W 9 22 5 ⟨l.toArray⟩ Tryd.underlying9 Tryd.underlying22 Tryd.underlying5
  have he : plus W ⟨X, d⟩ = Lib.bytesWorld W 5 ⟨l.toArray⟩ := by
    have := h1.symm.trans hr
    injection this with _ h
  have hb := Lib.bytesWorld_at_new W 5 ⟨l.toArray⟩
  rw [← he] at hb
  have hc : Lib.bytesCells W 5 ⟨l.toArray⟩ = rowC l (List.replicate (grownCap W l.length 0 5 - l.length) (.int .u8 0)) := by
    unfold Lib.bytesCells rowC u8s
    apply Array.ext'
    simp
    rfl
  rw [hc] at hb
  refine ⟨X, d, c, _, _, h1, h2, hb, fun j hj => ?_⟩
  unfold World.frozen?
  simp only [hb]
  simp [rowC, u8s]
  omega

/-- Reading 32 letters, the lowest bits first. -/
def rdStep32 (st : Nat × Nat × List UInt8) (c : UInt8) : Nat × Nat × List UInt8 :=
  let n := st.1 ||| (Lib.indexByte t32L c).toNat * 2 ^ st.2.1
  if 8 ≤ st.2.1 + 5 then (n / 256, st.2.1 + 5 - 8, st.2.2 ++ [UInt8.ofNat n]) else (n, st.2.1 + 5, st.2.2)
def rd32 (l : List UInt8) : Nat × Nat × List UInt8 := l.foldl rdStep32 (0, 0, [])
theorem rd32_snoc (l : List UInt8) (c : UInt8) : rd32 (l ++ [c]) = rdStep32 (rd32 l) c := by simp [rd32]
theorem idx32 (c : UInt8) : (Lib.indexByte t32L c).toNat < 32 := by
  have := idx_lt t32L c
  have : (t32L.length : Int) = 32 := by decide
  omega
theorem rd32_bounds (l : List UInt8) : (rd32 l).1 < 65536 ∧ (rd32 l).2.1 < 8 ∧ (rd32 l).2.2.length ≤ l.length := by
  have H : ∀ n (l : List UInt8), l.length = n → (rd32 l).1 < 65536 ∧ (rd32 l).2.1 < 8 ∧ (rd32 l).2.2.length ≤ l.length := by
    intro n
    induction n with
    | zero => intro l hl; rw [List.eq_nil_of_length_eq_zero hl]; simp [rd32]
    | succ n ih =>
      intro l hl
      have hne : l ≠ [] := by rintro rfl; simp at hl
      rw [← List.dropLast_concat_getLast hne, rd32_snoc]
      have hi := ih l.dropLast (by simp [hl])
      generalize l.getLast hne = c at *
      obtain ⟨h1, h2, h3⟩ := hi
      generalize rd32 l.dropLast = st at *
      have hx := idx32 c
      have hp : (2 : Nat) ^ st.2.1 ≤ 2 ^ 7 := Nat.pow_le_pow_right (by omega) (by omega)
      have hm : (Lib.indexByte t32L c).toNat * 2 ^ st.2.1 ≤ 31 * 2 ^ 7 := Nat.mul_le_mul (by omega) hp
      have ho := Nat.or_lt_two_pow (n := 16) (x := st.1) (y := (Lib.indexByte t32L c).toNat * 2 ^ st.2.1) (by omega) (by omega)
      by_cases h8 : 8 ≤ st.2.1 + 5
      · simp only [rdStep32, if_pos h8, List.length_append, List.length_cons, List.length_nil]
        generalize st.1 ||| (Lib.indexByte t32L c).toNat * 2 ^ st.2.1 = z at *
        exact ⟨by omega, by omega, by omega⟩
      · simp only [rdStep32, if_neg h8, List.length_append, List.length_cons, List.length_nil]
        generalize st.1 ||| (Lib.indexByte t32L c).toNat * 2 ^ st.2.1 = z at *
        exact ⟨by omega, by omega, by omega⟩
  exact H _ l rfl

/-- What 32 letters say. -/
def getB32N (l : List UInt8) (size : Int) : List UInt8 × Bool :=
  if 0 ≤ size ∧ size ≤ 64 ∧ (∀ c ∈ l, 0 ≤ Lib.indexByte t32L c) ∧ ((rd32 l.reverse).2.2.length : Int) = size ∧ b32N (rd32 l.reverse).2.2 = l then ((rd32 l.reverse).2.2, true) else ([], false)

/-- What append leaves of a row of bytes, and what it touches, inside a fence. -/
theorem wpListIn_appendG {F : Fence} {nn : Nat} {P : Program} {W : World} {ops : Array Oper} {rest : List Oper} {o : Oper} {a : Act} {Q : Exit → Act → World → Prop} (hgd : o.guard = none) (s x : Operand) (t e : TypeId)
    (ho : o.op = .call { callee := .builtin .append, args := #[s, x], argTypes := #[t, t] }) (ht : P.underlying t = some (.slice e))
    (hinfo : (P.info? e).map (fun i => (i.zero, i.size, i.bytes)) = some (some (.int .u8 0), 1, 1)) (base : Nat) (v : Value) (l news : List UInt8) (hs : a.eval s = v)
    (hrow : rowB W base e v l) (n m c : Nat) (hn : n = W.heap.size) (hx : a.eval x = .slice (some ⟨n, 0, none⟩) m c) (hm : news.length = m) (hlen : l.length + m ≤ 1000000000) (hbase : base ≤ W.heap.size)
    (h : ∀ v' w', rowB w' base e v' (l ++ news) → Below base W w' → (∀ b, b < base → Kq b W w') → wpListIn F nn P ops Q rest (a.put o.dst v') w') : wpListIn F nn P ops Q (o :: rest) a (W.alloc (.cells (u8s news).toArray e)) := by
  subst hm hn
  cases hi : P.info? e with
  | none => rw [hi] at hinfo; cases hinfo
  | some i =>
    rw [hi] at hinfo
    simp only [Option.map_some, Option.some.injEq, Prod.mk.injEq] at hinfo
    have hr := rowB_alloc hrow (.cells (u8s news).toArray e)
    refine wpListIn_append_own _ hgd s x t ho base e i (.int .u8 0) 1 1 ht hi hinfo.1 hinfo.2.1 hinfo.2.2 rfl (by omega) v l.length (u8s l) hs hr ⟨W.heap.size, 0, none⟩ news.length c (u8s news) hx (by simp [u8s]) (cells_new W news e) (u8s_one news) (by unfold maxLen; omega) (by omega) (by simp; omega) ?_
    intro v' w' h1 h2 _
    exact h v' w' (rowB_of h1) (((Below.refl base W).alloc hbase _).trans (rowB_below hr h2 (by simp; omega))) (fun b hb => kq_t (kq_alloc W _ (by omega)) (kq_grown hb (by simp; omega) hr h2))
theorem setRow_other (w : World) (b k : Nat) (cs : Array Value) (h : b ≠ k) : (w.setRow b cs).heap[k]? = w.heap[k]? := by
  unfold World.setRow
  simp only [Array.getElem?_modify]
  rw [if_neg h]
theorem conv_back (l : List UInt8) (tl : List Value) (m : Nat × Nat) (q c : Nat) (W : World) (h : W.heap[q]? = some (.cells (rowC l tl) 5 m)) :
    (convert 22 9 (.slice (some ⟨q, 0, none⟩) l.length c)).run Tryd.prog W = .ok (strV l) W :=
  run_convert_bytes_back W 22 9 5 ⟨q, 0, none⟩ c l Tryd.underlying22 Tryd.underlying5 Tryd.underlying9 fun j hj => by
    rw [addr_add]
    simp only [World.cell?, h]
    rw [rowC_get l tl j hj]
    simp [hj]
theorem gBase_setOld (U : World) (s t : List UInt8) (v : Value) (n h : Nat) (x : Ext) (k : Nat) (u : Value) (hk : k < U.heap.size) : (plus (gBase U s t v n h) x).setCell ⟨k, 0, none⟩ u = plus (gBase (U.setCell ⟨k, 0, none⟩ u) s t v n h) x := by
  rw [setCell_plus (gBase_has U s t v n h _ (by simp only; omega))]
  unfold gBase
  rw [setCell_alloc_has (by unfold has; simp only [World.size_alloc]; omega), setCell_alloc_has (by unfold has; simp only [World.size_alloc]; omega), setCell_alloc_has (by unfold has; simp only [World.size_alloc]; omega), setCell_alloc_has (by unfold has; simp only [World.size_alloc]; omega), setCell_alloc_has (by unfold has; simp only; omega)]

theorem app_fact {U W1 : World} {s t o : List UInt8} {v v' : Value} {n h g e : Nat} {x : Ext} {p : UInt8} (hge : U.heap.size = g) (hrow : rowB W1 (g + 5) e v' (o ++ [p])) (hbel : Below (g + 5) (plus (gBase U s t v n h) x) W1) :
    ∃ A c x3, v' = .slice A (o.length + 1) c ∧ W1 = plus (gBase U s t v n h) x3 ∧ ∀ n' h', rowB (plus (gBase U s t (.slice A (o.length + 1) c) n' h') x3) (g + 5) e (.slice A (o.length + 1) c) (o ++ [p]) := by
  obtain ⟨A, c, hv⟩ := rowB_form hrow
  simp only [List.length_append, List.length_cons, List.length_nil, Nat.zero_add] at hv
  subst hv
  have hs : (gBase U s t v n h).heap.size = g + 5 := by rw [gBase_size, hge]
  have hb : Below (gBase U s t v n h).heap.size (gBase U s t v n h) W1 := by
    have := below_plus (gBase U s t v n h) x
    rw [hs] at this ⊢
    exact this.trans hbel
  obtain ⟨x3, hx3⟩ := plus_of_below hb
  refine ⟨A, c, x3, rfl, hx3, fun n' h' => ?_⟩
  rw [hx3] at hrow
  exact rowB_shift (by rw [gBase_size, gBase_size]) (by rw [hs]; omega) hrow

theorem cell_set {V : World} {b : Nat} {u : Value} (h : V.cell? ⟨b, 0, none⟩ = some u) (u' : Value) : (V.setCell ⟨b, 0, none⟩ u').cell? ⟨b, 0, none⟩ = some u' := by
  unfold World.cell? at h ⊢
  unfold World.setCell
  dsimp only at h ⊢
  rw [Array.getElem?_modify, if_pos rfl]
  cases hb : V.heap[b]? with
  | none => rw [hb] at h; cases h
  | some o =>
    rw [hb] at h
    cases o with
    | cells c e fr =>
      simp only at h
      have h2 : 0 < c.size := (Array.getElem?_eq_some_iff.1 h).1
      simp [h2]
    | _ => simp at h
theorem leave_two {w V : World} {tmps : Array Value} {q D : Nat} {r : List UInt8} {b : Bool} {R : Ending → World → Prop} (hq : q + 1 < D) (hw : w.heap.size ≤ D) (c4 : V.cell? ⟨q, 0, none⟩ = some (strV r)) (c5 : V.cell? ⟨q + 1, 0, none⟩ = some (.bool b))
    (hD : V.heap[D]? = some (.deferred (some []))) (hb : Below w.heap.size w V) (t4 : tmps[4]?.getD undef = .pointer (some ⟨q, 0, none⟩)) (t5 : tmps[5]?.getD undef = .pointer (some ⟨q + 1, 0, none⟩))
    (hR : ∀ w', Below w.heap.size w w' → R (.returned (.tuple #[strV r, .bool b])) w') : LeavesInM Fence.wide 4 Tryd.prog Tryd.f12 tmps R [{ target := .collected D, args := #[] }] .returning V := by
  refine ⟨by simp, .inl ⟨_, _, rfl, run_takeDeferred hD, ?_⟩⟩
  have h4 : (V.putObj D (.deferred none)).cell? ⟨q, 0, none⟩ = some (strV r) := (World.cell?_of_block (World.putObj_heap_other (by simp only; omega))).trans c4
  have h5 : (V.putObj D (.deferred none)).cell? ⟨q + 1, 0, none⟩ = some (.bool b) := (World.cell?_of_block (World.putObj_heap_other (by simp only; omega))).trans c5
  refine ⟨.tuple #[strV r, .bool b], ?_, hR _ (hb.trans ⟨rfl, rfl, rfl, by have := hb.size; simp, fun j hj => World.putObj_heap_other (by omega)⟩)⟩
  simp [results, Tryd.results12, go_sem, t4, t5, h4, h5]

set_option maxRecDepth 100000 in
set_option maxHeartbeats 2000000 in
theorem getb32_any (l : List UInt8) (size : Int) (w : World) (hl : l.length ≤ 1000000) :
    Calls Tryd.prog 12 #[strV l, .int .i64 size] w fun e w' => e = .returned (.tuple #[strV (getB32N l size).1, .bool (getB32N l size).2]) ∧ Below w.heap.size w w' := by
  refine (callsIn_wide (n := 4)).1 ?_
  refine callsIn_of_wp_marks Tryd.func12 rfl trivial ?_ rfl
  simp only [Tryd.ntmps12, List.size_toArray, List.length_cons, List.length_nil, Nat.reduceAdd, Nat.reduceSub, Array.replicate_succ, Array.replicate_zero, List.push_toArray, List.append_toArray, List.nil_append, List.cons_append]
  have hearly : ¬ (0 ≤ size ∧ size ≤ 64) → getB32N l size = ([], false) := fun h => by
    unfold getB32N
    rw [if_neg (fun h' => h ⟨h'.1, h'.2.1⟩)]
  have HEARLY := Lib.hid hearly
  clear hearly
  by_cases hz : size < 0
  · have hd : decide (size < 0) = true := by simp [hz]
    gi_wp2
    change LeavesInM _ _ _ _ _ _ [] _ _
    refine ⟨.tuple #[strV [], .bool false], by simp [results, Tryd.results12, go_sem], by rw [HEARLY.out (by omega)], ?_⟩
    repeat (first | exact Below.refl _ _ | refine Below.setCell ?_ (by first | (simp; done) | (simp; omega) | (simp [size_plus]; done) | (simp [size_plus]; omega)) _ | refine Below.alloc ?_ (by first | (simp; done) | (simp; omega) | (simp [size_plus]; done) | (simp [size_plus]; omega)) _ | refine Below.drew ?_ | refine Below.plus ?_ (by first | (simp; done) | (simp; omega) | (simp [size_plus]; done) | (simp [size_plus]; omega)) _)
  · have hd : decide (size < 0) = false := by simp [hz]
    by_cases hz2 : 64 < size
    · have hd2 : decide (64 < size) = true := by simp [hz2]
      gi_wp2
      change LeavesInM _ _ _ _ _ _ [] _ _
      refine ⟨.tuple #[strV [], .bool false], by simp [results, Tryd.results12, go_sem], by rw [HEARLY.out (by omega)], ?_⟩
      repeat (first | exact Below.refl _ _ | refine Below.setCell ?_ (by first | (simp; done) | (simp; omega) | (simp [size_plus]; done) | (simp [size_plus]; omega)) _ | refine Below.alloc ?_ (by first | (simp; done) | (simp; omega) | (simp [size_plus]; done) | (simp [size_plus]; omega)) _ | refine Below.drew ?_ | refine Below.plus ?_ (by first | (simp; done) | (simp; omega) | (simp [size_plus]; done) | (simp [size_plus]; omega)) _)
    · have hd2 : decide (64 < size) = false := by simp [hz2]
      have HZ := Lib.hid (show 0 ≤ size ∧ size ≤ 64 by omega)
      gi_wp2
      obtain ⟨X, d, c, tl, m, hx, hX, hblk, hfr⟩ := conv_row ((w.alloc (.cells #[strV []] 9)).alloc (.cells #[.bool false] 4)) l
      have hq : ((w.alloc (.cells #[strV []] 9)).alloc (.cells #[.bool false] 4)).heap.size = w.heap.size + 2 := by simp
      have hx' : (convert 9 22 (strV l)).run Tryd.prog ((w.alloc (.cells #[.string ⟨#[]⟩] 9)).alloc (.cells #[.bool false] 4)) = _ := hx
      rw [hx', hq]
      clear hx hx'
      rw [hq] at hblk hfr
      have hb1 : Below w.heap.size w (plus ((w.alloc (.cells #[strV []] 9)).alloc (.cells #[.bool false] 4)) ⟨X, d⟩) := by
        repeat (first | exact Below.refl _ _ | refine Below.setCell ?_ (by first | (simp; done) | (simp; omega) | (simp [size_plus]; done) | (simp [size_plus]; omega)) _ | refine Below.alloc ?_ (by first | (simp; done) | (simp; omega) | (simp [size_plus]; done) | (simp [size_plus]; omega)) _ | refine Below.drew ?_ | refine Below.plus ?_ (by first | (simp; done) | (simp; omega) | (simp [size_plus]; done) | (simp [size_plus]; omega)) _)
      have hc4 : (plus ((w.alloc (.cells #[strV []] 9)).alloc (.cells #[.bool false] 4)) ⟨X, d⟩).heap[w.heap.size]? = some (.cells #[strV []] 9) := by
        rw [heap_plus _ (by unfold has; rw [hq]; omega), heap_alloc_old _ _ (by simp)]
        exact World.alloc_heap_new w _
      have hc5 : (plus ((w.alloc (.cells #[strV []] 9)).alloc (.cells #[.bool false] 4)) ⟨X, d⟩).heap[w.heap.size + 1]? = some (.cells #[.bool false] 4) := by
        rw [heap_plus _ (by unfold has; rw [hq]; omega)]
        have := World.alloc_heap_new (w.alloc (.cells #[strV []] 9)) (.cells #[.bool false] 4)
        rwa [World.size_alloc] at this
      obtain ⟨W1, hW1⟩ : ∃ W1, plus ((w.alloc (.cells #[strV []] 9)).alloc (.cells #[.bool false] 4)) ⟨X, d⟩ = W1 := ⟨_, rfl⟩
      have hW1' : plus ((w.alloc (.cells #[.string ⟨#[]⟩] 9)).alloc (.cells #[.bool false] 4)) ⟨X, d⟩ = W1 := hW1
      rw [hW1] at hblk hfr hb1 hc4 hc5
      simp only [hW1']
      clear hW1 hW1' hX hq
      gi_wp2
      refine ⟨trivial, ?_⟩
      refine (callsIn_wide.2 (reverse_any (w.heap.size + 2) c l tl 5 m W1 (by omega) hblk hfr)).mono ?_
      rintro _ _ ⟨rfl, x1, rfl⟩
      obtain ⟨U, hU⟩ : ∃ U, plus (W1.setRow (w.heap.size + 2) (rowC l.reverse tl)) x1 = U := ⟨_, rfl⟩
      have hq1 : w.heap.size + 2 < W1.heap.size := (Array.getElem?_eq_some_iff.1 hblk).1
      have hold : ∀ k, k < W1.heap.size → w.heap.size + 2 ≠ k → U.heap[k]? = W1.heap[k]? := fun k hk hne => by
        rw [← hU, heap_plus x1 (by unfold has; rw [setRow_size]; exact hk), setRow_other _ _ _ _ hne]
      have hbU : Below w.heap.size w U := hb1.trans ⟨by rw [← hU]; rfl, by rw [← hU]; rfl, by rw [← hU]; rfl, by rw [← hU, size_plus, setRow_size]; omega, fun k hk => hold k (by omega) (by omega)⟩
      have hrU : U.heap[w.heap.size + 2]? = some (.cells (rowC l.reverse tl) 5 m) := by
        rw [← hU, heap_plus x1 (by unfold has; rw [setRow_size]; exact hq1)]
        exact setRow_heap hblk
      have hc4U := (hold w.heap.size (by omega) (by omega)).trans hc4
      have hc5U := (hold (w.heap.size + 1) (by omega) (by omega)).trans hc5
      have hUs : w.heap.size + 2 < U.heap.size := (Array.getElem?_eq_some_iff.1 hrU).1
      rw [hU]
      clear hU hold hc4 hc5 hblk hfr hb1 hq1
      have HBU := Lib.hid hbU
      have hconv : (convert 22 9 (.slice (some ⟨w.heap.size + 2, 0, none⟩) l.length c)).run Tryd.prog (((U.alloc (.cells #[.slice none 0 0] 22)).alloc (.cells #[.int .i64 0] 3)).alloc (.cells #[.int .i64 0] 3)) = .ok (strV l.reverse) (((U.alloc (.cells #[.slice none 0 0] 22)).alloc (.cells #[.int .i64 0] 3)).alloc (.cells #[.int .i64 0] 3)) := by
        have h := conv_back l.reverse tl m (w.heap.size + 2) c (((U.alloc (.cells #[.slice none 0 0] 22)).alloc (.cells #[.int .i64 0] 3)).alloc (.cells #[.int .i64 0] 3)) (by
          rw [heap_alloc_old _ _ (by simp only [World.size_alloc]; omega), heap_alloc_old _ _ (by simp only [World.size_alloc]; omega), heap_alloc_old _ _ hUs]
          exact hrU)
        rw [List.length_reverse] at h
        exact h
      clear hbU
      gi_wp2
      refine ⟨trivial, ?_⟩
      refine (values_in _ l.reverse t32L _).mono ?_
      rintro _ _ ⟨rfl, rfl⟩
      gi_wp2
      clear hconv hrU
      obtain ⟨q, hqe⟩ : ∃ q, w.heap.size = q := ⟨_, rfl⟩
      obtain ⟨g, hge⟩ : ∃ g, U.heap.size = g := ⟨_, rfl⟩
      have HQE := Lib.hid hqe
      have HGE := Lib.hid hge
      rw [hqe] at hc4U hc5U hUs ⊢
      rw [hge] at hUs ⊢
      have hbs := gBase_box U l.reverse t32L (.slice none 0 0) 0 0
      have hbt := gBase_box2 U l.reverse t32L (.slice none 0 0) 0 0
      rw [hge] at hbs hbt
      have hsz : (gBase U l.reverse t32L (.slice none 0 0) 0 0).heap.size = g + 1 + 1 + 1 + 1 + 1 := by rw [gBase_size, hge]
      refine wpIn_rangeFunc_ownF rfl (by omega) (gf := 33) (lb := #[.pointer (some ⟨g + 1 + 1 + 1, 0, none⟩), .pointer (some ⟨g + 1 + 1 + 1 + 1, 0, none⟩)]) rfl trivial (enters_of Tryd.func33 (by kernel_rfl) rfl)
        (values_stops _ (by omega) (g + 1 + 1 + 1) (g + 1 + 1 + 1 + 1) l.reverse t32L (gBase U l.reverse t32L (.slice none 0 0) 0 0) (by simp; omega) hbs hbt) kpM_t (kpM_b (by simp only [World.size_alloc]; omega)) (Below.refl _ _) (fun _ => rfl)
        (GI U l.reverse t32L (g + 5) rd32)
        (GX ((U.setCell ⟨q, 0, none⟩ (.string ⟨#[]⟩)).setCell ⟨q + 1, 0, none⟩ (.bool false)) l.reverse t32L)
        (gi_own _ _ _ _ _ _ (by simp only [World.size_alloc]; omega))
        (gx_own _ _ _ _ (by simp))
        ⟨by simp, .slice none 0 0, ⟨#[], U.drawn⟩, (plus_nothing _).symm, rowB_nil _ _ _⟩
        ?a1 ?assign ?body ?done ?stop
      case assign =>
        intro l x W K hK
        gi_wp2
        exact hK
      case body =>
        rintro lp pre c' _ ⟨hpre, v, x0, rfl, hr⟩ hlen
        obtain ⟨hb1, hb2, hb3⟩ := rd32_bounds pre
        have HS := Lib.hid (rd32_snoc pre c')
        generalize rd32 pre = st at *
        obtain ⟨n, h, o⟩ := st
        simp only at hr hb1 hb2 hb3 ⊢
        have hix := idx_lt t32L c'
        obtain ⟨ix, hie⟩ : ∃ ix, Lib.indexByte t32L c' = ix := ⟨_, rfl⟩
        have HIE := Lib.hid hie
        rw [hie] at hix
        rw [hie]
        clear hie
        have c8 := gBase_cell8 U l.reverse t32L v n h x0
        have c9 := gBase_cell9 U l.reverse t32L v n h x0
        have c10 := gBase_cell10 U l.reverse t32L v n h x0
        have c4 := (gBase_cellOld U l.reverse t32L v n h x0 q 0 (by omega)).trans (show U.cell? ⟨q, 0, none⟩ = some (.string ⟨#[]⟩) by simp only [World.cell?, hc4U]; rfl)
        have c5 := (gBase_cellOld U l.reverse t32L v n h x0 (q + 1) 0 (by omega)).trans (show U.cell? ⟨q + 1, 0, none⟩ = some (.bool false) by simp only [World.cell?, hc5U]; rfl)
        have f4 : (plus (gBase U l.reverse t32L v n h) x0).frozen? ⟨q, 0, none⟩ = false := by
          rw [frozen?_plus (gBase_has U _ _ _ _ _ _ (by simp only; omega)), World.frozen?_of_block (gBase_old U _ _ _ _ _ q (by omega))]
          simp only [World.frozen?, hc4U]
          rfl
        have f5 : (plus (gBase U l.reverse t32L v n h) x0).frozen? ⟨q + 1, 0, none⟩ = false := by
          rw [frozen?_plus (gBase_has U _ _ _ _ _ _ (by simp only; omega)), World.frozen?_of_block (gBase_old U _ _ _ _ _ (q + 1) (by omega))]
          simp only [World.frozen?, hc5U]
          rfl
        have f9 := gBase_frozen U l.reverse t32L v n h x0 (U.heap.size + 1) (by omega) (by omega)
        have f10 := gBase_frozen U l.reverse t32L v n h x0 (U.heap.size + 1 + 1) (by omega) (by omega)
        obtain ⟨WW, hWW⟩ : ∃ WW, plus (gBase U l.reverse t32L v n h) x0 = WW := ⟨_, rfl⟩
        rw [hWW] at c8 c9 c10 c4 c5 f4 f5 f9 f10 ⊢
        rw [hge] at c8 c9 c10 f9 f10
        have HH := Lib.hid hWW
        have HR := Lib.hid hr
        have HP := Lib.hid hpre
        clear hWW hr hpre
        by_cases hneg : ix < 0
        · have hd0 : decide (ix < 0) = true := by simp [hneg]
          clear c8 c9 c10 f9 f10
          obtain ⟨V1, hV1⟩ : ∃ V1, WW.setCell ⟨q, 0, none⟩ (.string ⟨#[]⟩) = V1 := ⟨_, rfl⟩
          have d5 : V1.cell? ⟨q + 1, 0, none⟩ = some (.bool false) := by rw [← hV1, setCell_far _ _ _ _ (by simp)]; exact c5
          have e5 : V1.frozen? ⟨q + 1, 0, none⟩ = false := by rw [← hV1, World.frozen?_setCell]; exact f5
          gi_wp2
          refine ⟨by rw [← hV1]; exact (KeepsOthers.setCell _ _ _).trans (KeepsOthers.setCell _ _ _), rfl, ⟨c', by simp, by rw [HIE.out]; exact hneg⟩, v, n, h, x0, ?_⟩
          rw [← hV1, ← HH.out, gBase_setOld _ _ _ _ _ _ _ _ _ (by omega), gBase_setOld _ _ _ _ _ _ _ _ _ (by simp [World.setCell]; omega)]
        · have hd0 : decide (ix < 0) = false := by simp [hneg]
          obtain ⟨y, rfl⟩ := Int.eq_ofNat_of_zero_le (Int.not_lt.1 hneg)
          clear hneg
          have hy : y < 32 := by have : (t32L.length : Int) = 32 := by decide
                                 omega
          have hsl := shl_n (n := y) (b := h) (by omega) (by omega)
          have hp7 : (2 : Nat) ^ h ≤ 2 ^ 7 := Nat.pow_le_pow_right (by omega) (by omega)
          have hm7 : y * 2 ^ h ≤ 31 * 2 ^ 7 := Nat.mul_le_mul (by omega) hp7
          have hor := or_i64 (a := n) (b := y * 2 ^ h) (by omega) (by omega)
          have hlt := Nat.or_lt_two_pow (n := 16) (x := n) (y := y * 2 ^ h) (by omega) (by omega)
          obtain ⟨m', hme⟩ : ∃ m', (n ||| y * 2 ^ h) = m' := ⟨_, rfl⟩
          rw [hme] at hor hlt
          have HME := Lib.hid hme
          have hw1 : bits BinOp.or IntKind.i64 (n : Int) (IntKind.i64.wrap ((y : Int) * 2 ^ h)) = (m' : Int) := by rw [i64_wr, hsl, hor]
          clear hme hsl hp7 hm7 hor
          simp only [Nat.add_assoc, Nat.reduceAdd] at c8 c9 c10 f9 f10
          simp only [Nat.add_assoc, Nat.reduceAdd]
          gi_wp2
          obtain ⟨W1, hW1⟩ : ∃ W1, WW.drew.setCell ⟨g + 1, 0, none⟩ (.int .i64 (m' : Int)) = W1 := ⟨_, rfl⟩
          refine wpIn_region_pair 5 58 [false, false, false, false, false] W1 mixed (by kernel_rfl) (by kernel_rfl) rfl (by kernel_rfl) ?_
          simp only [List.take_succ_cons, List.take_zero]
          refine pairHead_early (v := .int .i64 (n : Int)) rfl (by go_simp) ?_
          refine pairHead_early (v := .int .i64 (y : Int)) rfl (by go_simp) ?_
          refine pairHead_early (v := .int .i64 (h : Int)) rfl (by go_simp) ?_
          refine pairHead_early (v := .int .i64 (IntKind.i64.wrap ((y : Int) * 2 ^ h))) rfl (by go_simp) ?_
          refine pairHead_early (v := .int .i64 (m' : Int)) rfl (by go_simp) ?_
          unfold pairHead
          simp only [List.getElem?_cons_succ, List.getElem?_cons_zero, List.drop_succ_cons, List.drop_zero]
          refine ⟨undef, ⟨rfl, .inr ⟨by go_simp, rfl⟩⟩, ?_⟩
          simp only [Act.put, List.setIfInBounds_toArray, List.set_cons_succ, List.set_cons_zero]
          go_wp2_with fail
          rw [onlyN_normal]
          have hWf : W1 = plus (gBase U l.reverse t32L v m' h) ⟨x0.blocks, x0.draws + 1⟩ := by
            have e1 : WW.drew = plus (gBase U l.reverse t32L v n h) ⟨x0.blocks, x0.draws + 1⟩ := by rw [← HH.out]; rfl
            rw [← hW1, e1, ← hge, gBase_set9]
          obtain ⟨x1, hx1⟩ : ∃ x1 : Ext, x1 = ⟨x0.blocks, x0.draws + 1⟩ := ⟨_, rfl⟩
          have HKQ := Lib.hid (show Kq (g + 4) WW W1 by rw [← HH.out, hWf, ← hge]; exact kq_t (kq_base U l.reverse t32L v v n m' h h x0) (kq_draws _ _))
          have HR1 := Lib.hid (show ∀ n' h', rowB (plus (gBase U l.reverse t32L v n' h') x1) (g + 5) 5 v o by
            intro n' h'
            rw [hx1]
            have hr2 := rowB_shift (V := gBase U l.reverse t32L v n' h') (by rw [gBase_size, gBase_size]) (by rw [gBase_size]; omega) HR.out
            exact hr2)
          rw [← hx1] at hWf
          subst hWf
          clear hx1 hw1 c8 c9 c10 c4 c5 f4 f5 f9 f10 HR hW1
          have r8 : ∀ v n h x, (plus (gBase U l.reverse t32L v n h) x).cell? ⟨g, 0, none⟩ = some v := fun v n h x => by rw [← hge]; exact gBase_cell8 U _ _ v n h x
          have r9 : ∀ v n h x, (plus (gBase U l.reverse t32L v n h) x).cell? ⟨g + 1, 0, none⟩ = some (.int .i64 (n : Int)) := fun v n h x => by rw [← hge]; exact gBase_cell9 U _ _ v n h x
          have r10 : ∀ v n h x, (plus (gBase U l.reverse t32L v n h) x).cell? ⟨g + 2, 0, none⟩ = some (.int .i64 (h : Int)) := fun v n h x => by rw [← hge]; exact gBase_cell10 U _ _ v n h x
          have q8 : ∀ v n h x, (plus (gBase U l.reverse t32L v n h) x).frozen? ⟨g, 0, none⟩ = false := fun v n h x => gBase_frozen U _ _ v n h x g (by omega) (by omega)
          have q9 : ∀ v n h x, (plus (gBase U l.reverse t32L v n h) x).frozen? ⟨g + 1, 0, none⟩ = false := fun v n h x => gBase_frozen U _ _ v n h x (g + 1) (by omega) (by omega)
          have q10 : ∀ v n h x, (plus (gBase U l.reverse t32L v n h) x).frozen? ⟨g + 2, 0, none⟩ = false := fun v n h x => gBase_frozen U _ _ v n h x (g + 2) (by omega) (by omega)
          have s10 : (plus (gBase U l.reverse t32L v m' h) x1).setCell ⟨g + 2, 0, none⟩ (.int .i64 ((h : Int) + 5)) = plus (gBase U l.reverse t32L v m' (h + 5)) x1 := by
            rw [← hge, show (h : Int) + 5 = ((h + 5 : Nat) : Int) by simp, gBase_set10]
          gi_wp2
          have HO := Lib.hid (show o.length ≤ 1000000 by have := hb3; have := hlen; simp at this; omega)
          refine wpIn_loop_rounds 2 ?_
          rw [roundsIn_succ]
          by_cases h8 : 3 ≤ h
          · have hd8 : decide ((8 : Int) ≤ (h : Int) + 5) = true := by simp; omega
            obtain ⟨k, hk⟩ : ∃ k, h + 5 - 8 = k := ⟨_, rfl⟩
            have hki : (h : Int) + 5 - 8 = (k : Int) := by omega
            have hdk : decide ((8 : Int) ≤ (k : Int)) = false := by simp; omega
            obtain ⟨m2, hm2⟩ : ∃ m2, m' / 256 = m2 := ⟨_, rfl⟩
            have hmi : (m' : Int) / 256 = (m2 : Int) := by omega
            obtain ⟨p, hp⟩ : ∃ p, UInt8.ofNat m' = p := ⟨_, rfl⟩
            have hu8 : IntKind.u8.wrap (m' : Int) = (p.toNat : Int) := by rw [← hp, IntKind.wrap_u8, UInt8.toNat_ofNat']; omega
            have t8 : ∀ u x3, (plus (gBase U l.reverse t32L v m' (h + 5)) x3).setCell ⟨g, 0, none⟩ u = plus (gBase U l.reverse t32L u m' (h + 5)) x3 := fun u x3 => by rw [← hge, gBase_set8]
            have t9 : ∀ u x3, (plus (gBase U l.reverse t32L u m' (h + 5)) x3).setCell ⟨g + 1, 0, none⟩ (.int .i64 (m2 : Int)) = plus (gBase U l.reverse t32L u m2 (h + 5)) x3 := fun u x3 => by rw [← hge, gBase_set9]
            have t10 : ∀ u x3, (plus (gBase U l.reverse t32L u m2 (h + 5)) x3).setCell ⟨g + 2, 0, none⟩ (.int .i64 (k : Int)) = plus (gBase U l.reverse t32L u m2 k) x3 := fun u x3 => by rw [← hge, gBase_set10]
            have HSZ := Lib.hid (show g + 5 ≤ (plus (gBase U l.reverse t32L v m' (h + 5)) x1).heap.size by rw [size_plus, gBase_size, hge]; omega)
            have HPP := Lib.hid hp
            have HKK := Lib.hid hk
            have HM2 := Lib.hid hm2
            clear hp hk hm2 s10
            gi_wp2_with (gi_at_builtin; refine wpListIn_appendG rfl _ _ 22 5 rfl Tryd.underlying22 info8 (g + 5) v _ [p] rfl (HR1.out m' (h + 5)) _ 1 1 (by simp [size_plus]) rfl rfl (by have := HO.out; simp; omega) HSZ.out ?_; intro v' w1 hrow1 hbel1 hkq1; have HK5 := Lib.hid (hkq1 (g + 4) (by omega)); obtain ⟨A5, c5, x3, rfl, rfl, hr3⟩ := app_fact hge hrow1 hbel1; have HR5 := Lib.hid hr3; clear hrow1 hbel1 hkq1 hr3)
            rw [roundsIn_succ]
            gi_wp2
            have kb : ∀ v v' n n' h h' x, Kq (g + 4) (plus (gBase U l.reverse t32L v n h) x) (plus (gBase U l.reverse t32L v' n' h') x) := fun v v' n n' h h' x => by rw [← hge]; exact kq_base U _ _ v v' n n' h h' x
            have hkq := kq_t (kq_t (kq_t HKQ.out (kb v v m' m' h (h + 5) x1)) HK5.out) (kb v (.slice A5 (o.length + 1) c5) m' m2 (h + 5) k x3)
            refine ⟨hkq.1, hkq.2, ?_, .slice A5 (o.length + 1) c5, x3, ?_, ?_⟩
            · intro c2 hc2
              rcases List.mem_append.1 hc2 with hc2 | hc2
              · exact HP.out c2 hc2
              · rw [List.mem_singleton.1 hc2, HIE.out]
                exact Int.natCast_nonneg y
            · rw [HS.out]
              simp only [rdStep32, HIE.out, Int.toNat_natCast, HME.out, if_pos (show 8 ≤ h + 5 by omega), HKK.out, HM2.out]
            · rw [HS.out]
              simp only [rdStep32, HIE.out, Int.toNat_natCast, HME.out, if_pos (show 8 ≤ h + 5 by omega), HPP.out]
              exact HR5.out m2 k
          · have hd8 : decide ((8 : Int) ≤ (h : Int) + 5) = false := by simp; omega
            gi_wp2
            have kb : ∀ v v' n n' h h' x, Kq (g + 4) (plus (gBase U l.reverse t32L v n h) x) (plus (gBase U l.reverse t32L v' n' h') x) := fun v v' n n' h h' x => by rw [← hge]; exact kq_base U _ _ v v' n n' h h' x
            have hkq := kq_t HKQ.out (kb v v m' m' h (h + 5) x1)
            refine ⟨hkq.1, hkq.2, ?_, v, x1, ?_, ?_⟩
            · intro c2 hc2
              rcases List.mem_append.1 hc2 with hc2 | hc2
              · exact HP.out c2 hc2
              · rw [List.mem_singleton.1 hc2, HIE.out]
                exact Int.natCast_nonneg y
            · rw [HS.out]
              simp only [rdStep32, HIE.out, Int.toNat_natCast, HME.out, if_neg (show ¬ 8 ≤ h + 5 by omega)]
            · rw [HS.out]
              simp only [rdStep32, HIE.out, Int.toNat_natCast, HME.out, if_neg (show ¬ 8 ≤ h + 5 by omega)]
              exact HR1.out m' (h + 5)
      case done =>
        rintro D ys _ hD rfl ⟨hall, v, x0, rfl, hr⟩ hK
        obtain ⟨A, ca, rfl⟩ := rowB_form hr
        obtain ⟨o, ho⟩ : ∃ o, (rd32 l.reverse).2.2 = o := ⟨_, rfl⟩
        have HO := Lib.hid ho
        have hol : o.length ≤ 1000000 := by have := (rd32_bounds l.reverse).2.2; rw [ho, List.length_reverse] at this; omega
        rw [ho] at hr hK ⊢
        clear ho
        generalize (rd32 l.reverse).1 = n at *
        generalize (rd32 l.reverse).2.1 = h at *
        have hD' : g + 5 ≤ D := by simp only [World.size_alloc] at hD; omega
        clear hD
        have HK := Lib.hid hK
        have HR := Lib.hid hr
        have HALL := Lib.hid hall
        clear hK hall
        have hconv := rowB_str (P := Tryd.prog) (src := 22) (dst := 9) Tryd.underlying22 Tryd.underlying5 Tryd.underlying9 hr
        clear hr
        have c8 : (plus (gBase U l.reverse t32L (.slice A o.length ca) n h) x0).cell? ⟨g, 0, none⟩ = some (.slice A o.length ca) := by rw [← hge]; exact gBase_cell8 U _ _ _ n h x0
        have c4 := (gBase_cellOld U l.reverse t32L (.slice A o.length ca) n h x0 q 0 (by omega)).trans (show U.cell? ⟨q, 0, none⟩ = some (.string ⟨#[]⟩) by simp only [World.cell?, hc4U]; rfl)
        have c5 := (gBase_cellOld U l.reverse t32L (.slice A o.length ca) n h x0 (q + 1) 0 (by omega)).trans (show U.cell? ⟨q + 1, 0, none⟩ = some (.bool false) by simp only [World.cell?, hc5U]; rfl)
        have f4 : (plus (gBase U l.reverse t32L (.slice A o.length ca) n h) x0).frozen? ⟨q, 0, none⟩ = false := by
          rw [frozen?_plus (gBase_has U _ _ _ _ _ _ (by simp only; omega)), World.frozen?_of_block (gBase_old U _ _ _ _ _ q (by omega))]
          simp only [World.frozen?, hc4U]
          rfl
        have f5 : (plus (gBase U l.reverse t32L (.slice A o.length ca) n h) x0).frozen? ⟨q + 1, 0, none⟩ = false := by
          rw [frozen?_plus (gBase_has U _ _ _ _ _ _ (by simp only; omega)), World.frozen?_of_block (gBase_old U _ _ _ _ _ (q + 1) (by omega))]
          simp only [World.frozen?, hc5U]
          rfl
        have hbW : Below w.heap.size w (plus (gBase U l.reverse t32L (.slice A o.length ca) n h) x0) := by
          refine HBU.out.trans ?_
          have := HQE.out
          have := HGE.out
          unfold gBase
          refine Below.plus ?_ (by simp; omega) _
          exact ((((((Below.refl _ _).alloc (by omega) _).alloc (by simp; omega) _).alloc (by simp; omega) _).alloc (by simp; omega) _).alloc (by simp; omega) _)
        obtain ⟨W, hW⟩ : ∃ W, plus (gBase U l.reverse t32L (.slice A o.length ca) n h) x0 = W := ⟨_, rfl⟩
        rw [hW] at hconv c8 c4 c5 f4 f5 hbW ⊢
        have HKW := Lib.hid (show W.heap[D]? = some (.deferred (some [])) by rw [← hW]; exact HK.out)
        have HRW := Lib.hid (show rowB W (g + 5) 5 (.slice A o.length ca) o by rw [← hW]; exact HR.out)
        have HBW := Lib.hid hbW
        clear hW HK HR hbW
        -- where nothing is said
        have hleft : ∀ (tmps : Array Value) (W2 : World) (r : List UInt8) (bb : Bool), tmps[4]?.getD undef = .pointer (some ⟨q, 0, none⟩) → tmps[5]?.getD undef = .pointer (some ⟨q + 1, 0, none⟩) → Below W.heap.size W W2 → getB32N l size = (r, bb) →
            LeavesInM Fence.wide 4 Tryd.prog Tryd.f12 tmps (fun e w' => e = .returned (.tuple #[strV (getB32N l size).1, .bool (getB32N l size).2]) ∧ Below w.heap.size w w') [{ target := .collected D, args := #[] }] .returning ((W2.setCell ⟨q, 0, none⟩ (strV r)).setCell ⟨q + 1, 0, none⟩ (.bool bb)) := by
          intro tmps W2 r bb t4 t5 hb2 hget
          have hqW : q + 1 < W.heap.size := by
            have := HKW.out
            have := (Array.getElem?_eq_some_iff.1 this).1
            omega
          have hk : ∀ k, q + 1 < k → k < W.heap.size → ((W2.setCell ⟨q, 0, none⟩ (strV r)).setCell ⟨q + 1, 0, none⟩ (.bool bb)).heap[k]? = W.heap[k]? := fun k h1 h2 => by
            simp only [World.setCell, Array.getElem?_modify]
            rw [if_neg (by omega), if_neg (by omega)]
            exact hb2.block k h2
          refine leave_two (w := w) (q := q) (r := r) (b := bb) (by omega) (by have := HQE.out; omega) ?_ ?_ ?_ ?_ t4 t5 (fun w' hw' => by rw [hget]; exact ⟨rfl, hw'⟩)
          · rw [setCell_far _ _ _ _ (by simp)]
            have : W2.cell? ⟨q, 0, none⟩ = some (strV []) := (World.cell?_of_block (hb2.block q (by omega))).trans c4
            exact cell_set this _
          · have : (W2.setCell ⟨q, 0, none⟩ (strV r)).cell? ⟨q + 1, 0, none⟩ = some (.bool false) := by
              rw [setCell_far _ _ _ _ (by simp)]
              exact (World.cell?_of_block (hb2.block (q + 1) (by omega))).trans c5
            exact cell_set this _
          · rw [hk D (by omega) (Array.getElem?_eq_some_iff.1 HKW.out).1]
            exact HKW.out
          · have h1 := HBW.out.trans (hb2.mono HBW.out.size)
            exact (h1.setCell (by have := HQE.out; simp only; omega) _).setCell (by have := HQE.out; simp only; omega) _
        have HLEFT := Lib.hid hleft
        clear hleft
        by_cases hsz : (o.length : Int) = size
        · have hsd2 : decide ((o.length : Int) = size) = true := by simp [hsz]
          gi_wp2
          refine ⟨trivial, ?_⟩
          refine (callsIn_wide.2 (b32_any o W hol).below).mono ?_
          rintro _ w2 ⟨rfl, hb2⟩
          have hgW : g < W.heap.size := by
            have := (Array.getElem?_eq_some_iff.1 HKW.out).1
            omega
          have k4 : w2.cell? ⟨q, 0, none⟩ = some (.string ⟨#[]⟩) := (World.cell?_of_block (hb2.block q (by omega))).trans c4
          have k5 : w2.cell? ⟨q + 1, 0, none⟩ = some (.bool false) := (World.cell?_of_block (hb2.block (q + 1) (by omega))).trans c5
          have l4 : w2.frozen? ⟨q, 0, none⟩ = false := (World.frozen?_of_block (hb2.block q (by omega))).trans f4
          have l5 : w2.frozen? ⟨q + 1, 0, none⟩ = false := (World.frozen?_of_block (hb2.block (q + 1) (by omega))).trans f5
          have k8 : w2.cell? ⟨g, 0, none⟩ = some (.slice A o.length ca) := (World.cell?_of_block (hb2.block g hgW)).trans c8
          have hrow2 := rowB_kept HRW.out hb2
          have hconv2 := rowB_str (P := Tryd.prog) (src := 22) (dst := 9) Tryd.underlying22 Tryd.underlying5 Tryd.underlying9 hrow2
          have HB2 := Lib.hid hb2
          clear hb2 hrow2
          by_cases he : b32N o = l
          · rw [he]
            obtain ⟨V1, hV1⟩ : ∃ V1, w2.setCell ⟨q, 0, none⟩ (strV o) = V1 := ⟨_, rfl⟩
            have d5 : V1.cell? ⟨q + 1, 0, none⟩ = some (.bool false) := by rw [← hV1, setCell_far _ _ _ _ (by simp)]; exact k5
            have e5 : V1.frozen? ⟨q + 1, 0, none⟩ = false := by rw [← hV1, World.frozen?_setCell]; exact l5
            gi_wp2
            rw [← hV1]
            refine HLEFT.out _ w2 o true rfl rfl HB2.out ?_
            unfold getB32N
            rw [HO.out, if_pos ⟨HZ.out.1, HZ.out.2, fun c hc => HALL.out c (List.mem_reverse.2 hc), hsz, he⟩]
          · have hne : (b32N o == l) = false := by simp [he]
            obtain ⟨V1, hV1⟩ : ∃ V1, w2.setCell ⟨q, 0, none⟩ (.string ⟨#[]⟩) = V1 := ⟨_, rfl⟩
            have d5 : V1.cell? ⟨q + 1, 0, none⟩ = some (.bool false) := by rw [← hV1, setCell_far _ _ _ _ (by simp)]; exact k5
            have e5 : V1.frozen? ⟨q + 1, 0, none⟩ = false := by rw [← hV1, World.frozen?_setCell]; exact l5
            gi_wp2
            rw [← hV1]
            refine HLEFT.out _ w2 [] false rfl rfl HB2.out ?_
            unfold getB32N
            rw [if_neg (fun h => he (by have := h.2.2.2.2; rw [HO.out] at this; exact this))]
        · have hsd : ((o.length : Int) == size) = false := by simp [hsz]
          have hsd2 : decide ((o.length : Int) = size) = false := by simp [hsz]
          obtain ⟨V1, hV1⟩ : ∃ V1, W.setCell ⟨q, 0, none⟩ (.string ⟨#[]⟩) = V1 := ⟨_, rfl⟩
          have d5 : V1.cell? ⟨q + 1, 0, none⟩ = some (.bool false) := by rw [← hV1, setCell_far _ _ _ _ (by simp)]; exact c5
          have e5 : V1.frozen? ⟨q + 1, 0, none⟩ = false := by rw [← hV1, World.frozen?_setCell]; exact f5
          gi_wp2
          refine ⟨trivial, ?_⟩
          gi_wp2
          rw [← hV1]
          refine HLEFT.out _ W [] false rfl rfl (Below.refl _ _) ?_
          unfold getB32N
          rw [if_neg (fun h => hsz (by have := h.2.2.2.1; rw [HO.out] at this; exact this))]
      case stop =>
        rintro D c2 pre _ hD ⟨k, rfl⟩ ⟨rfl, ⟨c0, hc0, hneg⟩, v, n, h, x0, rfl⟩ hK
        have hD' : g + 5 ≤ D := by simp only [World.size_alloc] at hD; omega
        clear hD
        have HK := Lib.hid hK
        clear hK
        gi_wp2
        have e4 : (U.setCell ⟨q, 0, none⟩ (.string ⟨#[]⟩)).heap.size = U.heap.size := by simp [World.setCell]
        have e5 : ((U.setCell ⟨q, 0, none⟩ (.string ⟨#[]⟩)).setCell ⟨q + 1, 0, none⟩ (.bool false)).heap.size = U.heap.size := by simp [World.setCell]
        refine leave_two (w := w) (q := q) (r := []) (b := false) (by omega) (by have := HQE.out; omega) ?_ ?_ HK.out ?_ rfl rfl (fun w' hw' => ?_)
        · rw [gBase_cellOld _ _ _ _ _ _ _ _ _ (by omega), setCell_far _ _ _ _ (by simp)]
          exact cell_set (show U.cell? ⟨q, 0, none⟩ = some (.string ⟨#[]⟩) by simp only [World.cell?, hc4U]; rfl) _
        · rw [gBase_cellOld _ _ _ _ _ _ _ _ _ (by omega)]
          exact cell_set (u := .bool false) (by rw [setCell_far _ _ _ _ (by simp)]; simp only [World.cell?, hc5U]; rfl) _
        · have := HQE.out
          have := HGE.out
          have h1 : Below w.heap.size w ((U.setCell ⟨q, 0, none⟩ (.string ⟨#[]⟩)).setCell ⟨q + 1, 0, none⟩ (.bool false)) := (HBU.out.setCell (by simp only; omega) _).setCell (by simp only; omega) _
          refine h1.trans ?_
          unfold gBase
          refine Below.plus ?_ (by simp only [World.size_alloc, e5]; omega) _
          exact ((((((Below.refl _ _).alloc (by simp only [e5]; omega) _).alloc (by simp only [World.size_alloc, e5]; omega) _).alloc (by simp only [World.size_alloc, e5]; omega) _).alloc (by simp only [World.size_alloc, e5]; omega) _).alloc (by simp only [World.size_alloc, e5]; omega) _)
        · have : getB32N l size = ([], false) := by
            unfold getB32N
            rw [if_neg (fun h' => by
              have := h'.2.2.1 c0 (List.mem_reverse.1 (List.mem_of_mem_take hc0))
              omega)]
          rw [this]
          exact ⟨rfl, hw'⟩
end Go.Proofs.YtalanaongfnndaaDoor

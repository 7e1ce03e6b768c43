/- Walks: a disk in memory, and what only looks at it. -/
import Derived.Test.YtojgfaichkcmpaaRowB
import Derived.Test.YtojgfaichkcmpaaSetRow
import Derived.Test.YtojgfaichkcmpaaShelf
namespace Go.Proofs.Ytojgfaichkcmpaa
open Go.RowKit

theorem mixed : Try.prog.follows .mixedOrders = true := by kernel_rfl
attribute [go_sem] cell?_plus frozen?_plus shape?_plus setCell_plus plus_drew drew_plus tape_plus size_plus has_alloc has_plus_iff has_setCell has_drew cell?_alloc_has frozen?_alloc_has setCell_alloc_has headOp headAt headUpon isAlloc
/-- A disk as a value. -/
structure DS where
  firm : List (List UInt8)
  loose : List (Nat × List UInt8)
  down : Bool
  fuse : Int
def strsV (l : List (List UInt8)) : Array Value := (l.map fun s => strV s).toArray
def loosV (l : List (Nat × List UInt8)) : List Value := l.flatMap fun x => [.int .i64 (x.1 : Int), strV x.2]
theorem strsV_get {l : List (List UInt8)} {j : Nat} (h : j < l.length) : (strsV l)[j]? = some (strV (l.getD j [])) := by simp [strsV, h]
theorem strsV_set (l : List (List UInt8)) (j : Nat) (s : List UInt8) : (strsV l).setIfInBounds j (strV s) = strsV (l.set j s) := by simp [strsV]
theorem strsV_size (l : List (List UInt8)) : (strsV l).size = l.length := by simp [strsV]
/-- A disk in memory: its own block, its sectors' block, its loose writes' row. -/
structure DiskAt (W : World) (p f : Nat) (lv : Value) (S : DS) : Prop where
  hp : W.heap[p]? = some (.cells #[.slice (some ⟨f, 0, none⟩) S.firm.length S.firm.length, lv, .bool S.down, .int .i64 S.fuse] 51)
  hf : W.heap[f]? = some (.cells (strsV S.firm) 9)
  hl : W.ownsRow 0 54 2 lv S.loose.length (loosV S.loose)
  hn : S.firm.length ≤ 100000
  hm : S.loose.length ≤ 1000000
  hfu : -1 ≤ S.fuse ∧ S.fuse ≤ 9223372036854775807
  hb : ∀ x ∈ S.loose, x.1 < S.firm.length
  hs : (∀ s ∈ S.firm, s.length = 64) ∧ ∀ x ∈ S.loose, x.2.length = 64
theorem ownsRow_elem {w : World} {base e sz n : Nat} {v : Value} {xs : List Value} (h : w.ownsRow base e sz v n xs) {g : Nat} (hg : v.ownBlock = some g) : ∃ cur, w.heap[g]? = some (.cells cur e (0, 0)) := by
  rcases h.2 with ⟨rfl, _⟩ | ⟨g', cap, cur, rfl, _, h2, _⟩
  · cases hg
  · cases hg
    exact ⟨cur, h2⟩
theorem DiskAt.pf {W : World} {p f : Nat} {lv : Value} {S : DS} (h : DiskAt W p f lv S) : p ≠ f := fun e => by
  have h1 := h.hp
  rw [e, h.hf] at h1
  simp at h1
theorem DiskAt.pl {W : World} {p f : Nat} {lv : Value} {S : DS} (h : DiskAt W p f lv S) : lv.ownBlock ≠ some p := fun e => by
  obtain ⟨cur, h1⟩ := ownsRow_elem h.hl e
  rw [h.hp] at h1
  simp at h1
theorem DiskAt.fl {W : World} {p f : Nat} {lv : Value} {S : DS} (h : DiskAt W p f lv S) : lv.ownBlock ≠ some f := fun e => by
  obtain ⟨cur, h1⟩ := ownsRow_elem h.hl e
  rw [h.hf] at h1
  simp at h1
abbrev ptr (p : Nat) : Value := .pointer (some ⟨p, 0, none⟩)
/-- What the walks ask of a disk's block. -/
theorem DiskAt.cells {W : World} {p f : Nat} {lv : Value} {S : DS} (h : DiskAt W p f lv S) :
    W.cell? ⟨p, 0, none⟩ = some (.slice (some ⟨f, 0, none⟩) S.firm.length S.firm.length) ∧ W.cell? ⟨p, 1, none⟩ = some lv ∧ W.cell? ⟨p, 2, none⟩ = some (.bool S.down) ∧ W.cell? ⟨p, 3, none⟩ = some (.int .i64 S.fuse) ∧ (∀ j, W.frozen? ⟨p, j, none⟩ = false) := by
  refine ⟨?_, ?_, ?_, ?_, fun j => ?_⟩
  · simp [World.cell?, h.hp]
  · simp [World.cell?, h.hp]
  · simp [World.cell?, h.hp]
  · simp [World.cell?, h.hp]
  · simp [World.frozen?, h.hp]
theorem DiskAt.form {W : World} {p f : Nat} {lv : Value} {S : DS} (h : DiskAt W p f lv S) : ∃ A c, lv = .slice A S.loose.length c := by
  rcases h.hl.2 with ⟨rfl, h0⟩ | ⟨g, cap, cur, rfl, _⟩
  · exact ⟨none, 0, by rw [h0]⟩
  · exact ⟨_, _, rfl⟩

theorem len_any {W : World} {p f : Nat} {lv : Value} {S : DS} (h : DiskAt W p f lv S) : Calls Try.prog 22 #[ptr p] W fun e w' => e = .returned (.int .i64 (S.firm.length : Int)) ∧ w' = W := by
  obtain ⟨c0, c1, c2, c3, hf⟩ := h.cells
  go_enter Try.func22, Try.ntmps22
  go_wp2_with fail
  exact bodyPost_ret (v := .int .i64 (S.firm.length : Int)) (by simp [results, Try.results22, go_sem]) rfl ⟨rfl, rfl⟩
theorem loose_any {W : World} {p f : Nat} {lv : Value} {S : DS} (h : DiskAt W p f lv S) : Calls Try.prog 18 #[ptr p] W fun e w' => e = .returned (.int .i64 (S.loose.length : Int)) ∧ w' = W := by
  obtain ⟨c0, c1, c2, c3, hf⟩ := h.cells
  obtain ⟨A, c, hlv⟩ := h.form
  rw [hlv] at c1
  clear hlv
  go_enter Try.func18, Try.ntmps18
  go_wp2_with fail
  exact bodyPost_ret (v := .int .i64 (S.loose.length : Int)) (by simp [results, Try.results18, go_sem]) rfl ⟨rfl, rfl⟩
theorem has_any {W : World} {p f : Nat} {lv : Value} {S : DS} (h : DiskAt W p f lv S) (i : Int) : Calls Try.prog 25 #[ptr p, .int .i64 i] W fun e w' => e = .returned (.bool (decide (0 ≤ i ∧ i < S.firm.length))) ∧ w' = W := by
  obtain ⟨c0, c1, c2, c3, hf⟩ := h.cells
  by_cases h0 : 0 ≤ i
  · have hd : decide (0 ≤ i) = true := by simp [h0]
    go_enter Try.func25, Try.ntmps25
    go_wp2_with fail
    exact bodyPost_ret (v := .bool (decide (0 ≤ i ∧ i < S.firm.length))) (by simp [results, Try.results25, go_sem, h0]) rfl ⟨rfl, rfl⟩
  · have hd : decide (0 ≤ i) = false := by simp [h0]
    go_enter Try.func25, Try.ntmps25
    go_wp2_with fail
    exact bodyPost_ret (v := .bool false) (by simp [results, Try.results25, go_sem]) rfl ⟨by simp, rfl⟩
/-- What a change of a disk leaves. -/
structure Changed (W W' : World) (p f : Nat) (lv lv' : Value) : Prop where
  os : W'.os = W.os
  tape : W'.tape = W.tape
  output : W'.output = W.output
  size : W.heap.size ≤ W'.heap.size
  block : ∀ k, k < W.heap.size → k ≠ p → k ≠ f → lv.ownBlock ≠ some k → W'.heap[k]? = W.heap[k]?
  own : ∀ k, lv'.ownBlock = some k → lv.ownBlock = some k ∨ W.heap.size ≤ k
theorem Changed.refl (W : World) (p f : Nat) (lv : Value) : Changed W W p f lv lv := ⟨rfl, rfl, rfl, Nat.le_refl _, fun _ _ _ _ _ => rfl, fun _ h => .inl h⟩
theorem ownsRow_same {w w' : World} {base e sz n : Nat} {v : Value} {xs : List Value} (h : w.ownsRow base e sz v n xs) (hk : ∀ g, v.ownBlock = some g → w'.heap[g]? = w.heap[g]?) : w'.ownsRow base e sz v n xs := by
  refine ⟨h.1, ?_⟩
  rcases h.2 with h0 | ⟨g, cap, cur, rfl, h1, h2, h3⟩
  · exact .inl h0
  · exact .inr ⟨g, cap, cur, rfl, h1, (hk g rfl).trans h2, h3⟩
theorem setCell_block {W : World} {b e : Nat} {cs : Array Value} {fr : Nat × Nat} (h : W.heap[b]? = some (.cells cs e fr)) (j : Nat) (v : Value) : (W.setCell ⟨b, j, none⟩ v).heap[b]? = some (.cells (cs.setIfInBounds j v) e fr) := by
  have hs := setRow_same h
  conv => lhs; rw [← hs]
  rw [setRow_setCell]
  exact setRow_heap h
theorem setCell_other (W : World) (b j k : Nat) (v : Value) (h : k ≠ b) : (W.setCell ⟨b, j, none⟩ v).heap[k]? = W.heap[k]? := Below.heap_setCell W ⟨b, j, none⟩ v k h
theorem setCell_size (W : World) (a : Addr) (v : Value) : (W.setCell a v).heap.size = W.heap.size := by simp [World.setCell]
theorem DiskAt.lt {W : World} {p f : Nat} {lv : Value} {S : DS} (h : DiskAt W p f lv S) : p < W.heap.size ∧ f < W.heap.size := ⟨(Array.getElem?_eq_some_iff.1 h.hp).1, (Array.getElem?_eq_some_iff.1 h.hf).1⟩
/-- The disk's own block turned. -/
theorem DiskAt.turn {W : World} {p f : Nat} {lv : Value} {S : DS} (h : DiskAt W p f lv S) (j : Nat) (v : Value) (T : DS) (hfirm : T.firm = S.firm) (hloose : T.loose = S.loose) (hfu : -1 ≤ T.fuse ∧ T.fuse ≤ 9223372036854775807)
    (hc : (#[.slice (some ⟨f, 0, none⟩) S.firm.length S.firm.length, lv, .bool S.down, .int .i64 S.fuse] : Array Value).setIfInBounds j v = #[.slice (some ⟨f, 0, none⟩) S.firm.length S.firm.length, lv, .bool T.down, .int .i64 T.fuse]) :
    DiskAt (W.setCell ⟨p, j, none⟩ v) p f lv T ∧ Changed W (W.setCell ⟨p, j, none⟩ v) p f lv lv := by
  refine ⟨⟨?_, ?_, ?_, hfirm ▸ h.hn, hloose ▸ h.hm, hfu, by rw [hloose, hfirm]; exact h.hb, by rw [hloose, hfirm]; exact h.hs⟩, ⟨rfl, rfl, rfl, by rw [setCell_size]; omega, fun k _ hk _ _ => setCell_other W p j k v hk, fun k hk => .inl hk⟩⟩
  · rw [setCell_block h.hp, hc, hfirm]
  · rw [setCell_other W p j f v (Ne.symm h.pf), h.hf, hfirm]
  · rw [hloose]
    exact ownsRow_same h.hl fun g hg => setCell_other W p j g v (fun e => h.pl (e ▸ hg))

theorem fuse_any {W : World} {p f : Nat} {lv : Value} {S : DS} (h : DiskAt W p f lv S) (n : Int) (hn : n ≤ 9223372036854775807) : Calls Try.prog 14 #[ptr p, .int .i64 n] W fun e w' => (∃ v, e = .returned v) ∧ DiskAt w' p f lv { S with fuse := max (-1) n } ∧ Changed W w' p f lv lv := by
  obtain ⟨c0, c1, c2, c3, hf⟩ := h.cells
  have ht := h.turn 3 (.int .i64 (max (-1) n)) { S with fuse := max (-1) n } rfl rfl (by simp only []; omega) rfl
  have HT := Lib.hid ht
  clear ht
  go_enter Try.func14, Try.ntmps14
  go_wp2_with fail
  go_end0
  exact ⟨⟨_, rfl⟩, HT.out⟩
/-- What a write does to a disk, and its error. -/
def DS.write (S : DS) (i : Int) (s : List UInt8) : DS × Int :=
  if S.down = true then (S, 7) else if ¬ (0 ≤ i ∧ i < S.firm.length) ∨ s.length ≠ 64 then (S, 1) else if S.fuse = 0 then ({ S with down := true }, 7) else ({ S with loose := S.loose ++ [(i.toNat, s)], fuse := max (-1) (S.fuse - 1) }, 0)
theorem info54 : (Try.prog.info? 54).map (fun i => (i.zero, i.size, i.bytes)) = some (some (.agg #[.int .i64 0, .string ⟨#[]⟩]), 2, 24) := by kernel_rfl
theorem append_where {P : Program} {w w' : World} {t ty e : TypeId} {i : TypeInfo} {z v v' : Value} {base size bytes n m c : Nat} {xs news : List Value} {a : Addr} (ht : P.underlying t = some (.slice e)) (hi : P.info? e = some i) (hz : i.zero = some z)
    (hsize : i.size = size) (hby : i.bytes = bytes) (hown : w.ownsRow base e size v n xs) (hl : news.length = m * size) (hnews : ∀ j u, news[j]? = some u → w.cell? (a.add j) = some u) (h1 : ∀ u ∈ news, u.oneCell' = true)
    (h63 : n + m ≤ 1000000000) (hm : 0 < m) (hbytes : (n + m) * bytes ≤ 140737488355328) (hr : (Builtin.append_ #[t, t] ty #[v, .slice (some a) m c]).run P w = .ok v' w') :
    ∀ k, v'.ownBlock = some k → v.ownBlock = some k ∨ k = w.heap.size := by
  subst hsize
  subst hby
  rcases hown.2 with ⟨rfl, rfl⟩ | ⟨g, cap, cur, rfl, hbg, hg, hnc, hcm, hcs, htake⟩
  · have hr2 := hr.symm.trans (run_append_nil (P := P) w t ty e i z ht hi hz a m c news hl hnews hm (by omega) (by have hb := hbytes; simp only [Nat.zero_add] at hb; omega))
    injection hr2 with e1 _
    subst e1
    intro k hk
    simp only [Value.ownBlock, Option.some.injEq] at hk
    exact .inr hk.symm
  · by_cases hroom : n + m ≤ cap
    · have hfit : n * i.size + news.length ≤ cur.size := by rw [hl, hcs, ← Nat.add_mul]; exact Nat.mul_le_mul_right _ hroom
      have hr2 := hr.symm.trans (run_append_room (P := P) w t ty e i ht hi g n cap cur hg a m c news hl hnews h1 hroom hfit)
      injection hr2 with e1 _
      subst e1
      intro k hk
      exact .inl hk
    · have holds : ∀ j u, xs[j]? = some u → w.cell? ((⟨g, 0, none⟩ : Addr).add j) = some u := hown.cells (g := g) rfl
      have hr2 := hr.symm.trans (run_append_grow (P := P) w t ty e i z ht hi hz ⟨g, 0, none⟩ n cap xs hown.1 holds a m c news hl hnews (by omega) (by omega) (growslice_fits (by omega) hbytes))
      injection hr2 with e1 _
      subst e1
      intro k hk
      simp only [Value.ownBlock, Option.some.injEq] at hk
      exact .inr hk.symm
theorem new_at (W : World) (o : Obj) : (W.alloc o).heap[W.heap.size]? = some o := by simp [World.alloc, -World.alloc_eq]
theorem wpList_appendW {W : World} {ops : Array Oper} {rest : List Oper} {o : Oper} {a : Act} {Q : Exit → Act → World → Prop} (hgd : o.guard = none) (s x : Operand)
    (ho : o.op = .call { callee := .builtin .append, args := #[s, x], argTypes := #[49, 49] }) (v : Value) (l : List (Nat × List UInt8)) (i : Nat) (t : List UInt8) (hs : a.eval s = v)
    (hrow : W.ownsRow 0 54 2 v l.length (loosV l)) (c : Nat) (n : Nat) (hn : n = W.heap.size) (hx : a.eval x = .slice (some ⟨n, 0, none⟩) 1 c) (hlen : l.length ≤ 1000000)
    (h : ∀ v' w', w'.ownsRow 0 54 2 v' (l ++ [(i, t)]).length (loosV (l ++ [(i, t)])) → (W.alloc (.cells #[.int .i64 (i : Int), strV t] 54)).grownBy w' v.ownBlock → (∀ k, v'.ownBlock = some k → v.ownBlock = some k ∨ W.heap.size ≤ k) → wpList Try.prog ops Q rest (a.put o.dst v') w') :
    wpList Try.prog ops Q (o :: rest) a (W.alloc (.cells #[.int .i64 (i : Int), strV t] 54)) := by
  subst hn
  have hinfo := info54
  cases hi : Try.prog.info? 54 with
  | none => rw [hi] at hinfo; cases hinfo
  | some i0 =>
    rw [hi] at hinfo
    simp only [Option.map_some, Option.some.injEq, Prod.mk.injEq] at hinfo
    have hr := World.ownsRow.alloc hrow (.cells #[.int .i64 (i : Int), strV t] 54)
    have hnews : ∀ j u, [Value.int .i64 (i : Int), strV t][j]? = some u → (W.alloc (.cells #[.int .i64 (i : Int), strV t] 54)).cell? ((⟨W.heap.size, 0, none⟩ : Addr).add j) = some u := by
      intro j u hj
      rw [show (⟨W.heap.size, 0, none⟩ : Addr).add j = ⟨W.heap.size, j, none⟩ by unfold Addr.add; split <;> simp_all]
      simp only [World.cell?, new_at]
      simpa using hj
    have hone : ∀ u ∈ [Value.int .i64 (i : Int), strV t], u.oneCell' = true := by
      intro u hu
      simp at hu
      rcases hu with rfl | rfl <;> rfl
    obtain ⟨v', w', hrun, h2, h3, _⟩ := run_append_own (P := Try.prog) (W.alloc (.cells #[.int .i64 (i : Int), strV t] 54)) 0 49 o.type 54 i0 _ 2 24 Try.underlying49 hi hinfo.1 hinfo.2.1 hinfo.2.2 rfl (by omega) v l.length (loosV l) hr ⟨W.heap.size, 0, none⟩ 1 c [.int .i64 (i : Int), strV t] rfl hnews hone (by unfold maxLen; omega) (by omega) (by omega)
    have hwh := append_where Try.underlying49 hi hinfo.1 hinfo.2.1 hinfo.2.2 hr (show [Value.int .i64 (i : Int), strV t].length = 1 * 2 from rfl) hnews hone (by omega) (by omega) (by omega) hrun
    refine wpList_plain hgd fun _ hK => ?_
    unfold Oper.wp execOp
    simp only [ho, resolve, invoke, builtin, Sem.run_bind, Sem.run_pure, Result.andThen_ok, List.map_toArray, List.map_cons, List.map_nil, hs, hx, hrun]
    refine hK _ _ (h v' w' ?_ h3 fun k hk => ?_)
    · have e : loosV (l ++ [(i, t)]) = loosV l ++ [.int .i64 (i : Int), strV t] := by simp [loosV]
      rw [e, List.length_append]
      exact h2
    · rcases hwh k hk with h4 | h4
      · exact .inl h4
      · exact .inr (by rw [h4]; simp)
end Go.Proofs.Ytojgfaichkcmpaa

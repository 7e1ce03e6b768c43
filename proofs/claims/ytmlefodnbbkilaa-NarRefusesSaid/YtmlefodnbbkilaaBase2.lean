/- (Beside RowB.) General words for rows of the call's own, blocks, appends. -/
import Derived.Test.YtmlefodnbbkilaaProg
import Derived.Test.YtmlefodnbbkilaaPlus
import Derived.Test.YtmlefodnbbkilaaSetRow
import Derived.Test.YtmlefodnbbkilaaRowB
import Derived.Below
import Derived.WalkKit
import Derived.Laws.AppendOwn
import Derived.Laws.OwnMore
import Derived.Lib.Hide
import Derived.Lib.SliceRun
import Derived.Outline
namespace Go.Proofs.Ytmlefodnbbkilaa
open Go.RowKit

theorem mixed : Try.prog.follows .mixedOrders = true := by kernel_rfl
attribute [go_sem] cell?_plus frozen?_plus shape?_plus setCell_plus plus_drew drew_plus tape_plus size_plus has_alloc has_plus_iff has_setCell has_drew cell?_alloc_has frozen?_alloc_has setCell_alloc_has headOp headAt headUpon isAlloc
theorem new_at (W : World) (o : Obj) : (W.alloc o).heap[W.heap.size]? = some o := by simp [World.alloc, -World.alloc_eq]
theorem ownsRow_elem {w : World} {base e sz n : Nat} {v : Value} {xs : List Value} (h : w.ownsRow base e sz v n xs) {g : Nat} (hg : v.ownBlock = some g) : ∃ cur, w.heap[g]? = some (.cells cur e (0, 0)) := by
  rcases h.2 with ⟨rfl, _⟩ | ⟨g', cap, cur, rfl, _, h2, _⟩
  · cases hg
  · cases hg
    exact ⟨cur, h2⟩
theorem ownsRow_same {w w' : World} {base e sz n : Nat} {v : Value} {xs : List Value} (h : w.ownsRow base e sz v n xs) (hk : ∀ g, v.ownBlock = some g → w'.heap[g]? = w.heap[g]?) : w'.ownsRow base e sz v n xs := by
  refine ⟨h.1, ?_⟩
  rcases h.2 with h0 | ⟨g, cap, cur, rfl, h1, h2, h3⟩
  · exact .inl h0
  · exact .inr ⟨g, cap, cur, rfl, h1, (hk g rfl).trans h2, h3⟩
theorem setCell_block {W : World} {b e : Nat} {cs : Array Value} {fr : Nat × Nat} (h : W.heap[b]? = some (.cells cs e fr)) (j : Nat) (v : Value) : (W.setCell ⟨b, j, none⟩ v).heap[b]? = some (.cells (cs.setIfInBounds j v) e fr) := by
  have hs := setRow_same h
  conv => lhs; rw [← hs]
  rw [setRow_setCell]
  exact setRow_heap h
theorem setCell_other (W : World) (b j k : Nat) (v : Value) (h : k ≠ b) : (W.setCell ⟨b, j, none⟩ v).heap[k]? = W.heap[k]? := Below.heap_setCell W ⟨b, j, none⟩ v k h
theorem setCell_size (W : World) (a : Addr) (v : Value) : (W.setCell a v).heap.size = W.heap.size := by simp [World.setCell]
theorem ownsRow_form {w : World} {base e sz n : Nat} {v : Value} {xs : List Value} (h : w.ownsRow base e sz v n xs) : ∃ A c, v = .slice A n c := by
  rcases h.2 with ⟨rfl, h0⟩ | ⟨g, cap, cur, rfl, _⟩
  · exact ⟨none, 0, by rw [h0]⟩
  · exact ⟨_, _, rfl⟩
theorem keeps_below {W W' : World} {X : Nat} {o : Obj} (hX : W.heap[X]? = some o) (hb : Below W.heap.size W W') : W'.heap[X]? = some o := (hb.block X (Array.getElem?_eq_some_iff.1 hX).1).trans hX
theorem append_where {P : Program} {w w' : World} {t ty e : TypeId} {i : TypeInfo} {z v v' : Value} {base size bytes n m c : Nat} {xs news : List Value} {a : Addr} (ht : P.underlying t = some (.slice e)) (hi : P.info? e = some i) (hz : i.zero = some z)
    (hsize : i.size = size) (hby : i.bytes = bytes) (hown : w.ownsRow base e size v n xs) (hl : news.length = m * size) (hnews : ∀ j u, news[j]? = some u → w.cell? (a.add j) = some u) (h1 : ∀ u ∈ news, u.oneCell' = true)
    (h63 : n + m ≤ 1000000000) (hm : 0 < m ∨ v ≠ .slice none 0 0) (hbytes : (n + m) * bytes ≤ 140737488355328) (hr : (Builtin.append_ #[t, t] ty #[v, .slice (some a) m c]).run P w = .ok v' w') :
    ∀ k, v'.ownBlock = some k → v.ownBlock = some k ∨ k = w.heap.size := by
  subst hsize
  subst hby
  rcases hown.2 with ⟨rfl, rfl⟩ | ⟨g, cap, cur, rfl, hbg, hg, hnc, hcm, hcs, htake⟩
  · have hr2 := hr.symm.trans (run_append_nil (P := P) w t ty e i z ht hi hz a m c news hl hnews (hm.resolve_right fun h => h rfl) (by omega) (by have hb := hbytes; simp only [Nat.zero_add] at hb; omega))
    injection hr2 with e1 _
    subst e1
    intro k hk
    simp only [Value.ownBlock, Option.some.injEq] at hk
    exact .inr hk.symm
  · by_cases hroom : n + m ≤ cap
    · have hfit : n * i.size + news.length ≤ cur.size := by rw [hl, hcs, ← Nat.add_mul]; exact Nat.mul_le_mul_right _ hroom
      have hr2 := hr.symm.trans (run_append_room (P := P) w t ty e i ht hi g n cap cur hg a m c news hl hnews h1 hroom hfit)
      injection hr2 with e1 _
      subst e1
      intro k hk
      exact .inl hk
    · have holds : ∀ j u, xs[j]? = some u → w.cell? ((⟨g, 0, none⟩ : Addr).add j) = some u := hown.cells (g := g) rfl
      have hr2 := hr.symm.trans (run_append_grow (P := P) w t ty e i z ht hi hz ⟨g, 0, none⟩ n cap xs hown.1 holds a m c news hl hnews (by omega) (by omega) (growslice_fits (by omega) hbytes))
      injection hr2 with e1 _
      subst e1
      intro k hk
      simp only [Value.ownBlock, Option.some.injEq] at hk
      exact .inr hk.symm
/-- An append of what lies anywhere, to a row of the call's own. -/
theorem wpList_appendAt {W : World} {ops : Array Oper} {rest : List Oper} {o : Oper} {a : Act} {Q : Exit → Act → World → Prop} (hgd : o.guard = none) (s x : Operand) (t e : TypeId)
    (ho : o.op = .call { callee := .builtin .append, args := #[s, x], argTypes := #[t, t] }) (ht : Try.prog.underlying t = some (.slice e)) (z : Value) (sz bs : Nat) (hinfo : (Try.prog.info? e).map (fun i => (i.zero, i.size, i.bytes)) = some (some z, sz, bs)) (hzs : z.cells.size = sz)
    (v : Value) (n : Nat) (xs news : List Value) (m : Nat) (hs : a.eval s = v) (hrow : W.ownsRow 0 e sz v n xs) (ad : Addr) (c : Nat) (hx : a.eval x = .slice (some ad) m c) (hnews : ∀ j u, news[j]? = some u → W.cell? (ad.add j) = some u) (hl : news.length = m * sz) (hone : ∀ u ∈ news, u.oneCell' = true)
    (hsz : 0 < sz) (hm : 0 < m ∨ v ≠ .slice none 0 0) (hmax : n + m ≤ 1000000000) (hby : (n + m) * bs ≤ 140737488355328)
    (h : ∀ v' w', w'.ownsRow 0 e sz v' (n + m) (xs ++ news) → W.grownBy w' v.ownBlock → (∀ k, v'.ownBlock = some k → v.ownBlock = some k ∨ W.heap.size ≤ k) → (v' = .slice none 0 0 ↔ v = .slice none 0 0 ∧ m = 0) → wpList Try.prog ops Q rest (a.put o.dst v') w') :
    wpList Try.prog ops Q (o :: rest) a W := by
  cases hi : Try.prog.info? e with
  | none => rw [hi] at hinfo; cases hinfo
  | some i0 =>
    rw [hi] at hinfo
    simp only [Option.map_some, Option.some.injEq, Prod.mk.injEq] at hinfo
    obtain ⟨v', w', hrun, h2, h3, h5⟩ := run_append_own (P := Try.prog) W 0 t o.type e i0 z sz bs ht hi hinfo.1 hinfo.2.1 hinfo.2.2 hzs hsz v n xs hrow ad m c news hl hnews hone (by unfold maxLen; omega) (by omega) (by omega)
    have hwh := append_where ht hi hinfo.1 hinfo.2.1 hinfo.2.2 hrow hl hnews hone (by omega) hm (by omega) hrun
    refine wpList_plain hgd fun _ hK => ?_
    unfold Oper.wp execOp
    simp only [ho, resolve, invoke, builtin, Sem.run_bind, Sem.run_pure, Result.andThen_ok, List.map_toArray, List.map_cons, List.map_nil, hs, hx, hrun]
    refine hK _ _ (h v' w' h2 h3 (fun k hk => ?_) h5)
    rcases hwh k hk with h4 | h4
    · exact .inl h4
    · exact .inr (Nat.le_of_eq h4.symm)
theorem news_new (W : World) (e : TypeId) (news : List Value) : ∀ j u, news[j]? = some u → (W.alloc (.cells news.toArray e)).cell? ((⟨W.heap.size, 0, none⟩ : Addr).add j) = some u := by
  intro j u hj
  rw [addr_add]
  simp only [World.cell?, new_at]
  simpa using hj
end Go.Proofs.Ytmlefodnbbkilaa

/- Walks: places taken of runs. -/
import Derived.Test.YtbdiombbknmlaaaParts0
namespace Go.Proofs.Ytbdiombbknmlaaa
open Go.RowKit

def stepT (s : List Run × Int) (x : Run) : List Run × Int := if s.2 < 1 then s else (s.1 ++ [(x.1, min s.2 x.2)], s.2 - min s.2 x.2)
def takeS (l : List Run) (n : Int) : List Run × Int := l.foldl stepT ([], n)
theorem takeS_snoc (l : List Run) (x : Run) (n : Int) : takeS (l ++ [x]) n = stepT (takeS l n) x := by simp [takeS]
theorem takeT_stop : ∀ (l : List Run) (s : List Run × Int), s.2 < 1 → l.foldl stepT s = s
  | [], _, _ => rfl
  | x :: l, s, h => by
    have e : stepT s x = s := if_pos h
    rw [List.foldl_cons, e]
    exact takeT_stop l s h
theorem takeS_stop (l : List Run) (n : Int) (k : Nat) (h : (takeS (l.take k) n).2 < 1) : takeS l n = takeS (l.take k) n := by
  conv => lhs; rw [← List.take_append_drop k l]
  unfold takeS
  rw [List.foldl_append]
  exact takeT_stop _ _ h
theorem takeT_bound : ∀ (l : List Run) (s : List Run × Int), (∀ x ∈ l, 1 ≤ x.2) → (l.foldl stepT s).2 ≤ s.2 ∧ (0 ≤ s.2 → 0 ≤ (l.foldl stepT s).2) ∧ (s.2 < 0 → (l.foldl stepT s).2 = s.2) ∧ (l.foldl stepT s).1.length ≤ s.1.length + l.length
  | [], s, _ => by simp
  | x :: l, s, h => by
    have hx := h x (by simp)
    have ih := takeT_bound l (stepT s x) (fun y hy => h y (List.mem_cons_of_mem _ hy))
    simp only [List.foldl_cons, List.length_cons]
    by_cases h1 : s.2 < 1
    · have e : stepT s x = s := if_pos h1
      rw [e] at ih ⊢
      omega
    · have e : stepT s x = (s.1 ++ [(x.1, min s.2 x.2)], s.2 - min s.2 x.2) := if_neg h1
      rw [e] at ih ⊢
      simp only [List.length_append, List.length_cons, List.length_nil] at ih ⊢
      omega
def fitsN (L : List Run) (n : Int) : Bool := decide ((takeS L n).2 < 1)
def tookN (L : List Run) (n : Int) : List Run := if (takeS L n).2 < 1 then (takeS L n).1 else []
theorem took_yes {L : List Run} {n m : Int} {out : List Run} (h : takeS L n = (out, m)) (hp : m < 1) : fitsN L n = true ∧ tookN L n = out := by simp [fitsN, tookN, h, hp]
theorem took_no {L : List Run} {n m : Int} {out : List Run} (h : takeS L n = (out, m)) (hp : ¬ m < 1) : fitsN L n = false ∧ tookN L n = [] := by simp only [fitsN, tookN, h]; simp [hp]
theorem realN_pos (l : List Run) : ∀ x ∈ realN l, 1 ≤ x.2 := fun x hx => by simpa using (List.mem_filter.1 hx).2
set_option maxRecDepth 100000 in
set_option maxHeartbeats 1000000 in
theorem take_any (W : World) (v : Value) (l : List Run) (n : Int) (h : RIn W v l) (hl : l.length ≤ 100000) (hn : -1000000000 ≤ n ∧ n ≤ 1000000000) :
    Calls Try.prog 9 #[v, .int .i64 n] W fun e w' => ∃ v', e = .returned (.tuple #[v', .bool (fitsN (realN l) n)]) ∧ RR W w' v' (tookN (realN l) n) := by
  have HC := Lib.hid (real_any W v l h (by omega))
  have hrl : (realN l).length ≤ l.length := List.length_filter_le _ _
  have HP := Lib.hid (realN_pos l)
  clear h
  obtain ⟨L, hL⟩ : ∃ L, realN l = L := ⟨_, rfl⟩
  rw [hL] at HC HP hrl ⊢
  clear hL
  go_enter Try.func9, Try.ntmps9
  go_wp2_with fail
  refine HC.out.mono ?_
  rintro _ V ⟨v1, rfl, hR⟩
  obtain ⟨A, c, rfl⟩ := hR.form
  have HR := Lib.hid hR
  clear hR HC
  have hLl : L.length ≤ 100000 := by omega
  clear hrl hl
  go_wp2_with fail
  rename_i K hK
  have HKK := Lib.hid hK
  clear hK
  go_loopw [1, 6, 13] (fun m u z wr => ∃ k : Nat, k ≤ L.length ∧ z = .int .i64 k ∧ m = .int .i64 (takeS (L.take k) n).2 ∧ Hid (RR W wr u (takeS (L.take k) n).1) ∧ Hid (RR W wr (.slice A L.length c) L) ∧ Hid (∀ j, (Value.slice A L.length c).ownBlock = some j → u.ownBlock ≠ some j)) (fun _ _ z _ => L.length - (intOf z).toNat)
  case atStart => exact ⟨0, by omega, rfl, rfl, ⟨World.ownsRow_nil _ 0 28 2, HR.out.below, fun k hk => by cases hk⟩, HR.out, fun j _ e => by cases e⟩
  case round =>
    clear HR
    obtain ⟨k, hk, rfl, rfl, HU, HA, HN⟩ := hrel
    by_cases hlt : k < L.length
    · have hd : decide ((k : Int) < (L.length : Int)) = true := by simp; omega
      have hA := HA.out
      obtain ⟨x, hx⟩ : ∃ x, L[k]? = some x := ⟨_, List.getElem?_eq_getElem hlt⟩
      have hpos := HP.out x (List.mem_of_getElem? hx)
      have hbd := takeT_bound (L.take k) ([], n) (fun y hy => HP.out y (List.mem_of_mem_take hy))
      have hstep : takeS (L.take (k + 1)) n = stepT (takeS (L.take k) n) x := by
        rw [List.take_succ_eq_append_getElem hlt, takeS_snoc]
        rw [(List.getElem?_eq_some_iff.1 hx).2]
      have hstop := takeS_stop L n k
      obtain ⟨g, rfl, -, g1, g2, g3, -⟩ := hA.at k x hx
      change (takeS (L.take k) n).2 ≤ n ∧ (0 ≤ n → 0 ≤ (takeS (L.take k) n).2) ∧ (n < 0 → (takeS (L.take k) n).2 = n) ∧ (takeS (L.take k) n).1.length ≤ 0 + (L.take k).length at hbd
      obtain ⟨⟨out, m⟩, hs⟩ : ∃ s, takeS (L.take k) n = s := ⟨_, rfl⟩
      rw [hs] at hstep hbd hstop HU ⊢
      simp only at hbd hstop HU ⊢
      have hln2 : out.length ≤ 100000 := by have := hbd.2.2.2; simp at this; omega
      have hmb : -1000000000 ≤ m ∧ m ≤ 1000000000 := by omega
      have HSTOP := Lib.hid hstop
      clear hs hx hbd hstop
      obtain ⟨x1, x2⟩ := x
      obtain ⟨mn, hmn⟩ : ∃ mn, (if x2 < m then x2 else m) = mn := ⟨_, rfl⟩
      have hmn2 : min m x2 = mn := by rw [← hmn]; split <;> omega
      simp only [stepT, hmn2] at hstep
      simp only at hpos g2 g3
      have hmnb : mn ≤ 1000000000 := by omega
      have hmnb2 : -1000000000 ≤ mn := by omega
      have HST := Lib.hid hstep
      clear hstep hA
      obtain ⟨uA, uc, rfl⟩ := HU.out.form
      have hbox := new_at wr (.cells #[.int .i64 x1, .int .i64 x2] 28)
      have hUB := HU.out.on ((Below.refl _ wr).alloc (Nat.le_refl _) (.cells #[.int .i64 x1, .int .i64 x2] 28))
      have hAB := HA.out.on ((Below.refl _ wr).alloc (Nat.le_refl _) (.cells #[.int .i64 x1, .int .i64 x2] 28))
      by_cases hp : m < 1
      · have dp : decide (m < 1) = true := by simpa using hp
        have HS2 := Lib.hid (HSTOP.out hp)
        have dq : decide (0 < m) = false := by simp; omega
        have HU2 := Lib.hid hUB
        clear hbox hUB hAB hmn hmn2 HST HSTOP
        go_wp2_with fail
        refine HKK.out _ _ ?_
        clear HKK
        go_wp2_with fail
        have hT := took_yes HS2.out hp
        exact bodyPost_ret (v := .tuple #[.slice uA out.length uc, .bool true]) (by simp [results, Try.results9, go_sem]) rfl ⟨.slice uA out.length uc, by rw [hT.1], by rw [hT.2]; exact HU2.out⟩
      · have dp : decide (m < 1) = false := by simpa using hp
        rw [if_neg hp] at HST
        have hone := flatR_one [(x1, mn)]
        have HONE := Lib.hid hone
        have HU2 := Lib.hid hUB
        have HA2 := Lib.hid hAB
        have HBX := Lib.hid hbox
        have HBL : Hid (wr.heap.size < (wr.alloc (.cells #[.int .i64 x1, .int .i64 x2] 28)).heap.size) := Lib.hid (by simp)
        have HNEW := Lib.hid (news_new (wr.alloc (.cells #[.int .i64 x1, .int .i64 x2] 28)) 28 (flatR [(x1, mn)]))
        rw [World.size_alloc] at HNEW
        clear hbox hUB hAB hone HSTOP
        go_wp2_with (at_builtin; go_loud (refine wpList_appendAt rfl _ _ 23 28 rfl Try.underlying23 _ 2 16 info28 rfl (.slice uA out.length uc) out.length (flatR out) (flatR [(x1, mn)]) 1 rfl (World.ownsRow.alloc HU2.out.row _) ⟨wr.heap.size + 1, 0, none⟩ _ rfl HNEW.out rfl HONE.out (by omega) (.inl (by omega)) (by omega) (by omega) ?_); intro v2 w1 hrow1 hg1 hown1 hnl1; clear hnl1; have HU3 := Lib.hid (HU2.out.app [(x1, mn)] hg1 hrow1 hown1); have HA3 := Lib.hid (HA2.out.other HU2.out HN.out hg1); have HN3 := Lib.hid (apart_app HN.out HA2.out hown1); clear hrow1 hg1 hown1; obtain ⟨uA2, uc2, rfl⟩ := HU3.out.form)
        rw [show (out ++ [(x1, mn)]).length = out.length + 1 by simp] at HU3 HN3
        go_roundw
        case rel => exact ⟨k + 1, by omega, by go_num, by rw [HST.out], by rw [HST.out]; exact HU3.out, HA3.out, HN3.out⟩
        case measure => simp [intOf]; omega
    · obtain rfl : k = L.length := by omega
      have hd : decide ((L.length : Int) < (L.length : Int)) = false := by simp
      rw [List.take_length] at HU ⊢
      obtain ⟨⟨out, m⟩, hs⟩ : ∃ s, takeS L n = s := ⟨_, rfl⟩
      rw [hs] at HU ⊢
      simp only at HU ⊢
      have HS := Lib.hid hs
      clear hs
      obtain ⟨uA, uc, rfl⟩ := HU.out.form
      by_cases hp : m < 1
      · have dq : decide (0 < m) = false := by simp; omega
        have hT := Lib.hid (took_yes HS.out hp)
        go_wp2_with fail
        refine HKK.out _ _ ?_
        clear HKK
        go_wp2_with fail
        exact bodyPost_ret (v := .tuple #[.slice uA out.length uc, .bool true]) (by simp [results, Try.results9, go_sem]) rfl ⟨_, by rw [hT.out.1], by rw [hT.out.2]; exact HU.out⟩
      · have dq : decide (0 < m) = true := by simp; omega
        have hT := Lib.hid (took_no HS.out hp)
        have hb := HU.out.below
        go_wp2_with fail
        refine HKK.out _ _ ?_
        clear HKK
        go_wp2_with fail
        exact bodyPost_ret (v := .tuple #[.slice none 0 0, .bool false]) (by simp [results, Try.results9, go_sem]) rfl ⟨_, by rw [hT.out.1], by rw [hT.out.2]; exact ⟨World.ownsRow_nil _ 0 28 2, hb, fun k hk => by cases hk⟩⟩
end Go.Proofs.Ytbdiombbknmlaaa

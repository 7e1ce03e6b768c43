/- Bytes and trees (plain): read again, packed again, cut. -/
import Derived.Test.YtmlefodnbbkilaaPureNar
namespace Go.Proofs.Ytmlefodnbbkilaa
open Pr hiding bind
/-! Nothing grows. -/
def Eats {α : Type} (p : Pr α) : Prop := ∀ x v r, p x = .ok (v, r) → r.length ≤ x.length
def Bites {α : Type} (p : Pr α) : Prop := ∀ x v r, p x = .ok (v, r) → r.length < x.length
theorem Bites.eats {α : Type} {p : Pr α} (h : Bites p) : Eats p := fun x v r e => Nat.le_of_lt (h x v r e)
theorem eats_ret {α : Type} (v : α) : Eats (ret v) := fun x w r h => by
  simp only [ret, Except.ok.injEq, Prod.mk.injEq] at h
  rw [h.2]
  exact Nat.le_refl _
theorem eats_err {α : Type} (e : Int) : Eats (err e : Pr α) := fun x v r h => by cases h
theorem bites_err {α : Type} (e : Int) : Bites (err e : Pr α) := fun x v r h => by cases h
theorem eats_bind {α β : Type} {p : Pr α} {q : α → Pr β} (hp : Eats p) (hq : ∀ v, Eats (q v)) : Eats (Pr.bind p q) := fun x v r h => by
  unfold Pr.bind at h
  split at h
  · cases h
  · rename_i u s hx
    exact Nat.le_trans (hq u _ _ _ h) (hp _ _ _ hx)
theorem bites_bind {α β : Type} {p : Pr α} {q : α → Pr β} (hp : Bites p) (hq : ∀ v, Eats (q v)) : Bites (Pr.bind p q) := fun x v r h => by
  unfold Pr.bind at h
  split at h
  · cases h
  · rename_i u s hx
    exact Nat.lt_of_le_of_lt (hq u _ _ _ h) (hp _ _ _ hx)
theorem text_bites (most : Nat) : Bites (textP most) := fun x v r h => by
  obtain ⟨rfl, -⟩ := textP_back h
  have := strN_len v
  rw [List.length_append]
  omega
theorem one_bites (l : List Bs) : Bites (oneP l) := bites_bind (text_bites _) fun s => by
  split
  · exact eats_ret s
  · exact eats_err 4
theorem must_eats : ∀ (l : List Bs), Eats (mustP l)
  | [] => eats_ret ()
  | s :: l => eats_bind (one_bites [s]).eats fun _ => must_eats l
theorem must_bites (s : Bs) (l : List Bs) : Bites (mustP (s :: l)) := bites_bind (one_bites [s]) fun _ => must_eats l
theorem file_eats : Eats fileP := eats_bind (one_bites _).eats fun s => by
  split
  · exact eats_bind (must_eats _) fun _ => eats_bind (text_bites _).eats fun d => eats_ret _
  · exact eats_bind (text_bites _).eats fun d => eats_ret _
theorem link_eats : Eats linkP := eats_bind (must_eats _) fun _ => eats_bind (text_bites _).eats fun d => by
  split
  · exact eats_err 4
  · exact eats_ret _
theorem name_bites (last : Bs) (deep cnt : Nat) : Bites (nameP last deep cnt) := bites_bind (text_bites _) fun s => by
  split
  · exact eats_err 4
  · exact eats_ret s
theorem node_bites (f : Nat) : (∀ deep cnt, Bites (nodeP f deep cnt)) ∧ ∀ deep last cnt, Bites (dirP f deep last cnt) := by
  induction f with
  | zero => exact ⟨fun _ _ => by simp only [nodeP]; exact bites_err 5, fun _ _ _ => by simp only [dirP]; exact bites_err 5⟩
  | succ f ih =>
    refine ⟨fun deep cnt => ?_, fun deep last cnt => ?_⟩
    · simp only [nodeP]
      refine bites_bind (must_bites _ _) fun _ => eats_bind (one_bites _).eats fun k => ?_
      split
      · exact eats_bind (ih.2 _ _ _).eats fun p => eats_ret _
      · refine eats_bind ?_ fun t => eats_bind (must_eats _) fun _ => eats_ret _
        split
        · exact file_eats
        · exact link_eats
    · simp only [dirP]
      refine bites_bind (one_bites _) fun k => ?_
      split
      · exact eats_ret _
      · exact eats_bind (must_eats _) fun _ => eats_bind (name_bites _ _ _).eats fun nm => eats_bind (must_eats _) fun _ => eats_bind (ih.1 _ _).eats fun p => eats_bind (must_eats _) fun _ => eats_bind (ih.2 _ _ _).eats fun q => eats_ret _
/-! Enough is enough. -/
theorem bind_congr {α β : Type} {p : Pr α} {q q' : α → Pr β} (x : Bs) (h : ∀ v r, p x = .ok (v, r) → q v r = q' v r) : Pr.bind p q x = Pr.bind p q' x := by
  unfold Pr.bind
  split
  · rfl
  · rename_i u s hx
    exact h u s hx
theorem fuel_any (f : Nat) : ∀ g, (∀ deep cnt (x : Bs), x.length < f → x.length < g → nodeP f deep cnt x = nodeP g deep cnt x) ∧ ∀ deep last cnt (x : Bs), x.length < f → x.length < g → dirP f deep last cnt x = dirP g deep last cnt x := by
  induction f with
  | zero => exact fun g => ⟨fun _ _ x h => by omega, fun _ _ _ x h => by omega⟩
  | succ f ih =>
    intro g
    cases g with
    | zero => exact ⟨fun _ _ x _ h => by omega, fun _ _ _ x _ h => by omega⟩
    | succ g =>
      refine ⟨fun deep cnt x h1 h2 => ?_, fun deep last cnt x h1 h2 => ?_⟩
      · simp only [nodeP]
        refine bind_congr x fun _ r1 e1 => bind_congr r1 fun k r2 e2 => ?_
        have l1 := must_bites _ _ _ _ _ e1
        have l2 := one_bites _ _ _ _ e2
        split
        · unfold Pr.bind
          rw [(ih g).2 _ _ _ r2 (by omega) (by omega)]
        · rfl
      · simp only [dirP]
        refine bind_congr x fun k r1 e1 => ?_
        have l1 := one_bites _ _ _ _ e1
        split
        · rfl
        · refine bind_congr r1 fun _ r2 e2 => bind_congr r2 fun nm r3 e3 => bind_congr r3 fun _ r4 e4 => ?_
          have l2 := must_eats _ _ _ _ e2
          have l3 := name_bites _ _ _ _ _ _ e3
          have l4 := must_eats _ _ _ _ e4
          unfold Pr.bind
          rw [(ih g).1 _ _ r4 (by omega) (by omega)]
          split
          · rfl
          · rename_i p r5 e5
            have l5 := (node_bites g).1 _ _ _ _ _ e5
            exact bind_congr r5 fun _ r6 e6 => by
              have l6 := must_eats _ _ _ _ e6
              show Pr.bind _ _ r6 = Pr.bind _ _ r6
              unfold Pr.bind
              rw [(ih g).2 _ _ _ r6 (by omega) (by omega)]
/-! What was read stays, cut it needs more. -/
theorem file_good : Good fileP := good_bind (oneP_good _ (by decide)) fun s => by
  split
  · exact good_bind (mustP_good _ (by decide)) fun _ => good_bind (textP_good _ (by omega)) fun d => good_ret _
  · exact good_bind (textP_good _ (by omega)) fun d => good_ret _
theorem link_good : Good linkP := good_bind (mustP_good _ (by decide)) fun _ => good_bind (textP_good _ (by omega)) fun d => by
  split
  · exact good_err 4
  · exact good_ret _
theorem name_good (last : Bs) (deep cnt : Nat) : Good (nameP last deep cnt) := good_bind (textP_good _ (by omega)) fun s => by
  split
  · exact good_err 4
  · exact good_ret s
theorem node_good (f : Nat) : (∀ deep cnt, Good (nodeP f deep cnt)) ∧ ∀ deep last cnt, Good (dirP f deep last cnt) := by
  induction f with
  | zero => exact ⟨fun _ _ => by simp only [nodeP]; exact good_err 5, fun _ _ _ => by simp only [dirP]; exact good_err 5⟩
  | succ f ih =>
    refine ⟨fun deep cnt => ?_, fun deep last cnt => ?_⟩
    · simp only [nodeP]
      refine good_bind (mustP_good _ (by decide)) fun _ => good_bind (oneP_good _ (by decide)) fun k => ?_
      split
      · exact good_bind (ih.2 _ _ _) fun p => good_ret _
      · refine good_bind ?_ fun t => good_bind (mustP_good _ (by decide)) fun _ => good_ret _
        split
        · exact file_good
        · exact link_good
    · simp only [dirP]
      refine good_bind (oneP_good _ (by decide)) fun k => ?_
      split
      · exact good_ret _
      · exact good_bind (mustP_good _ (by decide)) fun _ => good_bind (name_good _ _ _) fun nm => good_bind (mustP_good _ (by decide)) fun _ => good_bind (ih.1 _ _) fun p => good_bind (mustP_good _ (by decide)) fun _ => good_bind (ih.2 _ _ _) fun q => good_ret _
/-! What is packed is read. -/
theorem bind_ok {α β : Type} {p : Pr α} {q : α → Pr β} {x r : Bs} {v : α} (h : p x = .ok (v, r)) : Pr.bind p q x = q v r := by
  unfold Pr.bind
  rw [h]
theorem must_go (l : List Bs) (r : Bs) (h : ∀ s ∈ l, s.length ≤ 1000) : mustP l (strsN l ++ r) = .ok ((), r) := mustP_str l r h
theorem strsN_cons (s : Bs) (l : List Bs) : strsN (s :: l) = strN s ++ strsN l := by simp [strsN]
theorem strsN_nil : strsN [] = [] := rfl
theorem strsN_app (k l : List Bs) : strsN (k ++ l) = strsN k ++ strsN l := by simp [strsN]
mutual
def msT : Tr → Nat
  | .file _ => 1
  | .exec _ => 1
  | .link _ => 1
  | .dir f => 1 + msF f
def msF : Fo → Nat
  | .nil => 1
  | .cons _ t f => 1 + msT t + msF f
end
mutual
theorem read_T : ∀ (t : Tr) (deep cnt fu : Nat) (r : Bs), okT deep t → cnt + sizeT t ≤ 256 → msT t ≤ fu → nodeP fu deep cnt (packT t ++ r) = .ok ((t, cnt + sizeT t), r)
  | .file d, deep, cnt, 0, r, ok, hc, hf => by simp [msT] at hf
  | .exec d, deep, cnt, 0, r, ok, hc, hf => by simp [msT] at hf
  | .link d, deep, cnt, 0, r, ok, hc, hf => by simp [msT] at hf
  | .dir d, deep, cnt, 0, r, ok, hc, hf => by simp [msT] at hf
  | .file d, deep, cnt, fu + 1, r, ok, hc, hf => by
    simp only [okT] at ok
    have e : packT (.file d) ++ r = strsN [sOpen, sType] ++ (strN sRegular ++ (strN sContents ++ (strN d ++ (strsN [sShut] ++ r)))) := by simp [packT, strsN]
    simp only [nodeP]
    rw [e, bind_ok (must_go [sOpen, sType] _ (by decide)), bind_ok (oneP_str [sRegular, sSymlink, sDirectory] sRegular _ (by decide) (by decide))]
    rw [if_neg (by decide), if_pos (by decide)]
    have e2 : fileP (strN sContents ++ (strN d ++ (strsN [sShut] ++ r))) = .ok (.file d, strsN [sShut] ++ r) := by
      unfold fileP
      rw [bind_ok (oneP_str [sExecutable, sContents] sContents _ (by decide) (by decide)), if_neg (by decide), bind_ok (textP_str 65536 d _ ok (by omega))]
      rfl
    rw [bind_ok e2, bind_ok (must_go [sShut] _ (by decide))]
    rfl
  | .exec d, deep, cnt, fu + 1, r, ok, hc, hf => by
    simp only [okT] at ok
    have e : packT (.exec d) ++ r = strsN [sOpen, sType] ++ (strN sRegular ++ (strN sExecutable ++ (strsN [[], sContents] ++ (strN d ++ (strsN [sShut] ++ r))))) := by simp [packT, strsN]
    simp only [nodeP]
    rw [e, bind_ok (must_go [sOpen, sType] _ (by decide)), bind_ok (oneP_str [sRegular, sSymlink, sDirectory] sRegular _ (by decide) (by decide))]
    rw [if_neg (by decide), if_pos (by decide)]
    have e2 : fileP (strN sExecutable ++ (strsN [[], sContents] ++ (strN d ++ (strsN [sShut] ++ r)))) = .ok (.exec d, strsN [sShut] ++ r) := by
      unfold fileP
      rw [bind_ok (oneP_str [sExecutable, sContents] sExecutable _ (by decide) (by decide)), if_pos (by decide), bind_ok (must_go [[], sContents] _ (by decide)), bind_ok (textP_str 65536 d _ ok (by omega))]
      rfl
    rw [bind_ok e2, bind_ok (must_go [sShut] _ (by decide))]
    rfl
  | .link d, deep, cnt, fu + 1, r, ok, hc, hf => by
    simp only [okT] at ok
    obtain ⟨h1, h2, h3⟩ := ok
    have e : packT (.link d) ++ r = strsN [sOpen, sType] ++ (strN sSymlink ++ (strsN [sTarget] ++ (strN d ++ (strsN [sShut] ++ r)))) := by simp [packT, strsN]
    simp only [nodeP]
    rw [e, bind_ok (must_go [sOpen, sType] _ (by decide)), bind_ok (oneP_str [sRegular, sSymlink, sDirectory] sSymlink _ (by decide) (by decide))]
    rw [if_neg (by decide), if_neg (by decide)]
    have e2 : linkP (strsN [sTarget] ++ (strN d ++ (strsN [sShut] ++ r))) = .ok (.link d, strsN [sShut] ++ r) := by
      unfold linkP
      rw [bind_ok (must_go [sTarget] _ (by decide)), bind_ok (textP_str 4096 d _ h2 (by omega)), if_neg]
      · rfl
      · have : d.isEmpty = false := by cases d <;> simp_all
        rw [this, h3]
        decide
    rw [bind_ok e2, bind_ok (must_go [sShut] _ (by decide))]
    rfl
  | .dir f, deep, cnt, fu + 1, r, ok, hc, hf => by
    simp only [okT] at ok
    simp only [sizeT] at hc
    simp only [msT] at hf
    have e : packT (.dir f) ++ r = strsN [sOpen, sType] ++ (strN sDirectory ++ (packF f ++ (strN sShut ++ r))) := by simp [packT, strsN]
    simp only [nodeP]
    rw [e, bind_ok (must_go [sOpen, sType] _ (by decide)), bind_ok (oneP_str [sRegular, sSymlink, sDirectory] sDirectory _ (by decide) (by decide))]
    rw [if_pos (by decide), bind_ok (read_F f deep [] (cnt + 1) fu r ok (by omega) (by omega))]
    simp only [ret, sizeT]
    rw [Nat.add_assoc]
theorem read_F : ∀ (f : Fo) (deep : Nat) (last : Bs) (cnt fu : Nat) (r : Bs), okF deep last f → cnt + sizeF f ≤ 256 → msF f ≤ fu → dirP fu deep last cnt (packF f ++ (strN sShut ++ r)) = .ok ((f, cnt + sizeF f), r)
  | .nil, deep, last, cnt, 0, r, ok, hc, hf => by simp [msF] at hf
  | .cons nm t f, deep, last, cnt, 0, r, ok, hc, hf => by simp [msF] at hf
  | .nil, deep, last, cnt, fu + 1, r, ok, hc, hf => by
    simp only [dirP]
    show Pr.bind _ _ (strN sShut ++ r) = _
    rw [bind_ok (oneP_str [sEntry, sShut] sShut _ (by decide) (by decide)), if_pos (by decide)]
    rfl
  | .cons nm t f, deep, last, cnt, fu + 1, r, ok, hc, hf => by
    simp only [okF] at ok
    obtain ⟨h1, h2, h3, h4, h5⟩ := ok
    simp only [sizeF] at hc
    simp only [msF] at hf
    have hs : 1 ≤ sizeT t := by cases t <;> simp [sizeT]
    have e : packF (.cons nm t f) ++ (strN sShut ++ r) = strN sEntry ++ (strsN [sOpen, sName] ++ (strN nm ++ (strsN [sNode] ++ (packT t ++ (strsN [sShut] ++ (packF f ++ (strN sShut ++ r))))))) := by simp [packF, strsN]
    simp only [dirP]
    rw [e, bind_ok (oneP_str [sEntry, sShut] sEntry _ (by decide) (by decide)), if_neg (by decide), bind_ok (must_go [sOpen, sName] _ (by decide))]
    have e2 : nameP last deep cnt (strN nm ++ (strsN [sNode] ++ (packT t ++ (strsN [sShut] ++ (packF f ++ (strN sShut ++ r)))))) = .ok (nm, strsN [sNode] ++ (packT t ++ (strsN [sShut] ++ (packF f ++ (strN sShut ++ r))))) := by
      unfold nameP
      rw [bind_ok (textP_str 255 nm _ (mayName_no h1).2.2.2 (by omega)), if_neg]
      · rfl
      · rw [h1, h2]
        simp
        omega
    rw [bind_ok e2, bind_ok (must_go [sNode] _ (by decide)), bind_ok (read_T t (deep + 1) cnt fu _ h4 (by omega) (by omega)), bind_ok (must_go [sShut] _ (by decide)), bind_ok (read_F f deep nm (cnt + sizeT t) fu r h5 (by omega) (by omega))]
    simp only [ret, sizeF]
    rw [Nat.add_assoc]
end
/-! What is read is packed. -/
theorem bind_inv {α β : Type} {p : Pr α} {q : α → Pr β} {x r : Bs} {v : β} (h : Pr.bind p q x = .ok (v, r)) : ∃ u s, p x = .ok (u, s) ∧ q u s = .ok (v, r) := by
  unfold Pr.bind at h
  split at h
  · cases h
  · rename_i u s hx
    exact ⟨u, s, hx, h⟩
theorem ret_inv {α : Type} {v w : α} {x r : Bs} (h : ret v x = .ok (w, r)) : v = w ∧ x = r := by
  simp only [ret, Except.ok.injEq, Prod.mk.injEq] at h
  exact h
theorem file_back {x r : Bs} {t : Tr} (h : fileP x = .ok (t, r)) : (∃ d, t = .file d ∧ d.length ≤ 65536 ∧ x = strsN [sContents, d] ++ r) ∨ ∃ d, t = .exec d ∧ d.length ≤ 65536 ∧ x = strsN [sExecutable, [], sContents, d] ++ r := by
  unfold fileP at h
  replace h := bind_inv h
  obtain ⟨s, x1, h1, h⟩ := h
  obtain ⟨rfl, hs⟩ := oneP_back h1
  split at h
  · rename_i hk
    have hk := beq_iff_eq.1 hk
    subst hk
    replace h := bind_inv h
    obtain ⟨_, x2, h2, h⟩ := h
    replace h := bind_inv h
    obtain ⟨d, x3, h3, h⟩ := h
    obtain ⟨rfl, rfl⟩ := ret_inv h
    obtain ⟨rfl, hd⟩ := textP_back h3
    rw [mustP_back h2]
    exact Or.inr ⟨d, rfl, hd, by simp [strsN]⟩
  · rename_i hk
    have hs2 : s = sContents := by
      simp only [List.mem_cons, List.not_mem_nil, or_false] at hs
      rcases hs with rfl | rfl
      · exact absurd rfl hk
      · rfl
    subst hs2
    replace h := bind_inv h
    obtain ⟨d, x3, h3, h⟩ := h
    obtain ⟨rfl, rfl⟩ := ret_inv h
    obtain ⟨rfl, hd⟩ := textP_back h3
    exact Or.inl ⟨d, rfl, hd, by simp [strsN]⟩
theorem link_back {x r : Bs} {t : Tr} (h : linkP x = .ok (t, r)) : ∃ d, t = .link d ∧ d ≠ [] ∧ d.length ≤ 4096 ∧ d.contains 0 = false ∧ x = strsN [sTarget, d] ++ r := by
  unfold linkP at h
  replace h := bind_inv h
  obtain ⟨_, x1, h1, h⟩ := h
  replace h := bind_inv h
  obtain ⟨d, x2, h2, h⟩ := h
  obtain ⟨rfl, hd⟩ := textP_back h2
  split at h
  · cases h
  rename_i hk
  obtain ⟨rfl, rfl⟩ := ret_inv h
  simp only [Bool.or_eq_true, not_or, Bool.not_eq_true] at hk
  rw [mustP_back h1]
  exact ⟨d, rfl, fun e => by simp [e] at hk, hd, hk.2, by simp [strsN]⟩
theorem name_back {last : Bs} {deep cnt : Nat} {x r nm : Bs} (h : nameP last deep cnt x = .ok (nm, r)) : x = strN nm ++ r ∧ mayNameN nm = true ∧ ltB last nm = true ∧ cnt < 256 ∧ deep < 64 := by
  unfold nameP at h
  replace h := bind_inv h
  obtain ⟨s, x1, h1, h⟩ := h
  obtain ⟨rfl, hd⟩ := textP_back h1
  split at h
  · cases h
  rename_i hk
  obtain ⟨rfl, rfl⟩ := ret_inv h
  simp only [Bool.or_eq_true, Bool.not_eq_true', decide_eq_true_eq, not_or, Bool.not_eq_false, Nat.not_le] at hk
  exact ⟨rfl, hk.1.1.1, hk.1.1.2, hk.1.2, hk.2⟩
theorem back_all (fu : Nat) : (∀ deep cnt x t c r, nodeP fu deep cnt x = .ok ((t, c), r) → x = packT t ++ r ∧ okT deep t ∧ c = cnt + sizeT t ∧ (cnt < 256 → c ≤ 256)) ∧
    ∀ deep last cnt x f c r, dirP fu deep last cnt x = .ok ((f, c), r) → x = packF f ++ (strN sShut ++ r) ∧ okF deep last f ∧ c = cnt + sizeF f ∧ (cnt ≤ 256 → c ≤ 256) := by
  induction fu with
  | zero => exact ⟨fun _ _ _ _ _ _ h => (by simp only [nodeP] at h; cases h), fun _ _ _ _ _ _ _ h => (by simp only [dirP] at h; cases h)⟩
  | succ fu ih =>
    refine ⟨fun deep cnt x t c r h => ?_, fun deep last cnt x f c r h => ?_⟩
    · simp only [nodeP] at h
      replace h := bind_inv h
      obtain ⟨_, x1, h1, h⟩ := h
      replace h := bind_inv h
      obtain ⟨k, x2, h2, h⟩ := h
      obtain ⟨rfl, hk⟩ := oneP_back h2
      have e1 := mustP_back h1
      split at h
      · rename_i hd
        have hd := beq_iff_eq.1 hd
        subst hd
        replace h := bind_inv h
        obtain ⟨⟨f, c1⟩, x3, h3, h⟩ := h
        obtain ⟨h4, rfl⟩ := ret_inv h
        simp only [Prod.mk.injEq] at h4
        obtain ⟨rfl, rfl⟩ := h4
        obtain ⟨rfl, ok, rfl, hc⟩ := ih.2 _ _ _ _ _ _ _ h3
        refine ⟨by rw [e1]; simp [packT, strsN], by simpa only [okT] using ok, by simp only [sizeT]; omega, fun h => hc (by omega)⟩
      · rename_i hnd
        replace h := bind_inv h
        obtain ⟨t1, x3, h3, h⟩ := h
        replace h := bind_inv h
        obtain ⟨_, x4, h4, h⟩ := h
        obtain ⟨h5, rfl⟩ := ret_inv h
        simp only [Prod.mk.injEq] at h5
        obtain ⟨rfl, rfl⟩ := h5
        have e4 := mustP_back h4
        split at h3
        · rename_i hr
          have hr := beq_iff_eq.1 hr
          subst hr
          rcases file_back h3 with ⟨d, rfl, hd, rfl⟩ | ⟨d, rfl, hd, rfl⟩
          · exact ⟨by rw [e1, e4]; simp [packT, strsN], by simpa only [okT] using hd, rfl, fun h => by omega⟩
          · exact ⟨by rw [e1, e4]; simp [packT, strsN], by simpa only [okT] using hd, rfl, fun h => by omega⟩
        · rename_i hr
          have hk2 : k = sSymlink := by
            simp only [List.mem_cons, List.not_mem_nil, or_false] at hk
            rcases hk with rfl | rfl | rfl
            · exact absurd rfl hr
            · rfl
            · exact absurd rfl hnd
          subst hk2
          obtain ⟨d, rfl, hd1, hd2, hd3, rfl⟩ := link_back h3
          exact ⟨by rw [e1, e4]; simp [packT, strsN], by simp only [okT]; exact ⟨hd1, hd2, hd3⟩, rfl, fun h => by omega⟩
    · simp only [dirP] at h
      replace h := bind_inv h
      obtain ⟨k, x1, h1, h⟩ := h
      obtain ⟨rfl, hk⟩ := oneP_back h1
      split at h
      · rename_i hs
        have hs := beq_iff_eq.1 hs
        subst hs
        obtain ⟨h4, rfl⟩ := ret_inv h
        simp only [Prod.mk.injEq] at h4
        obtain ⟨rfl, rfl⟩ := h4
        exact ⟨rfl, trivial, rfl, fun h => h⟩
      · rename_i hs
        have hk2 : k = sEntry := by
          simp only [List.mem_cons, List.not_mem_nil, or_false] at hk
          rcases hk with rfl | rfl
          · rfl
          · exact absurd rfl hs
        subst hk2
        replace h := bind_inv h
        obtain ⟨_, x2, h2, h⟩ := h
        replace h := bind_inv h
        obtain ⟨nm, x3, h3, h⟩ := h
        replace h := bind_inv h
        obtain ⟨_, x4, h4, h⟩ := h
        replace h := bind_inv h
        obtain ⟨⟨t, c1⟩, x5, h5, h⟩ := h
        replace h := bind_inv h
        obtain ⟨_, x6, h6, h⟩ := h
        replace h := bind_inv h
        obtain ⟨⟨g, c2⟩, x7, h7, h⟩ := h
        obtain ⟨h8, rfl⟩ := ret_inv h
        simp only [Prod.mk.injEq] at h8
        obtain ⟨rfl, rfl⟩ := h8
        obtain ⟨rfl, n1, n2, n3, n4⟩ := name_back h3
        obtain ⟨rfl, ok1, rfl, hc1⟩ := ih.1 _ _ _ _ _ _ h5
        obtain ⟨rfl, ok2, rfl, hc2⟩ := ih.2 _ _ _ _ _ _ _ h7
        refine ⟨by rw [mustP_back h2, mustP_back h4, mustP_back h6]; simp [packF, strsN], by simp only [okF]; exact ⟨n1, n2, n4, ok1, ok2⟩, by simp only [sizeF]; omega, fun _ => hc2 (hc1 n3)⟩
/-! All of it. -/
theorem strN_pos (s : Bs) : 8 ≤ (strN s).length := by rw [strN_len]; omega
mutual
theorem ms_T : ∀ (t : Tr), msT t ≤ (packT t).length
  | .file d => by have := strN_pos sOpen; simp only [msT, packT, strsN_cons, List.length_append]; omega
  | .exec d => by have := strN_pos sOpen; simp only [msT, packT, strsN_cons, List.length_append]; omega
  | .link d => by have := strN_pos sOpen; simp only [msT, packT, strsN_cons, List.length_append]; omega
  | .dir f => by have := strN_pos sOpen; have := strN_pos sShut; have := ms_F f; simp only [msT, packT, strsN_cons, List.length_append]; omega
theorem ms_F : ∀ (f : Fo), msF f ≤ (packF f).length + 1
  | .nil => by simp [msF, packF]
  | .cons nm t f => by have := strN_pos sEntry; have := ms_T t; have := ms_F f; simp only [msF, packF, strsN_cons, List.length_append]; omega
end
def packN (t : Tr) : Bs := strN sMark ++ packT t
theorem get_pack (t : Tr) (ok : okT 0 t) (hs : sizeT t ≤ 256) : getP (packN t) = .ok t := by
  have h := read_T t 0 0 ((packN t).length + 1) [] ok (by omega) (by have := ms_T t; simp only [packN, List.length_append]; omega)
  have e : packN t = strsN [sMark] ++ packT t := by simp [packN, strsN]
  unfold getP
  rw [List.append_nil] at h
  have e2 : Pr.bind (mustP [sMark]) (fun _ => nodeP ((packN t).length + 1) 0 0) (packN t) = .ok ((t, 0 + sizeT t), []) := by
    conv => lhs; arg 3; rw [e]
    rw [bind_ok (must_go [sMark] _ (by decide))]
    exact h
  rw [e2]
  rfl
theorem get_back {s : Bs} {t : Tr} (h : getP s = .ok t) : s = packN t ∧ okT 0 t ∧ sizeT t ≤ 256 := by
  unfold getP at h
  split at h
  · cases h
  · rename_i p r hp
    split at h
    · rename_i hr
      have hr : r = [] := by simpa using hr
      subst hr
      simp only [Except.ok.injEq] at h
      subst h
      obtain ⟨_, x1, h1, h2⟩ := bind_inv hp
      obtain ⟨e, ok, hc, hl⟩ := (back_all _).1 _ _ _ p.1 p.2 _ h2
      refine ⟨?_, ok, by have := hl (by omega); omega⟩
      rw [mustP_back h1, e]
      simp [packN, strsN]
    · cases h
theorem get_inj {t u : Tr} (h1 : okT 0 t) (h2 : sizeT t ≤ 256) (h3 : okT 0 u) (h4 : sizeT u ≤ 256) (h : packN t = packN u) : t = u := by
  have e := get_pack t h1 h2
  rw [h, get_pack u h3 h4] at e
  simp only [Except.ok.injEq] at e
  exact e.symm
/-- Cut, it needs more. -/
theorem get_cut {t : Tr} (ok : okT 0 t) (hs : sizeT t ≤ 256) (a b : Bs) (h : packN t = a ++ b) (hb : b ≠ []) : getP a = .error 5 := by
  have hg : Good (Pr.bind (mustP [sMark]) fun _ => nodeP ((packN t).length + 1) 0 0) := good_bind (mustP_good _ (by decide)) fun _ => (node_good _).1 _ _
  have e2 : Pr.bind (mustP [sMark]) (fun _ => nodeP ((packN t).length + 1) 0 0) (packN t) = .ok ((t, 0 + sizeT t), []) := by
    have h := read_T t 0 0 ((packN t).length + 1) [] ok (by omega) (by have := ms_T t; simp only [packN, List.length_append]; omega)
    have e : packN t = strsN [sMark] ++ packT t := by simp [packN, strsN]
    rw [List.append_nil] at h
    conv => lhs; arg 3; rw [e]
    rw [bind_ok (must_go [sMark] _ (by decide))]
    exact h
  obtain ⟨c, h1, h2, h3⟩ := hg _ _ _ e2
  rw [List.append_nil] at h1
  have h4 := h3 a b (by rw [← h1, h]) hb
  have h5 : Pr.bind (mustP [sMark]) (fun _ => nodeP ((packN t).length + 1) 0 0) a = Pr.bind (mustP [sMark]) (fun _ => nodeP (a.length + 1) 0 0) a := by
    refine bind_congr a fun _ r e => ?_
    have := must_eats _ _ _ _ e
    exact (fuel_any _ _).1 _ _ r (by rw [h, List.length_append]; omega) (by omega)
  unfold getP
  rw [← h5, h4]
/-- With bytes behind it is none. -/
theorem get_more {t : Tr} (ok : okT 0 t) (hs : sizeT t ≤ 256) (b : Bs) (hb : b ≠ []) : getP (packN t ++ b) = .error 4 := by
  have e : packN t ++ b = strsN [sMark] ++ (packT t ++ b) := by simp [packN, strsN]
  have h := read_T t 0 0 ((packN t ++ b).length + 1) b ok (by omega) (by have := ms_T t; simp only [packN, List.length_append]; omega)
  unfold getP
  have e2 : Pr.bind (mustP [sMark]) (fun _ => nodeP ((packN t ++ b).length + 1) 0 0) (packN t ++ b) = .ok ((t, 0 + sizeT t), b) := by
    conv => lhs; arg 3; rw [e]
    rw [bind_ok (must_go [sMark] _ (by decide))]
    exact h
  rw [e2]
  have : b.isEmpty = false := by cases b <;> simp_all
  simp [this]
mutual
theorem size_T : ∀ (t : Tr) (p : Bs), (nodesT p t).length = sizeT t
  | .file _, _ => rfl
  | .exec _, _ => rfl
  | .link _, _ => rfl
  | .dir f, p => by simp only [nodesT, sizeT, List.length_cons, size_F f p]; omega
theorem size_F : ∀ (f : Fo) (p : Bs), (nodesF p f).length = sizeF f
  | .nil, _ => rfl
  | .cons nm t f, p => by simp only [nodesF, sizeF, List.length_append, size_T t, size_F f p]
end
end Go.Proofs.Ytmlefodnbbkilaa

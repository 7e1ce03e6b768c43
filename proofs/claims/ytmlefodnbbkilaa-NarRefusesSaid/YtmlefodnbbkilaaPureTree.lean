/- Trees as bytes (plain): a parser and a packing. -/
namespace Go.Proofs.Ytmlefodnbbkilaa
abbrev Bs := List UInt8
abbrev Pr (α : Type) := Bs → Except Int (α × Bs)
namespace Pr
def ret {α : Type} (v : α) : Pr α := fun s => .ok (v, s)
def err {α : Type} (e : Int) : Pr α := fun _ => .error e
def bind {α β : Type} (p : Pr α) (q : α → Pr β) : Pr β := fun s => match p s with | .error e => .error e | .ok (v, r) => q v r
/-- What was read, whatever stands behind; cut, more is needed. -/
def Good {α : Type} (p : Pr α) : Prop := ∀ x v r, p x = .ok (v, r) → ∃ c, x = c ++ r ∧ (∀ y, p (c ++ y) = .ok (v, y)) ∧ ∀ a b, c = a ++ b → b ≠ [] → p a = .error 5
theorem good_ret {α : Type} (v : α) : Good (ret v) := fun x w r h => by
  simp only [ret, Except.ok.injEq, Prod.mk.injEq] at h
  obtain ⟨rfl, rfl⟩ := h
  refine ⟨[], rfl, fun y => rfl, fun a b h hb => ?_⟩
  simp at h
  exact absurd h.2 hb
theorem good_err {α : Type} (e : Int) : Good (err e : Pr α) := fun x v r h => by cases h
theorem good_bind {α β : Type} {p : Pr α} {q : α → Pr β} (hp : Good p) (hq : ∀ v, Good (q v)) : Good (bind p q) := by
  intro x v r h
  unfold bind at h
  split at h
  · cases h
  · rename_i u s hx
    obtain ⟨c, rfl, h1, h2⟩ := hp x u s hx
    obtain ⟨d, rfl, h3, h4⟩ := hq u _ _ _ h
    refine ⟨c ++ d, by simp, fun y => ?_, fun a b hab hb => ?_⟩
    · unfold bind
      rw [List.append_assoc, h1]
      exact h3 y
    · rcases List.append_eq_append_iff.1 hab with ⟨a', rfl, h5⟩ | ⟨b', rfl, h5⟩
      · unfold bind
        rw [h1]
        exact h4 a' b h5 hb
      · by_cases hb0 : b' = []
        · subst hb0
          unfold bind
          rw [List.append_nil] at h1 h2
          have := h1 []
          rw [List.append_nil] at this
          rw [this]
          simp at h5
          exact h4 [] d rfl (by rw [← h5]; exact hb)
        · unfold bind
          rw [h2 a b' rfl hb0]
end Pr
open Pr hiding bind
def wordN (n : Nat) : Bs := [UInt8.ofNat n, UInt8.ofNat (n / 256), UInt8.ofNat (n / 65536), UInt8.ofNat (n / 16777216), UInt8.ofNat (n / 4294967296), UInt8.ofNat (n / 1099511627776), UInt8.ofNat (n / 281474976710656), UInt8.ofNat (n / 72057594037927936)]
def le8 : Bs → Nat
  | [] => 0
  | b :: l => b.toNat + 256 * le8 l
def padN (n : Nat) : Nat := (8 - n % 8) % 8
def strN (s : Bs) : Bs := wordN s.length ++ s ++ List.replicate (padN s.length) 0
def strsN (l : List Bs) : Bs := l.flatMap strN
theorem le8_word (n : Nat) (h : n < 18446744073709551616) : le8 (wordN n) = n := by
  simp only [wordN, le8, UInt8.toNat_ofNat']
  omega
theorem word_le8 : ∀ (s : Bs), s.length = 8 → wordN (le8 s) = s := by
  intro s h
  match s, h with
  | [a, b, c, d, e, f, g, i], _ =>
    have ha := a.toNat_lt
    have hb := b.toNat_lt
    have hc := c.toNat_lt
    have hd := d.toNat_lt
    have he := e.toNat_lt
    have hf := f.toNat_lt
    have hg := g.toNat_lt
    have hi := i.toNat_lt
    simp only [wordN, le8]
    have key : ∀ (x : UInt8) (n : Nat), n % 256 = x.toNat → UInt8.ofNat n = x := fun x n h => by
      apply UInt8.toNat_inj.1
      rw [UInt8.toNat_ofNat', h]
    rw [key a _ (by omega), key b _ (by omega), key c _ (by omega), key d _ (by omega), key e _ (by omega), key f _ (by omega), key g _ (by omega), key i _ (by omega)]
theorem wordN_len (n : Nat) : (wordN n).length = 8 := rfl
theorem word_take (n : Nat) (y : Bs) : (wordN n ++ y).take 8 = wordN n ∧ (wordN n ++ y).drop 8 = y := ⟨rfl, rfl⟩
attribute [irreducible] wordN
theorem strN_len (s : Bs) : (strN s).length = 8 + (s.length + 7) / 8 * 8 := by
  simp only [strN, List.length_append, wordN_len, List.length_replicate, padN]
  omega
/-- The next text, of at most so many bytes. -/
def textP (most : Nat) : Pr Bs := fun s =>
  if s.length < 8 then .error 5 else
  if most < le8 (s.take 8) then .error 4 else
  if (s.drop 8).length < (le8 (s.take 8) + 7) / 8 * 8 then .error 5 else
  if (((s.drop 8).take ((le8 (s.take 8) + 7) / 8 * 8)).drop (le8 (s.take 8))).any (fun b => b != 0) then .error 4 else
  .ok ((s.drop 8).take (le8 (s.take 8)), (s.drop 8).drop ((le8 (s.take 8) + 7) / 8 * 8))
theorem textP_str (most : Nat) (s r : Bs) (h : s.length ≤ most) (hm : most < 18446744073709551616) : textP most (strN s ++ r) = .ok (s, r) := by
  have h1 : (strN s ++ r).take 8 = wordN s.length := by
    simp only [strN, List.append_assoc]
    exact (word_take _ _).1
  have h2 : (strN s ++ r).drop 8 = s ++ List.replicate (padN s.length) 0 ++ r := by
    simp only [strN, List.append_assoc]
    rw [(word_take _ _).2]
  have h3 : (s.length + 7) / 8 * 8 = (s ++ List.replicate (padN s.length) (0 : UInt8)).length := by
    simp only [List.length_append, List.length_replicate, padN]
    omega
  unfold textP
  rw [h1, h2, le8_word _ (by omega), if_neg (by have := strN_len s; rw [List.length_append]; omega), if_neg (by omega), if_neg (by rw [h3, List.length_append (as := s ++ _)]; omega), if_neg]
  · rw [h3, List.drop_append_of_le_length (Nat.le_refl _), List.drop_length, List.append_assoc, List.take_append_of_le_length (Nat.le_refl _), List.take_length]
    rfl
  · rw [h3, List.take_append_of_le_length (Nat.le_refl _), List.take_length, List.drop_append_of_le_length (Nat.le_refl _), List.drop_length]
    simp
theorem textP_back {most : Nat} {x s r : Bs} (h : textP most x = .ok (s, r)) : x = strN s ++ r ∧ s.length ≤ most := by
  unfold textP at h
  split at h
  · cases h
  rename_i h1
  split at h
  · cases h
  rename_i h2
  split at h
  · cases h
  rename_i h3
  split at h
  · cases h
  rename_i h4
  simp only [Except.ok.injEq, Prod.mk.injEq] at h
  obtain ⟨rfl, rfl⟩ := h
  obtain ⟨n, hn⟩ : ∃ n, le8 (x.take 8) = n := ⟨_, rfl⟩
  have hw := word_le8 (x.take 8) (by simp; omega)
  rw [hn] at hw h2 h3 h4 ⊢
  have hl : ((x.drop 8).take n).length = n := by rw [List.length_take]; omega
  refine ⟨?_, by omega⟩
  have hz : ((x.drop 8).take ((n + 7) / 8 * 8)).drop n = List.replicate (padN n) 0 := by
    apply List.eq_replicate_iff.2
    refine ⟨by simp only [List.length_drop, List.length_take, padN]; simp only [List.length_drop] at h3; omega, fun b hb => ?_⟩
    simp only [List.any_eq_true, not_exists, not_and] at h4
    have := h4 b hb
    simpa using this
  have h5 : (x.drop 8).take n ++ (((x.drop 8).take ((n + 7) / 8 * 8)).drop n) = (x.drop 8).take ((n + 7) / 8 * 8) := by
    have e : (x.drop 8).take n = ((x.drop 8).take ((n + 7) / 8 * 8)).take n := by rw [List.take_take, Nat.min_eq_left (by omega)]
    rw [e, List.take_append_drop]
  unfold strN
  rw [hl, hw, ← hz, List.append_assoc (x.take 8), h5, List.append_assoc, List.take_append_drop, List.take_append_drop]
theorem textP_good (most : Nat) (hm : most < 18446744073709551616) : Good (textP most) := by
  intro x s r h
  obtain ⟨rfl, hl⟩ := textP_back h
  refine ⟨strN s, rfl, fun y => textP_str most s y hl hm, fun a b hab hb => ?_⟩
  have hlen := strN_len s
  rw [hab, List.length_append] at hlen
  have hbl : 0 < b.length := List.length_pos_iff.2 hb
  by_cases h8 : a.length < 8
  · unfold textP
    rw [if_pos h8]
  · have h1 : a.take 8 = wordN s.length := by
      have e : (strN s).take 8 = wordN s.length := by
        simp only [strN, List.append_assoc]
        exact (word_take _ _).1
      rw [hab, List.take_append_of_le_length (by omega)] at e
      exact e
    unfold textP
    rw [h1, le8_word _ (by omega), if_neg h8, if_neg (by omega), if_pos (by rw [List.length_drop]; omega)]

/-- Of texts that may be, the next one. -/
def maxL (l : List Bs) : Nat := l.foldl (fun m s => max m s.length) 0
def oneP (l : List Bs) : Pr Bs := Pr.bind (textP (maxL l)) fun s => if l.contains s then ret s else err 4
/-- Texts that must come. -/
def mustP : List Bs → Pr Unit
  | [] => ret ()
  | s :: l => Pr.bind (oneP [s]) fun _ => mustP l
theorem fold_max : ∀ (l : List Bs) (m : Nat), m ≤ l.foldl (fun m s => max m s.length) m ∧ (∀ s ∈ l, s.length ≤ l.foldl (fun m s => max m s.length) m) ∧ ∀ k, m ≤ k → (∀ s ∈ l, s.length ≤ k) → l.foldl (fun m s => max m s.length) m ≤ k
  | [], m => ⟨Nat.le_refl _, fun s h => (by cases h), fun k h _ => h⟩
  | x :: l, m => by
    obtain ⟨h1, h2, h3⟩ := fold_max l (max m x.length)
    refine ⟨by simp only [List.foldl_cons]; omega, fun s hs => ?_, fun k hk hl => h3 k (by have := hl x (by simp); omega) fun s hs => hl s (List.mem_cons_of_mem _ hs)⟩
    rcases List.mem_cons.1 hs with rfl | hs
    · simp only [List.foldl_cons]; omega
    · exact h2 s hs
theorem maxL_le (l : List Bs) (k : Nat) (h : ∀ s ∈ l, s.length ≤ k) : maxL l ≤ k := (fold_max l 0).2.2 k (Nat.zero_le _) h
theorem le_maxL (l : List Bs) (s : Bs) (h : s ∈ l) : s.length ≤ maxL l := (fold_max l 0).2.1 s h
theorem oneP_good (l : List Bs) (h : ∀ s ∈ l, s.length ≤ 1000) : Good (oneP l) := by
  refine good_bind (textP_good _ (by have := maxL_le l 1000 h; omega)) fun s => ?_
  split
  · exact good_ret s
  · exact good_err 4
theorem oneP_str (l : List Bs) (s r : Bs) (h : ∀ s ∈ l, s.length ≤ 1000) (hs : s ∈ l) : oneP l (strN s ++ r) = .ok (s, r) := by
  unfold oneP Pr.bind
  rw [textP_str _ s r (le_maxL l s hs) (by have := maxL_le l 1000 h; omega)]
  simp [hs, ret]
theorem oneP_back {l : List Bs} {x s r : Bs} (h : oneP l x = .ok (s, r)) : x = strN s ++ r ∧ s ∈ l := by
  unfold oneP Pr.bind at h
  split at h
  · cases h
  · rename_i u t hx
    obtain ⟨rfl, -⟩ := textP_back hx
    dsimp only at h
    split at h
    · rename_i hc
      simp only [ret, Except.ok.injEq, Prod.mk.injEq] at h
      obtain ⟨rfl, rfl⟩ := h
      exact ⟨rfl, by simpa using hc⟩
    · cases h
theorem mustP_good : ∀ (l : List Bs), (∀ s ∈ l, s.length ≤ 1000) → Good (mustP l)
  | [], _ => good_ret ()
  | s :: l, h => good_bind (oneP_good [s] fun t ht => h t (by simp at ht; simp [ht])) fun _ => mustP_good l fun t ht => h t (List.mem_cons_of_mem _ ht)
theorem mustP_str : ∀ (l : List Bs) (r : Bs), (∀ s ∈ l, s.length ≤ 1000) → mustP l (strsN l ++ r) = .ok ((), r)
  | [], r, _ => rfl
  | s :: l, r, h => by
    unfold mustP Pr.bind
    have e : strsN (s :: l) ++ r = strN s ++ (strsN l ++ r) := by simp [strsN]
    rw [e, oneP_str [s] s _ (fun t ht => h t (by simp at ht; simp [ht])) (by simp)]
    exact mustP_str l r fun t ht => h t (List.mem_cons_of_mem _ ht)
theorem mustP_back : ∀ {l : List Bs} {x r : Bs} {u : Unit}, mustP l x = .ok (u, r) → x = strsN l ++ r
  | [], x, r, u, h => by
    simp only [mustP, ret, Except.ok.injEq, Prod.mk.injEq] at h
    simp [strsN, h.2]
  | s :: l, x, r, u, h => by
    unfold mustP Pr.bind at h
    split at h
    · cases h
    · rename_i v t hx
      obtain ⟨rfl, hs⟩ := oneP_back hx
      have := mustP_back h
      simp only [List.mem_singleton] at hs
      subst hs
      rw [this]
      simp [strsN]
/-! Trees. -/
mutual
inductive Tr where
  | file : Bs → Tr
  | exec : Bs → Tr
  | link : Bs → Tr
  | dir : Fo → Tr
inductive Fo where
  | nil : Fo
  | cons : Bs → Tr → Fo → Fo
end
def ltB : Bs → Bs → Bool
  | _, [] => false
  | [], _ :: _ => true
  | a :: x, b :: y => if a < b then true else if b < a then false else ltB x y
def mayNameN (s : Bs) : Bool := !s.isEmpty && decide (s.length ≤ 255) && !(s.contains 0) && !(s.contains 47) && s != [46] && s != [46, 46]
abbrev sOpen : Bs := [40]
abbrev sShut : Bs := [41]
abbrev sType : Bs := [116, 121, 112, 101]
abbrev sRegular : Bs := [114, 101, 103, 117, 108, 97, 114]
abbrev sSymlink : Bs := [115, 121, 109, 108, 105, 110, 107]
abbrev sDirectory : Bs := [100, 105, 114, 101, 99, 116, 111, 114, 121]
abbrev sContents : Bs := [99, 111, 110, 116, 101, 110, 116, 115]
abbrev sExecutable : Bs := [101, 120, 101, 99, 117, 116, 97, 98, 108, 101]
abbrev sTarget : Bs := [116, 97, 114, 103, 101, 116]
abbrev sEntry : Bs := [101, 110, 116, 114, 121]
abbrev sName : Bs := [110, 97, 109, 101]
abbrev sNode : Bs := [110, 111, 100, 101]
abbrev sMark : Bs := [110, 105, 120, 45, 97, 114, 99, 104, 105, 118, 101, 45, 49]
mutual
def packT : Tr → Bs
  | .file d => strsN [sOpen, sType, sRegular, sContents, d, sShut]
  | .exec d => strsN [sOpen, sType, sRegular, sExecutable, [], sContents, d, sShut]
  | .link d => strsN [sOpen, sType, sSymlink, sTarget, d, sShut]
  | .dir f => strsN [sOpen, sType, sDirectory] ++ (packF f ++ strN sShut)
def packF : Fo → Bs
  | .nil => []
  | .cons nm t f => strsN [sEntry, sOpen, sName, nm, sNode] ++ (packT t ++ (strN sShut ++ packF f))
end
mutual
def sizeT : Tr → Nat
  | .file _ => 1
  | .exec _ => 1
  | .link _ => 1
  | .dir f => 1 + sizeF f
def sizeF : Fo → Nat
  | .nil => 0
  | .cons _ t f => sizeT t + sizeF f
end
mutual
def okT (deep : Nat) : Tr → Prop
  | .file d => d.length ≤ 65536
  | .exec d => d.length ≤ 65536
  | .link d => d ≠ [] ∧ d.length ≤ 4096 ∧ d.contains 0 = false
  | .dir f => okF deep [] f
def okF (deep : Nat) (last : Bs) : Fo → Prop
  | .nil => True
  | .cons nm t f => mayNameN nm = true ∧ ltB last nm = true ∧ deep < 64 ∧ okT (deep + 1) t ∧ okF deep nm f
end
/-- What is behind a file's type. -/
def fileP : Pr Tr := Pr.bind (oneP [sExecutable, sContents]) fun s =>
  if s == sExecutable then Pr.bind (mustP [[], sContents]) fun _ => Pr.bind (textP 65536) fun d => ret (.exec d) else Pr.bind (textP 65536) fun d => ret (.file d)
def linkP : Pr Tr := Pr.bind (mustP [sTarget]) fun _ => Pr.bind (textP 4096) fun d => if d.isEmpty || d.contains 0 then err 4 else ret (.link d)
/-- The name of an entry. -/
def nameP (last : Bs) (deep cnt : Nat) : Pr Bs := Pr.bind (textP 255) fun s => if !mayNameN s || !ltB last s || decide (256 ≤ cnt) || decide (64 ≤ deep) then err 4 else ret s
mutual
def nodeP : Nat → Nat → Nat → Pr (Tr × Nat)
  | 0, _, _ => err 5
  | f + 1, deep, cnt => Pr.bind (mustP [sOpen, sType]) fun _ => Pr.bind (oneP [sRegular, sSymlink, sDirectory]) fun k =>
    if k == sDirectory then Pr.bind (dirP f deep [] (cnt + 1)) fun p => ret (.dir p.1, p.2)
    else Pr.bind (if k == sRegular then fileP else linkP) fun t => Pr.bind (mustP [sShut]) fun _ => ret (t, cnt + 1)
def dirP : Nat → Nat → Bs → Nat → Pr (Fo × Nat)
  | 0, _, _, _ => err 5
  | f + 1, deep, last, cnt => Pr.bind (oneP [sEntry, sShut]) fun k =>
    if k == sShut then ret (.nil, cnt)
    else Pr.bind (mustP [sOpen, sName]) fun _ => Pr.bind (nameP last deep cnt) fun nm => Pr.bind (mustP [sNode]) fun _ => Pr.bind (nodeP f (deep + 1) cnt) fun p => Pr.bind (mustP [sShut]) fun _ => Pr.bind (dirP f deep nm p.2) fun q => ret (.cons nm p.1 q.1, q.2)
end
def getP (s : Bs) : Except Int Tr :=
  match Pr.bind (mustP [sMark]) (fun _ => nodeP (s.length + 1) 0 0) s with
  | .error e => .error e
  | .ok (p, r) => if r.isEmpty then .ok p.1 else .error 4
end Go.Proofs.Ytmlefodnbbkilaa

/- What tokens a row of bytes has: plain functions on lists. -/
import Derived.Test.YtppbijbgnhmdaaaDoorLexAll
import Derived.Test.YtppbijbgnhmdaaaDoorLexCut
import Derived.Test.YtppbijbgnhmdaaaDoorLexDot
import Derived.Test.YtppbijbgnhmdaaaDoorLexBase
namespace Go.Proofs.YtppbijbgnhmdaaaDoor
open Go.RowKit

/-- What stands between two marks: the text and how many bytes that takes, the closing mark too; or an error. -/
inductive QRes where
  | ok (text : List UInt8) (n : Nat)
  | err (e : Int)

def QRes.pre (l : List UInt8) (k : Nat) : QRes → QRes
  | .ok t n => .ok (l ++ t) (k + n)
  | .err e => .err e
theorem QRes.pre_nil (r : QRes) : r.pre [] 0 = r := by cases r <;> simp [QRes.pre]
theorem QRes.pre_pre (a b : List UInt8) (j k : Nat) (r : QRes) : (r.pre b k).pre a j = r.pre (a ++ b) (j + k) := by cases r <;> simp [QRes.pre, Nat.add_assoc]

/-- May a byte not stand between marks? -/
def badIn (m c : UInt8) : Bool := !isInner c || (bi m == 124 && bi c == 92)

def qscan (m : UInt8) : List UInt8 → QRes
  | [] => .err 31
  | [c] => if bi c = bi m then .ok [] 1 else if badIn m c then .err 30 else .err 31
  | c :: d :: r => if bi c = bi m ∧ bi m = 34 ∧ bi d = bi m then (qscan m r).pre [c] 2
      else if bi c = bi m then .ok [] 1
      else if badIn m c then .err 30
      else (qscan m (d :: r)).pre [c] 1

theorem qscan_end (m : UInt8) (bs : List UInt8) : qscan m (bs.drop bs.length) = .err 31 := by simp [qscan]
theorem qscan_pair (m : UInt8) (bs : List UInt8) (q : Nat) (h : q < bs.length) (h2 : q + 1 < bs.length) (e1 : bi bs[q] = bi m) (e2 : bi m = 34) (e3 : bi bs[q + 1] = bi m) :
    qscan m (bs.drop q) = (qscan m (bs.drop (q + 1 + 1))).pre [bs[q]] 2 := by
  rw [List.drop_eq_getElem_cons h, List.drop_eq_getElem_cons h2, qscan, if_pos ⟨e1, e2, e3⟩]
theorem qscan_close (m : UInt8) (bs : List UInt8) (q : Nat) (h : q < bs.length) (e1 : bi bs[q] = bi m) (hn : ¬ (bi m = 34 ∧ ∃ h2 : q + 1 < bs.length, bi bs[q + 1] = bi m)) :
    qscan m (bs.drop q) = .ok [] 1 := by
  rw [List.drop_eq_getElem_cons h]
  rcases Nat.lt_or_ge (q + 1) bs.length with h2 | h2
  · rw [List.drop_eq_getElem_cons h2, qscan, if_neg (fun hc => hn ⟨hc.2.1, h2, hc.2.2⟩), if_pos e1]
  · rw [List.drop_eq_nil_of_le h2, qscan, if_pos e1]
theorem qscan_bad (m : UInt8) (bs : List UInt8) (q : Nat) (h : q < bs.length) (e1 : ¬ bi bs[q] = bi m) (hb : badIn m bs[q] = true) :
    qscan m (bs.drop q) = .err 30 := by
  rw [List.drop_eq_getElem_cons h]
  rcases Nat.lt_or_ge (q + 1) bs.length with h2 | h2
  · rw [List.drop_eq_getElem_cons h2, qscan, if_neg (fun hc => e1 hc.1), if_neg e1, if_pos hb]
  · rw [List.drop_eq_nil_of_le h2, qscan, if_neg e1, if_pos hb]
theorem qscan_go (m : UInt8) (bs : List UInt8) (q : Nat) (h : q < bs.length) (e1 : ¬ bi bs[q] = bi m) (hb : badIn m bs[q] = false) :
    qscan m (bs.drop q) = (qscan m (bs.drop (q + 1))).pre [bs[q]] 1 := by
  rw [List.drop_eq_getElem_cons h]
  rcases Nat.lt_or_ge (q + 1) bs.length with h2 | h2
  · rw [List.drop_eq_getElem_cons h2, qscan, if_neg (fun hc => e1 hc.1), if_neg e1, if_neg (by simp [hb])]
  · rw [List.drop_eq_nil_of_le h2]
    simp only [qscan]
    rw [if_neg e1, if_neg (by simp [hb])]; rfl

/-- A token at the head of a row of bytes: its kind, its text, how many bytes it takes; or an error. -/
inductive TRes where
  | ok (kind : Int) (text : List UInt8) (n : Nat)
  | err (e : Int)

/-- A token that is a word. -/
def tokWord (t : List UInt8) : TRes :=
  if t = [] then .err 30
  else if plainB t then .ok 3 t t.length
  else if numeralB t then .ok 4 t t.length
  else if dotAt t < t.length ∧ numeralB (t.take (dotAt t)) = true ∧ (!(t.drop (dotAt t + 1)).isEmpty && (t.drop (dotAt t + 1)).all (inCl 2)) = true then .ok 7 t t.length
  else .err 5
/-- A token that is a word behind a colon, or behind a number sign. -/
def tokMark (c : UInt8) (t : List UInt8) : TRes :=
  if t = [] then .err 30
  else if bi c = 35 then if basedB t then .ok 7 (35 :: t) (t.length + 1) else .err 5
  else .ok 6 t (t.length + 1)
def tokQuote (c : UInt8) : QRes → TRes
  | .ok t n => .ok (if bi c = 34 then 5 else 3) t (n + 1)
  | .err e => .err e
def tok (c : UInt8) (r : List UInt8) : TRes :=
  if bi c = 40 then .ok 1 [40] 1
  else if bi c = 41 then .ok 2 [41] 1
  else if bi c = 124 ∨ bi c = 34 then tokQuote c (qscan c r)
  else if bi c = 58 ∨ bi c = 35 then tokMark c (r.takeWhile isLetter)
  else tokWord ((c :: r).takeWhile isLetter)

theorem tok_open {c : UInt8} (r : List UInt8) (h : bi c = 40) : tok c r = .ok 1 [40] 1 := if_pos h
theorem tok_close {c : UInt8} (r : List UInt8) (h : bi c = 41) : tok c r = .ok 2 [41] 1 := by unfold tok; rw [if_neg (by omega), if_pos h]
theorem tok_quote {c : UInt8} (r : List UInt8) (h : bi c = 124 ∨ bi c = 34) : tok c r = tokQuote c (qscan c r) := by unfold tok; rw [if_neg (by omega), if_neg (by omega), if_pos h]
theorem tok_mark {c : UInt8} (r : List UInt8) (h : bi c = 58 ∨ bi c = 35) : tok c r = tokMark c (r.takeWhile isLetter) := by unfold tok; rw [if_neg (by omega), if_neg (by omega), if_neg (by omega), if_pos h]
theorem tok_word {c : UInt8} (r : List UInt8) (h : ¬ bi c = 40 ∧ ¬ bi c = 41 ∧ ¬ bi c = 124 ∧ ¬ bi c = 34 ∧ ¬ bi c = 58 ∧ ¬ bi c = 35) : tok c r = tokWord ((c :: r).takeWhile isLetter) := by
  unfold tok; rw [if_neg (by omega), if_neg (by omega), if_neg (by omega), if_neg (by omega)]
theorem QRes.pre_err {l : List UInt8} {k : Nat} {r : QRes} {e : Int} (h : r.pre l k = .err e) : r = .err e := by cases r <;> simp_all [QRes.pre]
theorem qscan_err (m : UInt8) : ∀ (l : List UInt8) (e : Int), qscan m l = .err e → e ≠ 0
  | [], e, h => by simp [qscan] at h; omega
  | [c], e, h => by
    simp only [qscan] at h
    split at h
    · cases h
    · split at h <;> (injection h; omega)
  | c :: d :: r, e, h => by
    simp only [qscan] at h
    split at h
    · exact qscan_err m r e (QRes.pre_err h)
    · split at h
      · cases h
      · split at h
        · injection h; omega
        · exact qscan_err m (d :: r) e (QRes.pre_err h)

/-- A token. -/
structure Tok where
  kind : Int
  text : List UInt8
  at_ : Nat

/-- The tokens of the bytes from a place on, how far they go, and what is wrong there (0: nothing). -/
def toks : Nat → Nat → List UInt8 → List Tok × Nat × Int
  | 0, p, _ => ([], p, 0)
  | _ + 1, p, [] => ([], p, 0)
  | k + 1, p, c :: r =>
    if isBlank c then toks k (p + 1) r
    else if bi c = 59 then toks k (p + ((c :: r).takeWhile (fun b => bi b != 10)).length) ((c :: r).dropWhile (fun b => bi b != 10))
    else match tok c r with
      | .err e => ([], p, e)
      | .ok kind text n => match toks k (p + n) ((c :: r).drop n) with
        | (l, q, e) => ({ kind := kind, text := text, at_ := p } :: l, q, e)

theorem qscan_len (m : UInt8) : ∀ (l t : List UInt8) (n : Nat), qscan m l = .ok t n → n ≤ l.length
  | [], t, n, h => by simp [qscan] at h
  | [c], t, n, h => by
    simp only [qscan] at h
    split at h
    · injection h with h1 h2; subst h2; simp
    · split at h <;> cases h
  | c :: d :: r, t, n, h => by
    have pre : ∀ (x : List UInt8) (k : Nat) (q : QRes), q.pre x k = .ok t n → ∃ t' n', q = .ok t' n' ∧ n = k + n' := by
      intro x k q hq
      cases q with
      | ok t' n' => injection hq with h1 h2; exact ⟨t', n', rfl, h2.symm⟩
      | err e => cases hq
    simp only [qscan] at h
    split at h
    · obtain ⟨t', n', h1, h2⟩ := pre _ _ _ h
      have := qscan_len m r t' n' h1
      simp; omega
    · split at h
      · injection h with h1 h2; subst h2; simp
      · split at h
        · cases h
        · obtain ⟨t', n', h1, h2⟩ := pre _ _ _ h
          have := qscan_len m (d :: r) t' n' h1
          simp at this ⊢; omega

theorem tokWord_len (t : List UInt8) {k : Int} {x : List UInt8} {n : Nat} (h : tokWord t = .ok k x n) : x = t ∧ n = t.length ∧ 0 < n := by
  unfold tokWord at h
  have h0 : ¬ t = [] → 0 < t.length := fun h => by cases t with | nil => exact absurd rfl h | cons a r => simp
  split at h
  · cases h
  · rename_i hne
    repeat' (split at h)
    all_goals first | (injection h with h1 h2 h3; exact ⟨h2.symm, h3.symm, h3 ▸ h0 hne⟩) | (cases h; done)

/-- A token takes a byte at least, and no more than there are. -/
theorem tok_len (c : UInt8) (r : List UInt8) {k : Int} {x : List UInt8} {n : Nat} (h : tok c r = .ok k x n) : 0 < n ∧ n ≤ r.length + 1 := by
  have hw : ∀ l : List UInt8, (l.takeWhile isLetter).length ≤ l.length := fun l => (List.takeWhile_sublist _).length_le
  unfold tok at h
  split at h
  · injection h with h1 h2 h3; subst h3; simp
  · split at h
    · injection h with h1 h2 h3; subst h3; simp
    · split at h
      · cases hq : qscan c r with
        | ok t n' =>
          rw [hq] at h
          have := qscan_len c r t n' hq
          unfold tokQuote at h
          injection h with h1 h2 h3
          omega
        | err e => rw [hq] at h; cases h
      · split at h
        · unfold tokMark at h
          have := hw r
          split at h
          · cases h
          · repeat' (split at h)
            all_goals first | (injection h with h1 h2 h3; omega) | (cases h; done)
        · obtain ⟨_, h2, h3⟩ := tokWord_len _ h
          have := hw (c :: r)
          simp at this
          omega

theorem toks_fuel : ∀ (n : Nat) (l : List UInt8), l.length ≤ n → ∀ (k : Nat), l.length ≤ k → ∀ p, toks k p l = toks l.length p l
  | _, [], _, k, _, p => by cases k <;> rfl
  | 0, c :: r, h, _, _, _ => absurd h (by simp)
  | n + 1, c :: r, h, 0, hk, p => absurd hk (by simp)
  | n + 1, c :: r, h, k + 1, hk, p => by
    have hr : r.length ≤ n := by simpa using h
    have hk' : r.length ≤ k := by simpa using hk
    have e : (c :: r).length = r.length + 1 := rfl
    rw [e]
    simp only [toks]
    by_cases h1 : isBlank c = true
    · rw [if_pos h1, if_pos h1]
      exact toks_fuel n r hr k hk' _
    · rw [if_neg h1, if_neg h1]
      by_cases h2 : bi c = 59
      · rw [if_pos h2, if_pos h2]
        have hd : ((c :: r).dropWhile (fun b => bi b != 10)).length ≤ r.length := by
          rw [List.dropWhile_cons_of_pos (by rw [h2]; decide)]
          exact (List.dropWhile_sublist _).length_le
        rw [toks_fuel n _ (by omega) k (by omega), toks_fuel n _ (by omega) r.length hd]
      · rw [if_neg h2, if_neg h2]
        cases ht : tok c r with
        | err e => rfl
        | ok kd x m =>
          have hm := (tok_len c r ht).1
          have hd : ((c :: r).drop m).length ≤ r.length := by rw [List.length_drop, e]; omega
          simp only
          rw [toks_fuel n _ (by omega) k (by omega), toks_fuel n _ (by omega) r.length hd]

/-- The tokens from a place on. -/
def toksAt (bs : List UInt8) (q : Nat) : List Tok × Nat × Int := toks (bs.length - q) q (bs.drop q)
theorem toksAt_end (bs : List UInt8) : toksAt bs bs.length = ([], bs.length, 0) := by
  unfold toksAt
  rw [Nat.sub_self]; rfl
theorem toksAt_step (bs : List UInt8) (q : Nat) (h : q < bs.length) : toksAt bs q = toks (bs.length - (q + 1) + 1) q (bs[q] :: bs.drop (q + 1)) := by
  unfold toksAt
  rw [← List.drop_eq_getElem_cons h]
  have : bs.length - q = bs.length - (q + 1) + 1 := by omega
  rw [this]
theorem toksAt_any (bs : List UInt8) (q k : Nat) (hk : bs.length - q ≤ k) : toks k q (bs.drop q) = toksAt bs q := by
  unfold toksAt
  have hl : (bs.drop q).length = bs.length - q := List.length_drop ..
  rw [toks_fuel _ _ (Nat.le_refl _) k (by omega), hl]
theorem toksAt_blank (bs : List UInt8) (q : Nat) (h : q < bs.length) (hb : isBlank bs[q] = true) : toksAt bs q = toksAt bs (q + 1) := by
  rw [toksAt_step bs q h]
  simp only [toks, hb, if_true]
  exact toksAt_any bs (q + 1) _ (Nat.le_refl _)
theorem toksAt_semi (bs : List UInt8) (q : Nat) (h : q < bs.length) (hb : isBlank bs[q] = false) (hs : bi bs[q] = 59) (j : Nat) (hq : q ≤ j) (hj : j ≤ bs.length)
    (h1 : ∀ i, q ≤ i → ∀ h : i < j, (bi (bs[i]'(by omega)) != 10) = true) (h2 : ∀ h : j < bs.length, (bi bs[j] != 10) = false) : toksAt bs q = toksAt bs j := by
  rw [toksAt_step bs q h]
  simp only [toks, hb, Bool.false_eq_true, if_false, hs, if_true]
  rw [← List.drop_eq_getElem_cons h]
  have e1 : (bs.drop q).takeWhile (fun b => bi b != 10) = (bs.drop q).take (j - q) := by
    refine takeWhile_stop _ _ _ (by simp; omega) (fun i hi => ?_) (fun hi => ?_)
    · have := h1 (q + i) (by omega) (by omega)
      simpa using this
    · simp at hi
      have := h2 (by omega)
      have e : q + (j - q) = j := by omega
      simpa [e] using this
  have e2 : (bs.drop q).dropWhile (fun b => bi b != 10) = bs.drop j := by
    have h3 : (bs.drop q).takeWhile (fun b => bi b != 10) ++ (bs.drop q).dropWhile (fun b => bi b != 10) = bs.drop q := List.takeWhile_append_dropWhile
    rw [e1] at h3
    have h4 : (bs.drop q).take (j - q) ++ (bs.drop q).drop (j - q) = bs.drop q := List.take_append_drop _ _
    have h5 := List.append_cancel_left (h3.trans h4.symm)
    rw [h5, List.drop_drop]
    congr 1; omega
  rw [e1, e2]
  have e3 : q + ((bs.drop q).take (j - q)).length = j := by simp; omega
  have hlt : q < j := by
    rcases Nat.lt_or_ge q j with h | h'
    · exact h
    · have : j = q := by omega
      subst this
      have := h2 h
      rw [hs] at this
      cases this
  rw [e3]
  exact toksAt_any bs j _ (by omega)
theorem toksAt_err (bs : List UInt8) (q : Nat) (h : q < bs.length) (hb : isBlank bs[q] = false) (hs : ¬ bi bs[q] = 59) {e : Int} (ht : tok bs[q] (bs.drop (q + 1)) = .err e) : toksAt bs q = ([], q, e) := by
  rw [toksAt_step bs q h]
  simp only [toks, hb, Bool.false_eq_true, if_false, hs, ht]
theorem toksAt_ok (bs : List UInt8) (q : Nat) (h : q < bs.length) (hb : isBlank bs[q] = false) (hs : ¬ bi bs[q] = 59) {k : Int} {x : List UInt8} {n : Nat} (ht : tok bs[q] (bs.drop (q + 1)) = .ok k x n) :
    toksAt bs q = ({ kind := k, text := x, at_ := q } :: (toksAt bs (q + n)).1, (toksAt bs (q + n)).2) := by
  rw [toksAt_step bs q h]
  simp only [toks, hb, Bool.false_eq_true, if_false, hs, ht]
  have hn := tok_len _ _ ht
  rw [← List.drop_eq_getElem_cons h, List.drop_drop]
  rw [toksAt_any bs (q + n) _ (by omega)]
/-- What goes ahead. -/
def ahead (l : List Tok) (r : List Tok × Nat × Int) : List Tok × Nat × Int := (l ++ r.1, r.2)
theorem ahead_nil (r : List Tok × Nat × Int) : ahead [] r = r := rfl
theorem ahead_ahead (a b : List Tok) (r : List Tok × Nat × Int) : ahead a (ahead b r) = ahead (a ++ b) r := by simp [ahead]

/-- THE ANSWER: the tokens of bytes, how far they go, and what is wrong there. -/
def lexB (bs : List UInt8) : List Tok × Nat × Int := if 1048576 < bs.length then ([], 0, 3) else toksAt bs 0
end Go.Proofs.YtppbijbgnhmdaaaDoor

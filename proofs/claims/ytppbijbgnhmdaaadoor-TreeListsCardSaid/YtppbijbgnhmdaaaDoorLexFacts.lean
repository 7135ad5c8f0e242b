/- Facts on the plain functions that tell tokens: cutting the bytes. -/
import Derived.Test.YtppbijbgnhmdaaaDoorLexSpec
namespace Go.Proofs.YtppbijbgnhmdaaaDoor
open Go.RowKit

theorem pre_ok {x : List UInt8} {k : Nat} {q : QRes} {t : List UInt8} {n : Nat} (h : q.pre x k = .ok t n) : ∃ t' n', q = .ok t' n' ∧ t = x ++ t' ∧ n = k + n' := by
  cases q with
  | ok t' n' => injection h with h1 h2; exact ⟨t', n', rfl, h1.symm, h2.symm⟩
  | err e => cases h

theorem qscan_take (m : UInt8) : ∀ (l t : List UInt8) (n i : Nat), qscan m l = .ok t n → n ≤ i → qscan m (l.take i) = .ok t n
  | [], t, n, i, h, _ => by simp [qscan] at h
  | [c], t, n, i, h, hi => by
    cases i with
    | zero =>
      simp only [qscan] at h
      split at h
      · injection h with h1 h2; omega
      · split at h <;> cases h
    | succ i => simpa using h
  | c :: d :: r, t, n, i, h, hi => by
    simp only [qscan] at h
    split at h
    · rename_i hc
      obtain ⟨t', n', h1, rfl, rfl⟩ := pre_ok h
      obtain ⟨i', rfl⟩ : ∃ i', i = i' + 2 := ⟨i - 2, by omega⟩
      have := qscan_take m r t' n' i' h1 (by omega)
      show qscan m (c :: d :: r.take i') = _
      simp only [qscan]
      rw [if_pos hc, this]; rfl
    · rename_i hc
      split at h
      · rename_i hc2
        injection h with h1 h2
        subst h1 h2
        obtain ⟨i', rfl⟩ : ∃ i', i = i' + 1 := ⟨i - 1, by omega⟩
        cases i' with
        | zero =>
          show qscan m [c] = _
          simp only [qscan]
          rw [if_pos hc2]
        | succ i' =>
          show qscan m (c :: d :: r.take i') = _
          simp only [qscan]
          rw [if_neg hc, if_pos hc2]
      · rename_i hc2
        split at h
        · cases h
        · rename_i hc3
          obtain ⟨t', n', h1, rfl, rfl⟩ := pre_ok h
          obtain ⟨i', rfl⟩ : ∃ i', i = i' + 1 := ⟨i - 1, by omega⟩
          have h2 := qscan_take m (d :: r) t' n' i' h1 (by omega)
          cases i' with
          | zero =>
            have : n' = 0 := by omega
            subst this
            simp [qscan] at h2
          | succ i' =>
            have h3 : qscan m (d :: r.take i') = .ok t' n' := h2
            show qscan m (c :: d :: r.take i') = _
            simp only [qscan]
            rw [if_neg hc, if_neg hc2, if_neg hc3, h3]; rfl

theorem takeWhile_take {f : UInt8 → Bool} : ∀ (l : List UInt8) (i : Nat), (l.takeWhile f).length ≤ i → (l.take i).takeWhile f = l.takeWhile f
  | [], i, _ => by simp
  | a :: r, i, h => by
    cases ha : f a with
    | false => cases i <;> simp [ha]
    | true =>
      rw [List.takeWhile_cons_of_pos ha] at h ⊢
      simp only [List.length_cons] at h
      obtain ⟨i', rfl⟩ : ∃ i', i = i' + 1 := ⟨i - 1, by omega⟩
      rw [List.take_succ_cons, List.takeWhile_cons_of_pos ha, takeWhile_take r i' (by omega)]
theorem dropWhile_take {f : UInt8 → Bool} : ∀ (l : List UInt8) (i : Nat), (l.takeWhile f).length ≤ i → (l.take i).dropWhile f = (l.dropWhile f).take (i - (l.takeWhile f).length)
  | [], i, _ => by simp
  | a :: r, i, h => by
    cases ha : f a with
    | false => cases i <;> simp [ha]
    | true =>
      rw [List.takeWhile_cons_of_pos ha] at h ⊢
      simp only [List.length_cons] at h
      obtain ⟨i', rfl⟩ : ∃ i', i = i' + 1 := ⟨i - 1, by omega⟩
      rw [List.take_succ_cons, List.dropWhile_cons_of_pos ha, List.dropWhile_cons_of_pos ha, dropWhile_take r i' (by omega)]
      simp

theorem tokMark_len (c : UInt8) (t : List UInt8) {k : Int} {x : List UInt8} {n : Nat} (h : tokMark c t = .ok k x n) : n = t.length + 1 := by
  unfold tokMark at h
  split at h
  · cases h
  · repeat' (split at h)
    all_goals first | (injection h with h1 h2 h3; omega) | (cases h; done)

theorem tok_take (c : UInt8) (r : List UInt8) {k : Int} {x : List UInt8} {n : Nat} (h : tok c r = .ok k x n) (i : Nat) (hi : n ≤ i + 1) : tok c (r.take i) = .ok k x n := by
  unfold tok at h ⊢
  by_cases h1 : bi c = 40
  · rw [if_pos h1] at h ⊢; exact h
  · rw [if_neg h1] at h ⊢
    by_cases h2 : bi c = 41
    · rw [if_pos h2] at h ⊢; exact h
    · rw [if_neg h2] at h ⊢
      by_cases h3 : bi c = 124 ∨ bi c = 34
      · rw [if_pos h3] at h ⊢
        cases hq : qscan c r with
        | err e => rw [hq] at h; cases h
        | ok t n' =>
          rw [hq] at h
          have hn : n = n' + 1 := by unfold tokQuote at h; injection h with _ _ h; exact h.symm
          rw [qscan_take c r t n' i hq (by omega)]
          exact h
      · rw [if_neg h3] at h ⊢
        by_cases h4 : bi c = 58 ∨ bi c = 35
        · rw [if_pos h4] at h ⊢
          have hn := tokMark_len _ _ h
          rw [takeWhile_take r i (by omega)]
          exact h
        · rw [if_neg h4] at h ⊢
          obtain ⟨_, hn, _⟩ := tokWord_len _ h
          have e : c :: r.take i = (c :: r).take (i + 1) := rfl
          rw [e, takeWhile_take (c :: r) (i + 1) (by omega)]
          exact h

/-- The bytes ahead of a token have the tokens ahead of it. -/
theorem toks_cut : ∀ (fuel p : Nat) (l : List UInt8) (k : Nat) (hk : k < (toks fuel p l).1.length), ∃ j, ((toks fuel p l).1[k]).at_ = p + j ∧ j < l.length ∧ ∀ f2, j ≤ f2 → toks f2 p (l.take j) = ((toks fuel p l).1.take k, p + j, 0)
  | 0, p, l, k, hk => absurd hk (by simp [toks])
  | fuel + 1, p, [], k, hk => absurd hk (by simp [toks])
  | fuel + 1, p, c :: r, k, hk => by
    by_cases hb : isBlank c = true
    · have e : toks (fuel + 1) p (c :: r) = toks fuel (p + 1) r := by simp only [toks, hb, if_true]
      rw [e] at hk
      obtain ⟨j, h1, h2, h3⟩ := toks_cut fuel (p + 1) r k hk
      refine ⟨j + 1, ?_, by simpa using h2, fun f2 hf => ?_⟩
      · simp only [e]; rw [h1]; omega
      · obtain ⟨f, rfl⟩ : ∃ f, f2 = f + 1 := ⟨f2 - 1, by omega⟩
        rw [e, List.take_succ_cons]
        simp only [toks, hb, if_true]
        rw [h3 f (by omega)]
        have : p + 1 + j = p + (j + 1) := by omega
        rw [this]
    · by_cases hs : bi c = 59
      · have e : toks (fuel + 1) p (c :: r) = toks fuel (p + ((c :: r).takeWhile (fun b => bi b != 10)).length) ((c :: r).dropWhile (fun b => bi b != 10)) := by simp only [toks, hb, Bool.false_eq_true, if_false, hs, if_true]
        rw [e] at hk
        obtain ⟨j, h1, h2, h3⟩ := toks_cut fuel _ _ k hk
        have hlen : ((c :: r).takeWhile (fun b => bi b != 10)).length + ((c :: r).dropWhile (fun b => bi b != 10)).length = (c :: r).length := by
          rw [← List.length_append, List.takeWhile_append_dropWhile]
        have hpos : 0 < ((c :: r).takeWhile (fun b => bi b != 10)).length := by
          rw [List.takeWhile_cons_of_pos (by rw [hs]; decide)]; simp
        refine ⟨((c :: r).takeWhile (fun b => bi b != 10)).length + j, ?_, by omega, fun f2 hf => ?_⟩
        · simp only [e]; rw [h1]; omega
        · obtain ⟨f, rfl⟩ : ∃ f, f2 = f + 1 := ⟨f2 - 1, by omega⟩
          have ht := takeWhile_take (f := fun b => bi b != 10) (c :: r) (((c :: r).takeWhile (fun b => bi b != 10)).length + j) (by omega)
          have hd := dropWhile_take (f := fun b => bi b != 10) (c :: r) (((c :: r).takeWhile (fun b => bi b != 10)).length + j) (by omega)
          rw [Nat.add_sub_cancel_left] at hd
          rw [e]
          generalize hT : (c :: r).takeWhile (fun b => bi b != 10) = T at *
          generalize hD : (c :: r).dropWhile (fun b => bi b != 10) = D at *
          obtain ⟨j', hj'⟩ : ∃ j', T.length + j = j' + 1 := ⟨T.length + j - 1, by omega⟩
          rw [hj', List.take_succ_cons] at ht hd ⊢
          simp only [toks, hb, Bool.false_eq_true, if_false, hs, if_true]
          rw [ht, hd, h3 f (by omega)]
          have : p + T.length + j = p + (j' + 1) := by omega
          rw [this]
      · cases ht : tok c r with
        | err e => simp [toks, hb, hs, ht] at hk
        | ok kd x n =>
          have e : toks (fuel + 1) p (c :: r) = ({ kind := kd, text := x, at_ := p } :: (toks fuel (p + n) ((c :: r).drop n)).1, (toks fuel (p + n) ((c :: r).drop n)).2) := by simp only [toks, hb, Bool.false_eq_true, if_false, hs, ht]
          have hn := tok_len c r ht
          cases k with
          | zero =>
            refine ⟨0, by simp only [e]; rfl, by simp, fun f2 _ => ?_⟩
            rw [e]
            cases f2 <;> simp [toks]
          | succ k =>
            rw [e] at hk
            obtain ⟨j, h1, h2, h3⟩ := toks_cut fuel (p + n) ((c :: r).drop n) k (by simpa using hk)
            rw [List.length_drop] at h2
            refine ⟨n + j, ?_, by omega, fun f2 hf => ?_⟩
            · simp only [e, List.getElem_cons_succ]; rw [h1]; omega
            · obtain ⟨f, rfl⟩ : ∃ f, f2 = f + 1 := ⟨f2 - 1, by omega⟩
              obtain ⟨j', hj'⟩ : ∃ j', n + j = j' + 1 := ⟨n + j - 1, by omega⟩
              have ht' := tok_take c r ht j' (by omega)
              have hd : (c :: r.take j').drop n = ((c :: r).drop n).take j := by
                have : c :: r.take j' = (c :: r).take (n + j) := by rw [hj']; rfl
                rw [this, List.drop_take]
                congr 1; omega
              rw [e, hj', List.take_succ_cons]
              simp only [toks, hb, Bool.false_eq_true, if_false, hs, ht', List.take_succ_cons]
              rw [hd, h3 f (by omega)]
              have : p + n + j = p + (j' + 1) := by omega
              rw [this]
/-- THE LAW: what is cut off behind a token leaves the tokens ahead of it. -/
theorem lex_cut (bs : List UInt8) (hl : bs.length ≤ 1048576) (k : Nat) (hk : k < (lexB bs).1.length) : ((lexB bs).1[k]).at_ < bs.length ∧ lexB (bs.take ((lexB bs).1[k]).at_) = ((lexB bs).1.take k, ((lexB bs).1[k]).at_, 0) := by
  have e : ∀ l : List UInt8, l.length ≤ 1048576 → lexB l = toks l.length 0 l := fun l h => by
    unfold lexB toksAt
    rw [if_neg (by omega)]; rfl
  have e0 := e bs hl
  have hk' := hk
  rw [e0] at hk'
  obtain ⟨j, h1, h2, h3⟩ := toks_cut bs.length 0 bs k hk'
  rw [Nat.zero_add] at h1
  have h4 : ((lexB bs).1[k]).at_ = j := by simp only [e0]; exact h1
  rw [h4]
  refine ⟨h2, ?_⟩
  rw [e _ (by simp; omega), h3 _ (by simp; omega), Nat.zero_add, e0]
end Go.Proofs.YtppbijbgnhmdaaaDoor

/- Facts on the plain functions that tell tokens: a token written anew is that token. -/
namespace Go.Proofs.YtppbijbgnhmdaaaDoor
open Go.RowKit

theorem bi_inj {a b : UInt8} (h : bi a = bi b) : a = b := by
  unfold bi at h
  exact UInt8.toNat_inj.1 (by omega)

def dbl : List UInt8 → List UInt8
  | [] => []
  | c :: r => (if bi c = 34 then [c, 34] else [c]) ++ dbl r
def retext (k : Int) (x : List UInt8) : List UInt8 :=
  if k = 3 then (if plainB x then x else 124 :: (x ++ [124])) else if k = 5 then 34 :: (dbl x ++ [34]) else if k = 6 then 58 :: x else x

/-- What may stand behind a token. -/
def Ends (rest : List UInt8) : Prop := ∀ d, ∀ r, rest = d :: r → isLetter d = false ∧ ¬ bi d = 34
theorem Ends.nil : Ends [] := fun d r h => by cases h

theorem qscan_go0 (m c : UInt8) (l : List UInt8) (e1 : ¬ bi c = bi m) (hb : badIn m c = false) : qscan m (c :: l) = (qscan m l).pre [c] 1 := by
  have := qscan_go m (c :: l) 0 (by simp) e1 hb
  simpa using this
theorem qscan_close0 (m c : UInt8) (l : List UInt8) (e1 : bi c = bi m) (hn : ¬ (bi m = 34 ∧ ∃ d r, l = d :: r ∧ bi d = 34)) : qscan m (c :: l) = .ok [] 1 := by
  have := qscan_close m (c :: l) 0 (by simp) e1 (fun ⟨h1, h2, h3⟩ => hn ⟨h1, by
    cases l with
    | nil => simp at h2
    | cons d r => exact ⟨d, r, rfl, by simpa [h1] using h3⟩⟩)
  simpa using this
theorem qscan_pair0 (m c d : UInt8) (l : List UInt8) (e1 : bi c = bi m) (e2 : bi m = 34) (e3 : bi d = bi m) : qscan m (c :: d :: l) = (qscan m l).pre [c] 2 := by
  have := qscan_pair m (c :: d :: l) 0 (by simp) (by simp) e1 e2 e3
  simpa using this

theorem qscan_chars (m : UInt8) : ∀ (l t : List UInt8) (n : Nat), qscan m l = .ok t n → (∀ x ∈ t, (bi x = bi m ∧ bi m = 34) ∨ (¬ bi x = bi m ∧ badIn m x = false)) ∧ n = (if bi m = 34 then dbl t else t).length + 1
  | [], t, n, h => by simp [qscan] at h
  | [c], t, n, h => by
    simp only [qscan] at h
    split at h
    · injection h with h1 h2; subst h1 h2
      exact ⟨fun x hx => (by cases hx), (by split <;> rfl)⟩
    · split at h <;> cases h
  | c :: d :: r, t, n, h => by
    simp only [qscan] at h
    split at h
    · rename_i hc
      obtain ⟨t', n', h1, rfl, rfl⟩ := pre_ok h
      obtain ⟨h2, h3⟩ := qscan_chars m r t' n' h1
      refine ⟨fun x hx => ?_, ?_⟩
      · rcases List.mem_cons.1 hx with rfl | hx
        · exact .inl ⟨hc.1, hc.2.1⟩
        · exact h2 x hx
      · rw [if_pos hc.2.1] at h3 ⊢
        show 2 + n' = (dbl (c :: t')).length + 1
        have : bi c = 34 := hc.1.trans hc.2.1
        simp [dbl, this]; omega
    · split at h
      · injection h with h1 h2; subst h1 h2
        exact ⟨fun x hx => (by cases hx), (by split <;> rfl)⟩
      · rename_i hc2
        split at h
        · cases h
        · rename_i hc3
          obtain ⟨t', n', h1, rfl, rfl⟩ := pre_ok h
          obtain ⟨h2, h3⟩ := qscan_chars m (d :: r) t' n' h1
          refine ⟨fun x hx => ?_, ?_⟩
          · rcases List.mem_cons.1 hx with rfl | hx
            · exact .inr ⟨hc2, by simpa using hc3⟩
            · exact h2 x hx
          · by_cases hm : bi m = 34
            · rw [if_pos hm] at h3 ⊢
              show 1 + n' = (dbl (c :: t')).length + 1
              have : ¬ bi c = 34 := fun e => hc2 (e.trans hm.symm)
              simp [dbl, this]; omega
            · rw [if_neg hm] at h3 ⊢
              simp; omega

theorem qscan_bar (rest : List UInt8) : ∀ t : List UInt8, (∀ x ∈ t, ¬ bi x = bi 124 ∧ badIn 124 x = false) → qscan 124 (t ++ 124 :: rest) = .ok t (t.length + 1)
  | [], _ => by
    have : ¬ (bi 124 = 34) := by decide
    exact qscan_close0 124 124 rest rfl (fun h => this h.1)
  | c :: t, h => by
    obtain ⟨h1, h2⟩ := h c (by simp)
    have ih := qscan_bar rest t (fun x hx => h x (by simp [hx]))
    show qscan 124 (c :: (t ++ 124 :: rest)) = _
    rw [qscan_go0 124 c _ h1 h2, ih]
    simp [QRes.pre]; omega
theorem qscan_dbl (rest : List UInt8) (hr : Ends rest) : ∀ t : List UInt8, (∀ x ∈ t, (bi x = bi 34 ∧ bi 34 = 34) ∨ (¬ bi x = bi 34 ∧ badIn 34 x = false)) → qscan 34 (dbl t ++ 34 :: rest) = .ok t ((dbl t).length + 1)
  | [], _ => qscan_close0 34 34 rest rfl (fun h => by
      obtain ⟨d, r, e, hd⟩ := h.2
      exact (hr d r e).2 hd)
  | c :: t, h => by
    have ih := qscan_dbl rest hr t (fun x hx => h x (by simp [hx]))
    have h34 : bi 34 = 34 := by decide
    rcases h c (by simp) with ⟨h1, _⟩ | ⟨h1, h2⟩
    · have e : bi c = 34 := h1.trans h34
      simp only [dbl, e, if_true, List.cons_append, List.nil_append]
      rw [qscan_pair0 34 c 34 _ h1 h34 rfl, ih]
      simp [QRes.pre]; omega
    · have e : ¬ bi c = 34 := fun e => h1 (e.trans h34.symm)
      simp only [dbl, e, if_false, List.cons_append, List.nil_append]
      rw [qscan_go0 34 c _ h1 h2, ih]
      simp [QRes.pre]; omega

theorem word_ends (t rest : List UInt8) (ht : ∀ x ∈ t, isLetter x = true) (hr : Ends rest) : (t ++ rest).takeWhile isLetter = t := by
  induction t with
  | nil =>
    cases rest with
    | nil => rfl
    | cons d r => rw [List.nil_append, List.takeWhile_cons_of_neg (by simp [(hr d r rfl).1])]
  | cons a t ih =>
    rw [List.cons_append, List.takeWhile_cons_of_pos (ht a (by simp)), ih (fun x hx => ht x (by simp [hx]))]
theorem takeWhile_all (l : List UInt8) : ∀ x ∈ l.takeWhile isLetter, isLetter x = true := by
  intro x hx
  have := List.all_takeWhile (p := isLetter) (l := l)
  rw [List.all_eq_true] at this
  exact this x hx

theorem letter_marks : ∀ c : UInt8, isLetter c = true → isBlank c = false ∧ ¬ bi c = 59 ∧ ¬ bi c = 40 ∧ ¬ bi c = 41 ∧ ¬ bi c = 124 ∧ ¬ bi c = 34 ∧ ¬ bi c = 58 ∧ ¬ bi c = 35 := by
  have key : ∀ i : Fin 256, (bits BinOp.and IntKind.u8 ((cl i.val : Nat) : Int) 1 != 0) = true → (bits BinOp.and IntKind.u8 ((cl i.val : Nat) : Int) 4 != 0) = false ∧ ¬ ((i.val : Nat) : Int) = 59 ∧ ¬ ((i.val : Nat) : Int) = 40 ∧ ¬ ((i.val : Nat) : Int) = 41 ∧ ¬ ((i.val : Nat) : Int) = 124 ∧ ¬ ((i.val : Nat) : Int) = 34 ∧ ¬ ((i.val : Nat) : Int) = 58 ∧ ¬ ((i.val : Nat) : Int) = 35 := by decide +kernel
  intro c h
  exact key ⟨c.toNat, c.toNat_lt⟩ h
theorem plain_letters (t : List UInt8) (h : plainB t = true) : t ≠ [] ∧ ∀ x ∈ t, isLetter x = true := by
  unfold plainB at h
  simp only [Bool.and_eq_true] at h
  obtain ⟨⟨h1, h2⟩, _⟩ := h
  refine ⟨fun e => by subst e; simp at h1, fun x hx => ?_⟩
  have := List.all_eq_true.1 h2 x hx
  exact this

/-- A token's own bytes: what they begin with, and that they are that token. -/
structure Again (k : Int) (x : List UInt8) (w : List UInt8) : Prop where
  out : ∃ c r, w = c :: r ∧ isBlank c = false ∧ ¬ bi c = 59 ∧ ∀ rest, Ends rest → tok c (r ++ rest) = .ok k x w.length

theorem again_word (t : List UInt8) (k : Int) (x : List UInt8) (n : Nat) (hall : ∀ y ∈ t, isLetter y = true) (h : tokWord t = .ok k x n) : Again k x t := by
  obtain ⟨rfl, rfl, h0⟩ := tokWord_len t h
  cases x with
  | nil => simp at h0
  | cons c r =>
    obtain ⟨h1, h2, h3⟩ := letter_marks c (hall c (by simp))
    refine ⟨c, r, rfl, h1, h2, fun rest hr => ?_⟩
    rw [tok_word _ h3]
    have : (c :: (r ++ rest)).takeWhile isLetter = c :: r := word_ends (c :: r) rest hall hr
    rw [this]; exact h

theorem mark_of {c : UInt8} {n : UInt8} (h : bi c = bi n) : c = n := bi_inj h

theorem tok_again (c : UInt8) (r : List UInt8) {k : Int} {x : List UInt8} {n : Nat} (h : tok c r = .ok k x n) : Again k x (retext k x) ∧ (retext k x).length ≤ n := by
  unfold tok at h
  by_cases h1 : bi c = 40
  · rw [if_pos h1] at h
    injection h with e1 e2 e3; subst e1 e2 e3
    exact ⟨⟨40, [], rfl, by decide, by decide, fun rest _ => rfl⟩, Nat.le_refl _⟩
  · rw [if_neg h1] at h
    by_cases h2 : bi c = 41
    · rw [if_pos h2] at h
      injection h with e1 e2 e3; subst e1 e2 e3
      exact ⟨⟨41, [], rfl, by decide, by decide, fun rest _ => rfl⟩, Nat.le_refl _⟩
    · rw [if_neg h2] at h
      by_cases h3 : bi c = 124 ∨ bi c = 34
      · rw [if_pos h3] at h
        cases hq : qscan c r with
        | err e => rw [hq] at h; cases h
        | ok t n' =>
          rw [hq] at h
          obtain ⟨hch, hn⟩ := qscan_chars c r t n' hq
          rcases h3 with h3 | h3
          · have hc : c = 124 := bi_inj (h3.trans (by decide))
            subst hc
            have hne : ¬ bi (124 : UInt8) = 34 := by decide
            unfold tokQuote at h
            rw [if_neg hne] at h
            injection h with e1 e2 e3; subst e1 e2 e3
            rw [if_neg hne] at hn
            unfold retext
            rw [if_pos rfl]
            cases hp : plainB t with
            | true =>
              obtain ⟨hne2, hall⟩ := plain_letters t hp
              rw [if_pos rfl]
              refine ⟨again_word t 3 t t.length hall ?_, by omega⟩
              unfold tokWord
              rw [if_neg hne2, if_pos hp]
            | false =>
              rw [if_neg (by simp)]
              refine ⟨⟨124, t ++ [124], rfl, by decide, by decide, fun rest hr => ?_⟩, by simp; omega⟩
              rw [tok_quote _ (.inl (by decide))]
              have := qscan_bar rest t (fun y hy => by
                rcases hch y hy with h | h
                · exact absurd h.2 hne
                · exact h)
              rw [List.append_assoc, List.singleton_append, this]
              show TRes.ok (if bi 124 = 34 then 5 else 3) t (t.length + 1 + 1) = _
              rw [if_neg hne]; simp
          · have hc : c = 34 := bi_inj (h3.trans (by decide))
            subst hc
            have h34 : bi (34 : UInt8) = 34 := by decide
            unfold tokQuote at h
            rw [if_pos h34] at h
            injection h with e1 e2 e3; subst e1 e2 e3
            rw [if_pos h34] at hn
            have er : retext 5 t = 34 :: (dbl t ++ [34]) := rfl
            rw [er]
            refine ⟨⟨34, dbl t ++ [34], rfl, by decide, by decide, fun rest hr => ?_⟩, by simp; omega⟩
            rw [tok_quote _ (.inr (by decide))]
            have := qscan_dbl rest hr t hch
            rw [List.append_assoc, List.singleton_append, this]
            show TRes.ok (if bi 34 = 34 then 5 else 3) t ((dbl t).length + 1 + 1) = _
            rw [if_pos h34]; simp
      · rw [if_neg h3] at h
        by_cases h4 : bi c = 58 ∨ bi c = 35
        · rw [if_pos h4] at h
          have hall := takeWhile_all r
          generalize r.takeWhile isLetter = t at h hall
          have hn := tokMark_len c t h
          have h' := h
          unfold tokMark at h
          by_cases ht : t = []
          · rw [if_pos ht] at h; cases h
          · rw [if_neg ht] at h
            by_cases h5 : bi c = 35
            · have hc : c = 35 := bi_inj (h5.trans (by decide))
              subst hc
              rw [if_pos h5] at h
              split at h
              · injection h with e1 e2 e3; subst e1 e2 e3
                have er : retext 7 (35 :: t) = 35 :: t := rfl
                rw [er]
                refine ⟨⟨35, t, rfl, by decide, by decide, fun rest hr => ?_⟩, by simp⟩
                rw [tok_mark _ (.inr (by decide)), word_ends t rest hall hr]
                exact h'
              · cases h
            · have hc : c = 58 := bi_inj ((h4.resolve_right h5).trans (by decide))
              subst hc
              rw [if_neg h5] at h
              injection h with e1 e2 e3; subst e1 e2 e3
              have er : retext 6 t = 58 :: t := rfl
              rw [er]
              refine ⟨⟨58, t, rfl, by decide, by decide, fun rest hr => ?_⟩, by simp⟩
              rw [tok_mark _ (.inl (by decide)), word_ends t rest hall hr]
              exact h'
        · rw [if_neg h4] at h
          have hall := takeWhile_all (c :: r)
          generalize (c :: r).takeWhile isLetter = t at h hall
          obtain ⟨rfl, rfl, h0⟩ := tokWord_len t h
          have er : retext k x = x := by
            unfold tokWord at h
            split at h
            · cases h
            · split at h
              · rename_i hp
                injection h with e1; subst e1
                unfold retext; rw [if_pos rfl, if_pos hp]
              · split at h
                · injection h with e1; subst e1; rfl
                · split at h
                  · injection h with e1; subst e1; rfl
                  · cases h
          rw [er]
          exact ⟨again_word x k x x.length hall h, Nat.le_refl _⟩
end Go.Proofs.YtppbijbgnhmdaaaDoor

/- Facts on the plain functions that tell tokens: tokens written one by one with blanks between. -/
namespace Go.Proofs.YtppbijbgnhmdaaaDoor
open Go.RowKit

def toksL (p : Nat) (l : List UInt8) : List Tok × Nat × Int := toks l.length p l
theorem toksL_nil (p : Nat) : toksL p [] = ([], p, 0) := rfl
theorem toksL_fuel (f p : Nat) (l : List UInt8) (h : l.length ≤ f) : toks f p l = toksL p l := toks_fuel _ l (Nat.le_refl _) f h p
theorem toksL_blank (p : Nat) (c : UInt8) (r : List UInt8) (h : isBlank c = true) : toksL p (c :: r) = toksL (p + 1) r := by
  show toks (r.length + 1) p (c :: r) = _
  simp only [toks, h, if_true]; rfl
theorem toksL_semi (p : Nat) (c : UInt8) (r : List UInt8) (h : bi c = 59) : toksL p (c :: r) = toksL (p + ((c :: r).takeWhile (fun b => bi b != 10)).length) ((c :: r).dropWhile (fun b => bi b != 10)) := by
  have hb : isBlank c = false := by
    have : c = 59 := bi_inj (h.trans (by decide))
    subst this; decide
  show toks (r.length + 1) p (c :: r) = _
  simp only [toks, hb, Bool.false_eq_true, if_false, h, if_true]
  refine toksL_fuel _ _ _ ?_
  rw [List.dropWhile_cons_of_pos (by rw [h]; decide)]
  exact (List.dropWhile_sublist _).length_le
theorem toksL_tok (p : Nat) (c : UInt8) (r : List UInt8) (hb : isBlank c = false) (hs : ¬ bi c = 59) {k : Int} {x : List UInt8} {n : Nat} (h : tok c r = .ok k x n) :
    toksL p (c :: r) = ({ kind := k, text := x, at_ := p } :: (toksL (p + n) ((c :: r).drop n)).1, (toksL (p + n) ((c :: r).drop n)).2) := by
  show toks (r.length + 1) p (c :: r) = _
  simp only [toks, hb, Bool.false_eq_true, if_false, hs, h]
  have hn := tok_len c r h
  rw [toksL_fuel _ _ _ (by rw [List.length_drop, List.length_cons]; omega)]

/-- A row of blanks: it ends a token, and it is passed by. -/
structure Between (l : List UInt8) : Prop where
  ends : ∀ rest, Ends (l ++ rest)
  pass : ∀ p rest, toksL p (l ++ rest) = toksL (p + l.length) rest
theorem ends_of (c : UInt8) (l : List UInt8) (h1 : isLetter c = false) (h2 : ¬ bi c = 34) : ∀ rest, Ends (c :: l ++ rest) := fun rest d r e => by
  injection e with e1 _; subst e1; exact ⟨h1, h2⟩
theorem between0 : Between [32] := ⟨ends_of _ _ (by decide) (by decide), fun p rest => toksL_blank p 32 rest (by decide)⟩
theorem between1 : Between [10] := ⟨ends_of _ _ (by decide) (by decide), fun p rest => toksL_blank p 10 rest (by decide)⟩
theorem between2 : Between [9, 32, 13] := ⟨ends_of _ _ (by decide) (by decide), fun p rest => by
  show toksL p (9 :: 32 :: 13 :: rest) = _
  rw [toksL_blank p 9 _ (by decide), toksL_blank _ 32 _ (by decide), toksL_blank _ 13 _ (by decide)]; rfl⟩
theorem between3 : Between [59, 32, 40, 97, 32, 124, 10] := ⟨ends_of _ _ (by decide) (by decide), fun p rest => by
  show toksL p (59 :: 32 :: 40 :: 97 :: 32 :: 124 :: 10 :: rest) = _
  rw [toksL_semi p 59 _ (by decide)]
  have h1 : (59 :: 32 :: 40 :: 97 :: 32 :: 124 :: 10 :: rest).takeWhile (fun b => bi b != 10) = [59, 32, 40, 97, 32, 124] := rfl
  have h2 : (59 :: 32 :: 40 :: 97 :: 32 :: 124 :: 10 :: rest).dropWhile (fun b => bi b != 10) = 10 :: rest := rfl
  rw [h1, h2, toksL_blank _ 10 _ (by decide)]; rfl⟩
theorem between4 : Between [32, 59, 10, 10] := ⟨ends_of _ _ (by decide) (by decide), fun p rest => by
  show toksL p (32 :: 59 :: 10 :: 10 :: rest) = _
  rw [toksL_blank p 32 _ (by decide), toksL_semi _ 59 _ (by decide)]
  have h1 : (59 :: 10 :: 10 :: rest).takeWhile (fun b => bi b != 10) = [59] := rfl
  have h2 : (59 :: 10 :: 10 :: rest).dropWhile (fun b => bi b != 10) = 10 :: 10 :: rest := rfl
  rw [h1, h2, toksL_blank _ 10 _ (by decide), toksL_blank _ 10 _ (by decide)]; rfl⟩

/-- The tokens written one by one, with a row of blanks behind each. -/
def joinB (blk : Nat → List UInt8) : Nat → List Tok → List UInt8
  | _, [] => []
  | i, t :: r => retext t.kind t.text ++ (blk i ++ joinB blk (i + 1) r)
theorem joinB_toks (blk : Nat → List UInt8) (hblk : ∀ i, Between (blk i)) : ∀ (L : List Tok) (i p : Nat), (∀ t ∈ L, Again t.kind t.text (retext t.kind t.text)) →
    ∃ L', toksL p (joinB blk i L) = (L', p + (joinB blk i L).length, 0) ∧ L'.map (fun t => (t.kind, t.text)) = L.map (fun t => (t.kind, t.text))
  | [], i, p, _ => ⟨[], rfl, rfl⟩
  | t :: r, i, p, h => by
    obtain ⟨c, w, hw, hb, hs, ht⟩ := (h t (by simp)).out
    have ht2 := ht (blk i ++ joinB blk (i + 1) r) ((hblk i).ends _)
    obtain ⟨L', h1, h2⟩ := joinB_toks blk hblk r (i + 1) (p + (retext t.kind t.text).length + (blk i).length) (fun u hu => h u (by simp [hu]))
    refine ⟨{ kind := t.kind, text := t.text, at_ := p } :: L', ?_, by simp [h2]⟩
    have e : joinB blk i (t :: r) = c :: (w ++ (blk i ++ joinB blk (i + 1) r)) := by
      show retext t.kind t.text ++ _ = _
      rw [hw]; rfl
    have ed : (c :: (w ++ (blk i ++ joinB blk (i + 1) r))).drop (retext t.kind t.text).length = blk i ++ joinB blk (i + 1) r := by
      rw [hw]; simp
    have el : (joinB blk i (t :: r)).length = (retext t.kind t.text).length + ((blk i).length + (joinB blk (i + 1) r).length) := by
      show (retext t.kind t.text ++ _).length = _
      simp
    rw [el, e, toksL_tok p c _ hb hs ht2, ed, (hblk i).pass, h1]
    simp; omega
/-- How long the tokens' own bytes are. -/
theorem toks_again : ∀ (f p : Nat) (l : List UInt8), (∀ t ∈ (toks f p l).1, Again t.kind t.text (retext t.kind t.text)) ∧ ((toks f p l).1.map fun t => (retext t.kind t.text).length).sum ≤ l.length ∧ (toks f p l).1.length ≤ l.length
  | 0, p, l => by simp [toks]
  | f + 1, p, [] => by simp [toks]
  | f + 1, p, c :: r => by
    simp only [toks]
    split
    · obtain ⟨h1, h2, h3⟩ := toks_again f (p + 1) r
      exact ⟨h1, by simp; omega, by simp; omega⟩
    · split
      · obtain ⟨h1, h2, h3⟩ := toks_again f (p + ((c :: r).takeWhile (fun b => bi b != 10)).length) ((c :: r).dropWhile (fun b => bi b != 10))
        have h4 := (List.dropWhile_sublist (fun b => bi b != 10) (l := c :: r)).length_le
        exact ⟨h1, by omega, by omega⟩
      · cases ht : tok c r with
        | err e => simp
        | ok kd x n =>
          obtain ⟨h1, h2, h3⟩ := toks_again f (p + n) ((c :: r).drop n)
          have h4 := tok_len c r ht
          obtain ⟨h5, h6⟩ := tok_again c r ht
          rw [List.length_drop] at h2 h3
          refine ⟨fun t hm => ?_, ?_, ?_⟩
          · rcases List.mem_cons.1 hm with rfl | hm
            · exact h5
            · exact h1 t hm
          · simp only [List.map_cons, List.sum_cons, List.length_cons] at h2 ⊢; omega
          · simp only [List.length_cons] at h3 ⊢; omega
theorem lexB_toksL (bs : List UInt8) (h : bs.length ≤ 1048576) : lexB bs = toksL 0 bs := by
  unfold lexB toksAt
  rw [if_neg (by omega)]; rfl
theorem lex_again (bs : List UInt8) (h : bs.length ≤ 1048576) : (∀ t ∈ (lexB bs).1, Again t.kind t.text (retext t.kind t.text)) ∧ ((lexB bs).1.map fun t => (retext t.kind t.text).length).sum ≤ bs.length ∧ (lexB bs).1.length ≤ bs.length := by
  rw [lexB_toksL bs h]; exact toks_again _ _ _
theorem joinB_len (blk : Nat → List UInt8) (m : Nat) (hblk : ∀ i, (blk i).length ≤ m) : ∀ (L : List Tok) (i : Nat), (joinB blk i L).length ≤ (L.map fun t => (retext t.kind t.text).length).sum + m * L.length
  | [], i => Nat.zero_le _
  | t :: r, i => by
    have := joinB_len blk m hblk r (i + 1)
    have h := hblk i
    simp only [joinB, List.length_append, List.map_cons, List.sum_cons, List.length_cons, Nat.mul_add, Nat.mul_one]
    omega
/-- THE LAW: tokens written anew, with blanks between. -/
theorem lex_between (bs : List UInt8) (blk : Nat → List UInt8) (hblk : ∀ i, Between (blk i)) (hl : bs.length ≤ 1048576) (hl2 : (joinB blk 0 (lexB bs).1).length ≤ 1048576) :
    (lexB (joinB blk 0 (lexB bs).1)).2.2 = 0 ∧ (lexB (joinB blk 0 (lexB bs).1)).1.map (fun t => (t.kind, t.text)) = (lexB bs).1.map (fun t => (t.kind, t.text)) := by
  obtain ⟨L', h1, h2⟩ := joinB_toks blk hblk (lexB bs).1 0 0 (lex_again bs hl).1
  rw [lexB_toksL _ hl2, h1]
  exact ⟨rfl, h2⟩
/-- A token's own bytes, alone. -/
theorem lex_alone {k : Int} {x w : List UInt8} (h : Again k x w) (hl : w.length ≤ 1048576) : lexB w = ([{ kind := k, text := x, at_ := 0 }], w.length, 0) := by
  obtain ⟨c, r, rfl, hb, hs, ht⟩ := h.out
  have := ht [] Ends.nil
  rw [List.append_nil] at this
  rw [lexB_toksL _ hl, toksL_tok 0 c r hb hs this]
  have e : (c :: r).drop (c :: r).length = [] := List.drop_length
  rw [e, Nat.zero_add, toksL_nil]
/-- Places rise. -/
theorem toks_rise : ∀ (f p : Nat) (l : List UInt8) (i : Nat) (h : i < (toks f p l).1.length), p ≤ ((toks f p l).1[i]).at_ ∧ ∀ j, ∀ h2 : j < i, ((toks f p l).1[j]'(by omega)).at_ < ((toks f p l).1[i]).at_
  | 0, p, l, i, h => absurd h (by simp [toks])
  | f + 1, p, [], i, h => absurd h (by simp [toks])
  | f + 1, p, c :: r, i, h => by
    by_cases hb : isBlank c = true
    · have e : toks (f + 1) p (c :: r) = toks f (p + 1) r := by simp only [toks, hb, if_true]
      rw [e] at h
      obtain ⟨h1, h2⟩ := toks_rise f (p + 1) r i h
      simp only [e]
      exact ⟨by omega, h2⟩
    · by_cases hs : bi c = 59
      · have e : toks (f + 1) p (c :: r) = toks f (p + ((c :: r).takeWhile (fun b => bi b != 10)).length) ((c :: r).dropWhile (fun b => bi b != 10)) := by simp only [toks, hb, Bool.false_eq_true, if_false, hs, if_true]
        rw [e] at h
        obtain ⟨h1, h2⟩ := toks_rise f _ _ i h
        simp only [e]
        exact ⟨by omega, h2⟩
      · cases ht : tok c r with
        | err er => simp [toks, hb, hs, ht] at h
        | ok kd x n =>
          have e : toks (f + 1) p (c :: r) = ({ kind := kd, text := x, at_ := p } :: (toks f (p + n) ((c :: r).drop n)).1, (toks f (p + n) ((c :: r).drop n)).2) := by simp only [toks, hb, Bool.false_eq_true, if_false, hs, ht]
          have hn := tok_len c r ht
          rw [e] at h
          simp only [e]
          cases i with
          | zero => exact ⟨Nat.le_refl _, fun j hj => absurd hj (Nat.not_lt_zero _)⟩
          | succ i =>
            obtain ⟨h1, h2⟩ := toks_rise f (p + n) ((c :: r).drop n) i (by simpa using h)
            refine ⟨by simp only [List.getElem_cons_succ]; omega, fun j hj => ?_⟩
            cases j with
            | zero => simp only [List.getElem_cons_zero, List.getElem_cons_succ]; omega
            | succ j => simpa using h2 j (by omega)
theorem lex_rise (bs : List UInt8) (hl : bs.length ≤ 1048576) (i j : Nat) (h : i < (lexB bs).1.length) (hj : j < i) : ((lexB bs).1[j]'(by omega)).at_ < ((lexB bs).1[i]).at_ := by
  have e := lexB_toksL bs hl
  have h' := h
  rw [e] at h'
  have := (toks_rise bs.length 0 bs i h').2 j hj
  simp only [e]
  exact this
end Go.Proofs.YtppbijbgnhmdaaaDoor


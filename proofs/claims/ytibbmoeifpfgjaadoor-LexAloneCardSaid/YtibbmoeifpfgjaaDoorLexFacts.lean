/- Facts on the plain functions that tell tokens: cutting the bytes. -/
import Derived.Test.YtibbmoeifpfgjaaDoorLexSpec
namespace Go.Proofs.YtibbmoeifpfgjaaDoor
open Go.RowKit

theorem pre_ok {x : List UInt8} {k : Nat} {q : QRes} {t : List UInt8} {n : Nat} (h : q.pre x k = .ok t n) : ∃ t' n', q = .ok t' n' ∧ t = x ++ t' ∧ n = k + n' := by
  cases q with
  | ok t' n' => injection h with h1 h2; exact ⟨t', n', rfl, h1.symm, h2.symm⟩
  | err e => cases h

theorem qscan_take (m : UInt8) : ∀ (l t : List UInt8) (n i : Nat), qscan m l = .ok t n → n ≤ i → qscan m (l.take i) = .ok t n
  | [], t, n, i, h, _ => by simp [qscan] at h
  | [c], t, n, i, h, hi => by
    cases i with
    | zero =>
      simp only [qscan] at h
      split at h
      · injection h with h1 h2; omega
      · split at h <;> cases h
    | succ i => simpa using h
  | c :: d :: r, t, n, i, h, hi => by
    simp only [qscan] at h
    split at h
    · rename_i hc
      obtain ⟨t', n', h1, rfl, rfl⟩ := pre_ok h
      obtain ⟨i', rfl⟩ : ∃ i', i = i' + 2 := ⟨i - 2, by omega⟩
      have := qscan_take m r t' n' i' h1 (by omega)
      show qscan m (c :: d :: r.take i') = _
      simp only [qscan]
      rw [if_pos hc, this]; rfl
    · rename_i hc
      split at h
      · rename_i hc2
        injection h with h1 h2
        subst h1 h2
        obtain ⟨i', rfl⟩ : ∃ i', i = i' + 1 := ⟨i - 1, by omega⟩
        cases i' with
        | zero =>
          show qscan m [c] = _
          simp only [qscan]
          rw [if_pos hc2]
        | succ i' =>
          show qscan m (c :: d :: r.take i') = _
          simp only [qscan]
          rw [if_neg hc, if_pos hc2]
      · rename_i hc2
        split at h
        · cases h
        · rename_i hc3
          obtain ⟨t', n', h1, rfl, rfl⟩ := pre_ok h
          obtain ⟨i', rfl⟩ : ∃ i', i = i' + 1 := ⟨i - 1, by omega⟩
          have h2 := qscan_take m (d :: r) t' n' i' h1 (by omega)
          cases i' with
          | zero =>
            have : n' = 0 := by omega
            subst this
            simp [qscan] at h2
          | succ i' =>
            have h3 : qscan m (d :: r.take i') = .ok t' n' := h2
            show qscan m (c :: d :: r.take i') = _
            simp only [qscan]
            rw [if_neg hc, if_neg hc2, if_neg hc3, h3]; rfl

theorem takeWhile_take {f : UInt8 → Bool} : ∀ (l : List UInt8) (i : Nat), (l.takeWhile f).length ≤ i → (l.take i).takeWhile f = l.takeWhile f
  | [], i, _ => by simp
  | a :: r, i, h => by
    cases ha : f a with
    | false => cases i <;> simp [ha]
    | true =>
      rw [List.takeWhile_cons_of_pos ha] at h ⊢
      simp only [List.length_cons] at h
      obtain ⟨i', rfl⟩ : ∃ i', i = i' + 1 := ⟨i - 1, by omega⟩
      rw [List.take_succ_cons, List.takeWhile_cons_of_pos ha, takeWhile_take r i' (by omega)]
theorem dropWhile_take {f : UInt8 → Bool} : ∀ (l : List UInt8) (i : Nat), (l.takeWhile f).length ≤ i → (l.take i).dropWhile f = (l.dropWhile f).take (i - (l.takeWhile f).length)
  | [], i, _ => by simp
  | a :: r, i, h => by
    cases ha : f a with
    | false => cases i <;> simp [ha]
    | true =>
      rw [List.takeWhile_cons_of_pos ha] at h ⊢
      simp only [List.length_cons] at h
      obtain ⟨i', rfl⟩ : ∃ i', i = i' + 1 := ⟨i - 1, by omega⟩
      rw [List.take_succ_cons, List.dropWhile_cons_of_pos ha, List.dropWhile_cons_of_pos ha, dropWhile_take r i' (by omega)]
      simp

theorem tokMark_len (c : UInt8) (t : List UInt8) {k : Int} {x : List UInt8} {n : Nat} (h : tokMark c t = .ok k x n) : n = t.length + 1 := by
  unfold tokMark at h
  split at h
  · cases h
  · repeat' (split at h)
    all_goals first | (injection h with h1 h2 h3; omega) | (cases h; done)

theorem tok_take (c : UInt8) (r : List UInt8) {k : Int} {x : List UInt8} {n : Nat} (h : tok c r = .ok k x n) (i : Nat) (hi : n ≤ i + 1) : tok c (r.take i) = .ok k x n := by
  unfold tok at h ⊢
  by_cases h1 : bi c = 40
  · rw [if_pos h1] at h ⊢; exact h
  · rw [if_neg h1] at h ⊢
    by_cases h2 : bi c = 41
    · rw [if_pos h2] at h ⊢; exact h
    · rw [if_neg h2] at h ⊢
      by_cases h3 : bi c = 124 ∨ bi c = 34
      · rw [if_pos h3] at h ⊢
        cases hq : qscan c r with
        | err e => rw [hq] at h; cases h
        | ok t n' =>
          rw [hq] at h
          have hn : n = n' + 1 := by unfold tokQuote at h; injection h with _ _ h; exact h.symm
          rw [qscan_take c r t n' i hq (by omega)]
          exact h
      · rw [if_neg h3] at h ⊢
        by_cases h4 : bi c = 58 ∨ bi c = 35
        · rw [if_pos h4] at h ⊢
          have hn := tokMark_len _ _ h
          rw [takeWhile_take r i (by omega)]
          exact h
        · rw [if_neg h4] at h ⊢
          obtain ⟨_, hn, _⟩ := tokWord_len _ h
          have e : c :: r.take i = (c :: r).take (i + 1) := rfl
          rw [e, takeWhile_take (c :: r) (i + 1) (by omega)]
          exact h

/-- The bytes ahead of a token have the tokens ahead of it. -/
theorem toks_cut : ∀ (fuel p : Nat) (l : List UInt8) (k : Nat) (hk : k < (toks fuel p l).1.length), ∃ j, ((toks fuel p l).1[k]).at_ = p + j ∧ j < l.length ∧ ∀ f2, j ≤ f2 → toks f2 p (l.take j) = ((toks fuel p l).1.take k, p + j, 0)
  | 0, p, l, k, hk => absurd hk (by simp [toks])
  | fuel + 1, p, [], k, hk => absurd hk (by simp [toks])
  | fuel + 1, p, c :: r, k, hk => by
    by_cases hb : isBlank c = true
    · have e : toks (fuel + 1) p (c :: r) = toks fuel (p + 1) r := by simp only [toks, hb, if_true]
      rw [e] at hk
      obtain ⟨j, h1, h2, h3⟩ := toks_cut fuel (p + 1) r k hk
      refine ⟨j + 1, ?_, by simpa using h2, fun f2 hf => ?_⟩
      · simp only [e]; rw [h1]; omega
      · obtain ⟨f, rfl⟩ : ∃ f, f2 = f + 1 := ⟨f2 - 1, by omega⟩
        rw [e, List.take_succ_cons]
        simp only [toks, hb, if_true]
        rw [h3 f (by omega)]
        have : p + 1 + j = p + (j + 1) := by omega
        rw [this]
    · by_cases hs : bi c = 59
      · have e : toks (fuel + 1) p (c :: r) = toks fuel (p + ((c :: r).takeWhile (fun b => bi b != 10)).length) ((c :: r).dropWhile (fun b => bi b != 10)) := by simp only [toks, hb, Bool.false_eq_true, if_false, hs, if_true]
        rw [e] at hk
        obtain ⟨j, h1, h2, h3⟩ := toks_cut fuel _ _ k hk
        have hlen : ((c :: r).takeWhile (fun b => bi b != 10)).length + ((c :: r).dropWhile (fun b => bi b != 10)).length = (c :: r).length := by
          rw [← List.length_append, List.takeWhile_append_dropWhile]
        have hpos : 0 < ((c :: r).takeWhile (fun b => bi b != 10)).length := by
          rw [List.takeWhile_cons_of_pos (by rw [hs]; decide)]; simp
        refine ⟨((c :: r).takeWhile (fun b => bi b != 10)).length + j, ?_, by omega, fun f2 hf => ?_⟩
        · simp only [e]; rw [h1]; omega
        · obtain ⟨f, rfl⟩ : ∃ f, f2 = f + 1 := ⟨f2 - 1, by omega⟩
          have ht := takeWhile_take (f := fun b => bi b != 10) (c :: r) (((c :: r).takeWhile (fun b => bi b != 10)).length + j) (by omega)
          have hd := dropWhile_take (f := fun b => bi b != 10) (c :: r) (((c :: r).takeWhile (fun b => bi b != 10)).length + j) (by omega)
          rw [Nat.add_sub_cancel_left] at hd
          rw [e]
          generalize hT : (c :: r).takeWhile (fun b => bi b != 10) = T at *
          generalize hD : (c :: r).dropWhile (fun b => bi b != 10) = D at *
          obtain ⟨j', hj'⟩ : ∃ j', T.length + j = j' + 1 := ⟨T.length + j - 1, by omega⟩
          rw [hj', List.take_succ_cons] at ht hd ⊢
          simp only [toks, hb, Bool.false_eq_true, if_false, hs, if_true]
          rw [ht, hd, h3 f (by omega)]
          have : p + T.length + j = p + (j' + 1) := by omega
          rw [this]
      · cases ht : tok c r with
        | err e => simp [toks, hb, hs, ht] at hk
        | ok kd x n =>
          have e : toks (fuel + 1) p (c :: r) = ({ kind := kd, text := x, at_ := p } :: (toks fuel (p + n) ((c :: r).drop n)).1, (toks fuel (p + n) ((c :: r).drop n)).2) := by simp only [toks, hb, Bool.false_eq_true, if_false, hs, ht]
          have hn := tok_len c r ht
          cases k with
          | zero =>
            refine ⟨0, by simp only [e]; rfl, by simp, fun f2 _ => ?_⟩
            rw [e]
            cases f2 <;> simp [toks]
          | succ k =>
            rw [e] at hk
            obtain ⟨j, h1, h2, h3⟩ := toks_cut fuel (p + n) ((c :: r).drop n) k (by simpa using hk)
            rw [List.length_drop] at h2
            refine ⟨n + j, ?_, by omega, fun f2 hf => ?_⟩
            · simp only [e, List.getElem_cons_succ]; rw [h1]; omega
            · obtain ⟨f, rfl⟩ : ∃ f, f2 = f + 1 := ⟨f2 - 1, by omega⟩
              obtain ⟨j', hj'⟩ : ∃ j', n + j = j' + 1 := ⟨n + j - 1, by omega⟩
              have ht' := tok_take c r ht j' (by omega)
              have hd : (c :: r.take j').drop n = ((c :: r).drop n).take j := by
                have : c :: r.take j' = (c :: r).take (n + j) := by rw [hj']; rfl
                rw [this, List.drop_take]
                congr 1; omega
              rw [e, hj', List.take_succ_cons]
              simp only [toks, hb, Bool.false_eq_true, if_false, hs, ht', List.take_succ_cons]
              rw [hd, h3 f (by omega)]
              have : p + n + j = p + (j' + 1) := by omega
              rw [this]
/-- THE LAW: what is cut off behind a token leaves the tokens ahead of it. -/
theorem lex_cut (bs : List UInt8) (hl : bs.length ≤ 1048576) (k : Nat) (hk : k < (lexB bs).1.length) : ((lexB bs).1[k]).at_ < bs.length ∧ lexB (bs.take ((lexB bs).1[k]).at_) = ((lexB bs).1.take k, ((lexB bs).1[k]).at_, 0) := by
  have e : ∀ l : List UInt8, l.length ≤ 1048576 → lexB l = toks l.length 0 l := fun l h => by
    unfold lexB toksAt
    rw [if_neg (by omega)]; rfl
  have e0 := e bs hl
  have hk' := hk
  rw [e0] at hk'
  obtain ⟨j, h1, h2, h3⟩ := toks_cut bs.length 0 bs k hk'
  rw [Nat.zero_add] at h1
  have h4 : ((lexB bs).1[k]).at_ = j := by simp only [e0]; exact h1
  rw [h4]
  refine ⟨h2, ?_⟩
  rw [e _ (by simp; omega), h3 _ (by simp; omega), Nat.zero_add, e0]
end Go.Proofs.YtibbmoeifpfgjaaDoor

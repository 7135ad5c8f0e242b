/- Facts on the plain functions that tell tokens: a token written anew is that token. -/
import Derived.Test.YtibbmoeifpfgjaaDoorLexFacts
namespace Go.Proofs.YtibbmoeifpfgjaaDoor
open Go.RowKit

theorem bi_inj {a b : UInt8} (h : bi a = bi b) : a = b := by
  unfold bi at h
  exact UInt8.toNat_inj.1 (by omega)

def dbl : List UInt8 → List UInt8
  | [] => []
  | c :: r => (if bi c = 34 then [c, 34] else [c]) ++ dbl r
def retext (k : Int) (x : List UInt8) : List UInt8 :=
  if k = 3 then (if plainB x then x else 124 :: (x ++ [124])) else if k = 5 then 34 :: (dbl x ++ [34]) else if k = 6 then 58 :: x else x

/-- What may stand behind a token. -/
def Ends (rest : List UInt8) : Prop := ∀ d, ∀ r, rest = d :: r → isLetter d = false ∧ ¬ bi d = 34
theorem Ends.nil : Ends [] := fun d r h => by cases h

theorem qscan_go0 (m c : UInt8) (l : List UInt8) (e1 : ¬ bi c = bi m) (hb : badIn m c = false) : qscan m (c :: l) = (qscan m l).pre [c] 1 := by
  have := qscan_go m (c :: l) 0 (by simp) e1 hb
  simpa using this
theorem qscan_close0 (m c : UInt8) (l : List UInt8) (e1 : bi c = bi m) (hn : ¬ (bi m = 34 ∧ ∃ d r, l = d :: r ∧ bi d = 34)) : qscan m (c :: l) = .ok [] 1 := by
  have := qscan_close m (c :: l) 0 (by simp) e1 (fun ⟨h1, h2, h3⟩ => hn ⟨h1, by
    cases l with
    | nil => simp at h2
    | cons d r => exact ⟨d, r, rfl, by simpa [h1] using h3⟩⟩)
  simpa using this
theorem qscan_pair0 (m c d : UInt8) (l : List UInt8) (e1 : bi c = bi m) (e2 : bi m = 34) (e3 : bi d = bi m) : qscan m (c :: d :: l) = (qscan m l).pre [c] 2 := by
  have := qscan_pair m (c :: d :: l) 0 (by simp) (by simp) e1 e2 e3
  simpa using this

theorem qscan_chars (m : UInt8) : ∀ (l t : List UInt8) (n : Nat), qscan m l = .ok t n → (∀ x ∈ t, (bi x = bi m ∧ bi m = 34) ∨ (¬ bi x = bi m ∧ badIn m x = false)) ∧ n = (if bi m = 34 then dbl t else t).length + 1
  | [], t, n, h => by simp [qscan] at h
  | [c], t, n, h => by
    simp only [qscan] at h
    split at h
    · injection h with h1 h2; subst h1 h2
      exact ⟨fun x hx => (by cases hx), (by split <;> rfl)⟩
    · split at h <;> cases h
  | c :: d :: r, t, n, h => by
    simp only [qscan] at h
    split at h
    · rename_i hc
      obtain ⟨t', n', h1, rfl, rfl⟩ := pre_ok h
      obtain ⟨h2, h3⟩ := qscan_chars m r t' n' h1
      refine ⟨fun x hx => ?_, ?_⟩
      · rcases List.mem_cons.1 hx with rfl | hx
        · exact .inl ⟨hc.1, hc.2.1⟩
        · exact h2 x hx
      · rw [if_pos hc.2.1] at h3 ⊢
        show 2 + n' = (dbl (c :: t')).length + 1
        have : bi c = 34 := hc.1.trans hc.2.1
        simp [dbl, this]; omega
    · split at h
      · injection h with h1 h2; subst h1 h2
        exact ⟨fun x hx => (by cases hx), (by split <;> rfl)⟩
      · rename_i hc2
        split at h
        · cases h
        · rename_i hc3
          obtain ⟨t', n', h1, rfl, rfl⟩ := pre_ok h
          obtain ⟨h2, h3⟩ := qscan_chars m (d :: r) t' n' h1
          refine ⟨fun x hx => ?_, ?_⟩
          · rcases List.mem_cons.1 hx with rfl | hx
            · exact .inr ⟨hc2, by simpa using hc3⟩
            · exact h2 x hx
          · by_cases hm : bi m = 34
            · rw [if_pos hm] at h3 ⊢
              show 1 + n' = (dbl (c :: t')).length + 1
              have : ¬ bi c = 34 := fun e => hc2 (e.trans hm.symm)
              simp [dbl, this]; omega
            · rw [if_neg hm] at h3 ⊢
              simp; omega

theorem qscan_bar (rest : List UInt8) : ∀ t : List UInt8, (∀ x ∈ t, ¬ bi x = bi 124 ∧ badIn 124 x = false) → qscan 124 (t ++ 124 :: rest) = .ok t (t.length + 1)
  | [], _ => by
    have : ¬ (bi 124 = 34) := by decide
    exact qscan_close0 124 124 rest rfl (fun h => this h.1)
  | c :: t, h => by
    obtain ⟨h1, h2⟩ := h c (by simp)
    have ih := qscan_bar rest t (fun x hx => h x (by simp [hx]))
    show qscan 124 (c :: (t ++ 124 :: rest)) = _
    rw [qscan_go0 124 c _ h1 h2, ih]
    simp [QRes.pre]; omega
theorem qscan_dbl (rest : List UInt8) (hr : Ends rest) : ∀ t : List UInt8, (∀ x ∈ t, (bi x = bi 34 ∧ bi 34 = 34) ∨ (¬ bi x = bi 34 ∧ badIn 34 x = false)) → qscan 34 (dbl t ++ 34 :: rest) = .ok t ((dbl t).length + 1)
  | [], _ => qscan_close0 34 34 rest rfl (fun h => by
      obtain ⟨d, r, e, hd⟩ := h.2
      exact (hr d r e).2 hd)
  | c :: t, h => by
    have ih := qscan_dbl rest hr t (fun x hx => h x (by simp [hx]))
    have h34 : bi 34 = 34 := by decide
    rcases h c (by simp) with ⟨h1, _⟩ | ⟨h1, h2⟩
    · have e : bi c = 34 := h1.trans h34
      simp only [dbl, e, if_true, List.cons_append, List.nil_append]
      rw [qscan_pair0 34 c 34 _ h1 h34 rfl, ih]
      simp [QRes.pre]; omega
    · have e : ¬ bi c = 34 := fun e => h1 (e.trans h34.symm)
      simp only [dbl, e, if_false, List.cons_append, List.nil_append]
      rw [qscan_go0 34 c _ h1 h2, ih]
      simp [QRes.pre]; omega

theorem word_ends (t rest : List UInt8) (ht : ∀ x ∈ t, isLetter x = true) (hr : Ends rest) : (t ++ rest).takeWhile isLetter = t := by
  induction t with
  | nil =>
    cases rest with
    | nil => rfl
    | cons d r => rw [List.nil_append, List.takeWhile_cons_of_neg (by simp [(hr d r rfl).1])]
  | cons a t ih =>
    rw [List.cons_append, List.takeWhile_cons_of_pos (ht a (by simp)), ih (fun x hx => ht x (by simp [hx]))]
theorem takeWhile_all (l : List UInt8) : ∀ x ∈ l.takeWhile isLetter, isLetter x = true := by
  intro x hx
  have := List.all_takeWhile (p := isLetter) (l := l)
  rw [List.all_eq_true] at this
  exact this x hx

theorem letter_marks : ∀ c : UInt8, isLetter c = true → isBlank c = false ∧ ¬ bi c = 59 ∧ ¬ bi c = 40 ∧ ¬ bi c = 41 ∧ ¬ bi c = 124 ∧ ¬ bi c = 34 ∧ ¬ bi c = 58 ∧ ¬ bi c = 35 := by
  have key : ∀ i : Fin 256, (bits BinOp.and IntKind.u8 ((cl i.val : Nat) : Int) 1 != 0) = true → (bits BinOp.and IntKind.u8 ((cl i.val : Nat) : Int) 4 != 0) = false ∧ ¬ ((i.val : Nat) : Int) = 59 ∧ ¬ ((i.val : Nat) : Int) = 40 ∧ ¬ ((i.val : Nat) : Int) = 41 ∧ ¬ ((i.val : Nat) : Int) = 124 ∧ ¬ ((i.val : Nat) : Int) = 34 ∧ ¬ ((i.val : Nat) : Int) = 58 ∧ ¬ ((i.val : Nat) : Int) = 35 := by decide +kernel
  intro c h
  exact key ⟨c.toNat, c.toNat_lt⟩ h
theorem plain_letters (t : List UInt8) (h : plainB t = true) : t ≠ [] ∧ ∀ x ∈ t, isLetter x = true := by
  unfold plainB at h
  simp only [Bool.and_eq_true] at h
  obtain ⟨⟨h1, h2⟩, _⟩ := h
  refine ⟨fun e => by subst e; simp at h1, fun x hx => ?_⟩
  have := List.all_eq_true.1 h2 x hx
  exact this

/-- A token's own bytes: what they begin with, and that they are that token. -/
structure Again (k : Int) (x : List UInt8) (w : List UInt8) : Prop where
  out : ∃ c r, w = c :: r ∧ isBlank c = false ∧ ¬ bi c = 59 ∧ ∀ rest, Ends rest → tok c (r ++ rest) = .ok k x w.length

theorem again_word (t : List UInt8) (k : Int) (x : List UInt8) (n : Nat) (hall : ∀ y ∈ t, isLetter y = true) (h : tokWord t = .ok k x n) : Again k x t := by
  obtain ⟨rfl, rfl, h0⟩ := tokWord_len t h
  cases x with
  | nil => simp at h0
  | cons c r =>
    obtain ⟨h1, h2, h3⟩ := letter_marks c (hall c (by simp))
    refine ⟨c, r, rfl, h1, h2, fun rest hr => ?_⟩
    rw [tok_word _ h3]
    have : (c :: (r ++ rest)).takeWhile isLetter = c :: r := word_ends (c :: r) rest hall hr
    rw [this]; exact h

theorem mark_of {c : UInt8} {n : UInt8} (h : bi c = bi n) : c = n := bi_inj h

theorem tok_again (c : UInt8) (r : List UInt8) {k : Int} {x : List UInt8} {n : Nat} (h : tok c r = .ok k x n) : Again k x (retext k x) ∧ (retext k x).length ≤ n := by
  unfold tok at h
  by_cases h1 : bi c = 40
  · rw [if_pos h1] at h
    injection h with e1 e2 e3; subst e1 e2 e3
    exact ⟨⟨40, [], rfl, by decide, by decide, fun rest _ => rfl⟩, Nat.le_refl _⟩
  · rw [if_neg h1] at h
    by_cases h2 : bi c = 41
    · rw [if_pos h2] at h
      injection h with e1 e2 e3; subst e1 e2 e3
      exact ⟨⟨41, [], rfl, by decide, by decide, fun rest _ => rfl⟩, Nat.le_refl _⟩
    · rw [if_neg h2] at h
      by_cases h3 : bi c = 124 ∨ bi c = 34
      · rw [if_pos h3] at h
        cases hq : qscan c r with
        | err e => rw [hq] at h; cases h
        | ok t n' =>
          rw [hq] at h
          obtain ⟨hch, hn⟩ := qscan_chars c r t n' hq
          rcases h3 with h3 | h3
          · have hc : c = 124 := bi_inj (h3.trans (by decide))
            subst hc
            have hne : ¬ bi (124 : UInt8) = 34 := by decide
            unfold tokQuote at h
            rw [if_neg hne] at h
            injection h with e1 e2 e3; subst e1 e2 e3
            rw [if_neg hne] at hn
            unfold retext
            rw [if_pos rfl]
            cases hp : plainB t with
            | true =>
              obtain ⟨hne2, hall⟩ := plain_letters t hp
              rw [if_pos rfl]
              refine ⟨again_word t 3 t t.length hall ?_, by omega⟩
              unfold tokWord
              rw [if_neg hne2, if_pos hp]
            | false =>
              rw [if_neg (by simp)]
              refine ⟨⟨124, t ++ [124], rfl, by decide, by decide, fun rest hr => ?_⟩, by simp; omega⟩
              rw [tok_quote _ (.inl (by decide))]
              have := qscan_bar rest t (fun y hy => by
                rcases hch y hy with h | h
                · exact absurd h.2 hne
                · exact h)
              rw [List.append_assoc, List.singleton_append, this]
              show TRes.ok (if bi 124 = 34 then 5 else 3) t (t.length + 1 + 1) = _
              rw [if_neg hne]; simp
          · have hc : c = 34 := bi_inj (h3.trans (by decide))
            subst hc
            have h34 : bi (34 : UInt8) = 34 := by decide
            unfold tokQuote at h
            rw [if_pos h34] at h
            injection h with e1 e2 e3; subst e1 e2 e3
            rw [if_pos h34] at hn
            have er : retext 5 t = 34 :: (dbl t ++ [34]) := rfl
            rw [er]
            refine ⟨⟨34, dbl t ++ [34], rfl, by decide, by decide, fun rest hr => ?_⟩, by simp; omega⟩
            rw [tok_quote _ (.inr (by decide))]
            have := qscan_dbl rest hr t hch
            rw [List.append_assoc, List.singleton_append, this]
            show TRes.ok (if bi 34 = 34 then 5 else 3) t ((dbl t).length + 1 + 1) = _
            rw [if_pos h34]; simp
      · rw [if_neg h3] at h
        by_cases h4 : bi c = 58 ∨ bi c = 35
        · rw [if_pos h4] at h
          have hall := takeWhile_all r
          generalize r.takeWhile isLetter = t at h hall
          have hn := tokMark_len c t h
          have h' := h
          unfold tokMark at h
          by_cases ht : t = []
          · rw [if_pos ht] at h; cases h
          · rw [if_neg ht] at h
            by_cases h5 : bi c = 35
            · have hc : c = 35 := bi_inj (h5.trans (by decide))
              subst hc
              rw [if_pos h5] at h
              split at h
              · injection h with e1 e2 e3; subst e1 e2 e3
                have er : retext 7 (35 :: t) = 35 :: t := rfl
                rw [er]
                refine ⟨⟨35, t, rfl, by decide, by decide, fun rest hr => ?_⟩, by simp⟩
                rw [tok_mark _ (.inr (by decide)), word_ends t rest hall hr]
                exact h'
              · cases h
            · have hc : c = 58 := bi_inj ((h4.resolve_right h5).trans (by decide))
              subst hc
              rw [if_neg h5] at h
              injection h with e1 e2 e3; subst e1 e2 e3
              have er : retext 6 t = 58 :: t := rfl
              rw [er]
              refine ⟨⟨58, t, rfl, by decide, by decide, fun rest hr => ?_⟩, by simp⟩
              rw [tok_mark _ (.inl (by decide)), word_ends t rest hall hr]
              exact h'
        · rw [if_neg h4] at h
          have hall := takeWhile_all (c :: r)
          generalize (c :: r).takeWhile isLetter = t at h hall
          obtain ⟨rfl, rfl, h0⟩ := tokWord_len t h
          have er : retext k x = x := by
            unfold tokWord at h
            split at h
            · cases h
            · split at h
              · rename_i hp
                injection h with e1; subst e1
                unfold retext; rw [if_pos rfl, if_pos hp]
              · split at h
                · injection h with e1; subst e1; rfl
                · split at h
                  · injection h with e1; subst e1; rfl
                  · cases h
          rw [er]
          exact ⟨again_word x k x x.length hall h, Nat.le_refl _⟩
end Go.Proofs.YtibbmoeifpfgjaaDoor

/- Facts on the plain functions that tell tokens: tokens written one by one with blanks between. -/
import Derived.Test.YtibbmoeifpfgjaaDoorLexAgain
namespace Go.Proofs.YtibbmoeifpfgjaaDoor
open Go.RowKit

def toksL (p : Nat) (l : List UInt8) : List Tok × Nat × Int := toks l.length p l
theorem toksL_nil (p : Nat) : toksL p [] = ([], p, 0) := rfl
theorem toksL_fuel (f p : Nat) (l : List UInt8) (h : l.length ≤ f) : toks f p l = toksL p l := toks_fuel _ l (Nat.le_refl _) f h p
theorem toksL_blank (p : Nat) (c : UInt8) (r : List UInt8) (h : isBlank c = true) : toksL p (c :: r) = toksL (p + 1) r := by
  show toks (r.length + 1) p (c :: r) = _
  simp only [toks, h, if_true]; rfl
theorem toksL_semi (p : Nat) (c : UInt8) (r : List UInt8) (h : bi c = 59) : toksL p (c :: r) = toksL (p + ((c :: r).takeWhile (fun b => bi b != 10)).length) ((c :: r).dropWhile (fun b => bi b != 10)) := by
  have hb : isBlank c = false := by
    have : c = 59 := bi_inj (h.trans (by decide))
    subst this; decide
  show toks (r.length + 1) p (c :: r) = _
  simp only [toks, hb, Bool.false_eq_true, if_false, h, if_true]
  refine toksL_fuel _ _ _ ?_
  rw [List.dropWhile_cons_of_pos (by rw [h]; decide)]
  exact (List.dropWhile_sublist _).length_le
theorem toksL_tok (p : Nat) (c : UInt8) (r : List UInt8) (hb : isBlank c = false) (hs : ¬ bi c = 59) {k : Int} {x : List UInt8} {n : Nat} (h : tok c r = .ok k x n) :
    toksL p (c :: r) = ({ kind := k, text := x, at_ := p } :: (toksL (p + n) ((c :: r).drop n)).1, (toksL (p + n) ((c :: r).drop n)).2) := by
  show toks (r.length + 1) p (c :: r) = _
  simp only [toks, hb, Bool.false_eq_true, if_false, hs, h]
  have hn := tok_len c r h
  rw [toksL_fuel _ _ _ (by rw [List.length_drop, List.length_cons]; omega)]

/-- A row of blanks: it ends a token, and it is passed by. -/
structure Between (l : List UInt8) : Prop where
  ends : ∀ rest, Ends (l ++ rest)
  pass : ∀ p rest, toksL p (l ++ rest) = toksL (p + l.length) rest
theorem ends_of (c : UInt8) (l : List UInt8) (h1 : isLetter c = false) (h2 : ¬ bi c = 34) : ∀ rest, Ends (c :: l ++ rest) := fun rest d r e => by
  injection e with e1 _; subst e1; exact ⟨h1, h2⟩
theorem between0 : Between [32] := ⟨ends_of _ _ (by decide) (by decide), fun p rest => toksL_blank p 32 rest (by decide)⟩
theorem between1 : Between [10] := ⟨ends_of _ _ (by decide) (by decide), fun p rest => toksL_blank p 10 rest (by decide)⟩
theorem between2 : Between [9, 32, 13] := ⟨ends_of _ _ (by decide) (by decide), fun p rest => by
  show toksL p (9 :: 32 :: 13 :: rest) = _
  rw [toksL_blank p 9 _ (by decide), toksL_blank _ 32 _ (by decide), toksL_blank _ 13 _ (by decide)]; rfl⟩
theorem between3 : Between [59, 32, 40, 97, 32, 124, 10] := ⟨ends_of _ _ (by decide) (by decide), fun p rest => by
  show toksL p (59 :: 32 :: 40 :: 97 :: 32 :: 124 :: 10 :: rest) = _
  rw [toksL_semi p 59 _ (by decide)]
  have h1 : (59 :: 32 :: 40 :: 97 :: 32 :: 124 :: 10 :: rest).takeWhile (fun b => bi b != 10) = [59, 32, 40, 97, 32, 124] := rfl
  have h2 : (59 :: 32 :: 40 :: 97 :: 32 :: 124 :: 10 :: rest).dropWhile (fun b => bi b != 10) = 10 :: rest := rfl
  rw [h1, h2, toksL_blank _ 10 _ (by decide)]; rfl⟩
theorem between4 : Between [32, 59, 10, 10] := ⟨ends_of _ _ (by decide) (by decide), fun p rest => by
  show toksL p (32 :: 59 :: 10 :: 10 :: rest) = _
  rw [toksL_blank p 32 _ (by decide), toksL_semi _ 59 _ (by decide)]
  have h1 : (59 :: 10 :: 10 :: rest).takeWhile (fun b => bi b != 10) = [59] := rfl
  have h2 : (59 :: 10 :: 10 :: rest).dropWhile (fun b => bi b != 10) = 10 :: 10 :: rest := rfl
  rw [h1, h2, toksL_blank _ 10 _ (by decide), toksL_blank _ 10 _ (by decide)]; rfl⟩

/-- The tokens written one by one, with a row of blanks behind each. -/
def joinB (blk : Nat → List UInt8) : Nat → List Tok → List UInt8
  | _, [] => []
  | i, t :: r => retext t.kind t.text ++ (blk i ++ joinB blk (i + 1) r)
theorem joinB_toks (blk : Nat → List UInt8) (hblk : ∀ i, Between (blk i)) : ∀ (L : List Tok) (i p : Nat), (∀ t ∈ L, Again t.kind t.text (retext t.kind t.text)) →
    ∃ L', toksL p (joinB blk i L) = (L', p + (joinB blk i L).length, 0) ∧ L'.map (fun t => (t.kind, t.text)) = L.map (fun t => (t.kind, t.text))
  | [], i, p, _ => ⟨[], rfl, rfl⟩
  | t :: r, i, p, h => by
    obtain ⟨c, w, hw, hb, hs, ht⟩ := (h t (by simp)).out
    have ht2 := ht (blk i ++ joinB blk (i + 1) r) ((hblk i).ends _)
    obtain ⟨L', h1, h2⟩ := joinB_toks blk hblk r (i + 1) (p + (retext t.kind t.text).length + (blk i).length) (fun u hu => h u (by simp [hu]))
    refine ⟨{ kind := t.kind, text := t.text, at_ := p } :: L', ?_, by simp [h2]⟩
    have e : joinB blk i (t :: r) = c :: (w ++ (blk i ++ joinB blk (i + 1) r)) := by
      show retext t.kind t.text ++ _ = _
      rw [hw]; rfl
    have ed : (c :: (w ++ (blk i ++ joinB blk (i + 1) r))).drop (retext t.kind t.text).length = blk i ++ joinB blk (i + 1) r := by
      rw [hw]; simp
    have el : (joinB blk i (t :: r)).length = (retext t.kind t.text).length + ((blk i).length + (joinB blk (i + 1) r).length) := by
      show (retext t.kind t.text ++ _).length = _
      simp
    rw [el, e, toksL_tok p c _ hb hs ht2, ed, (hblk i).pass, h1]
    simp; omega
/-- How long the tokens' own bytes are. -/
theorem toks_again : ∀ (f p : Nat) (l : List UInt8), (∀ t ∈ (toks f p l).1, Again t.kind t.text (retext t.kind t.text)) ∧ ((toks f p l).1.map fun t => (retext t.kind t.text).length).sum ≤ l.length ∧ (toks f p l).1.length ≤ l.length
  | 0, p, l => by simp [toks]
  | f + 1, p, [] => by simp [toks]
  | f + 1, p, c :: r => by
    simp only [toks]
    split
    · obtain ⟨h1, h2, h3⟩ := toks_again f (p + 1) r
      exact ⟨h1, by simp; omega, by simp; omega⟩
    · split
      · obtain ⟨h1, h2, h3⟩ := toks_again f (p + ((c :: r).takeWhile (fun b => bi b != 10)).length) ((c :: r).dropWhile (fun b => bi b != 10))
        have h4 := (List.dropWhile_sublist (fun b => bi b != 10) (l := c :: r)).length_le
        exact ⟨h1, by omega, by omega⟩
      · cases ht : tok c r with
        | err e => simp
        | ok kd x n =>
          obtain ⟨h1, h2, h3⟩ := toks_again f (p + n) ((c :: r).drop n)
          have h4 := tok_len c r ht
          obtain ⟨h5, h6⟩ := tok_again c r ht
          rw [List.length_drop] at h2 h3
          refine ⟨fun t hm => ?_, ?_, ?_⟩
          · rcases List.mem_cons.1 hm with rfl | hm
            · exact h5
            · exact h1 t hm
          · simp only [List.map_cons, List.sum_cons, List.length_cons] at h2 ⊢; omega
          · simp only [List.length_cons] at h3 ⊢; omega
theorem lexB_toksL (bs : List UInt8) (h : bs.length ≤ 1048576) : lexB bs = toksL 0 bs := by
  unfold lexB toksAt
  rw [if_neg (by omega)]; rfl
theorem lex_again (bs : List UInt8) (h : bs.length ≤ 1048576) : (∀ t ∈ (lexB bs).1, Again t.kind t.text (retext t.kind t.text)) ∧ ((lexB bs).1.map fun t => (retext t.kind t.text).length).sum ≤ bs.length ∧ (lexB bs).1.length ≤ bs.length := by
  rw [lexB_toksL bs h]; exact toks_again _ _ _
theorem joinB_len (blk : Nat → List UInt8) (m : Nat) (hblk : ∀ i, (blk i).length ≤ m) : ∀ (L : List Tok) (i : Nat), (joinB blk i L).length ≤ (L.map fun t => (retext t.kind t.text).length).sum + m * L.length
  | [], i => Nat.zero_le _
  | t :: r, i => by
    have := joinB_len blk m hblk r (i + 1)
    have h := hblk i
    simp only [joinB, List.length_append, List.map_cons, List.sum_cons, List.length_cons, Nat.mul_add, Nat.mul_one]
    omega
/-- THE LAW: tokens written anew, with blanks between. -/
theorem lex_between (bs : List UInt8) (blk : Nat → List UInt8) (hblk : ∀ i, Between (blk i)) (hl : bs.length ≤ 1048576) (hl2 : (joinB blk 0 (lexB bs).1).length ≤ 1048576) :
    (lexB (joinB blk 0 (lexB bs).1)).2.2 = 0 ∧ (lexB (joinB blk 0 (lexB bs).1)).1.map (fun t => (t.kind, t.text)) = (lexB bs).1.map (fun t => (t.kind, t.text)) := by
  obtain ⟨L', h1, h2⟩ := joinB_toks blk hblk (lexB bs).1 0 0 (lex_again bs hl).1
  rw [lexB_toksL _ hl2, h1]
  exact ⟨rfl, h2⟩
/-- A token's own bytes, alone. -/
theorem lex_alone {k : Int} {x w : List UInt8} (h : Again k x w) (hl : w.length ≤ 1048576) : lexB w = ([{ kind := k, text := x, at_ := 0 }], w.length, 0) := by
  obtain ⟨c, r, rfl, hb, hs, ht⟩ := h.out
  have := ht [] Ends.nil
  rw [List.append_nil] at this
  rw [lexB_toksL _ hl, toksL_tok 0 c r hb hs this]
  have e : (c :: r).drop (c :: r).length = [] := List.drop_length
  rw [e, Nat.zero_add, toksL_nil]
/-- Places rise. -/
theorem toks_rise : ∀ (f p : Nat) (l : List UInt8) (i : Nat) (h : i < (toks f p l).1.length), p ≤ ((toks f p l).1[i]).at_ ∧ ∀ j, ∀ h2 : j < i, ((toks f p l).1[j]'(by omega)).at_ < ((toks f p l).1[i]).at_
  | 0, p, l, i, h => absurd h (by simp [toks])
  | f + 1, p, [], i, h => absurd h (by simp [toks])
  | f + 1, p, c :: r, i, h => by
    by_cases hb : isBlank c = true
    · have e : toks (f + 1) p (c :: r) = toks f (p + 1) r := by simp only [toks, hb, if_true]
      rw [e] at h
      obtain ⟨h1, h2⟩ := toks_rise f (p + 1) r i h
      simp only [e]
      exact ⟨by omega, h2⟩
    · by_cases hs : bi c = 59
      · have e : toks (f + 1) p (c :: r) = toks f (p + ((c :: r).takeWhile (fun b => bi b != 10)).length) ((c :: r).dropWhile (fun b => bi b != 10)) := by simp only [toks, hb, Bool.false_eq_true, if_false, hs, if_true]
        rw [e] at h
        obtain ⟨h1, h2⟩ := toks_rise f _ _ i h
        simp only [e]
        exact ⟨by omega, h2⟩
      · cases ht : tok c r with
        | err er => simp [toks, hb, hs, ht] at h
        | ok kd x n =>
          have e : toks (f + 1) p (c :: r) = ({ kind := kd, text := x, at_ := p } :: (toks f (p + n) ((c :: r).drop n)).1, (toks f (p + n) ((c :: r).drop n)).2) := by simp only [toks, hb, Bool.false_eq_true, if_false, hs, ht]
          have hn := tok_len c r ht
          rw [e] at h
          simp only [e]
          cases i with
          | zero => exact ⟨Nat.le_refl _, fun j hj => absurd hj (Nat.not_lt_zero _)⟩
          | succ i =>
            obtain ⟨h1, h2⟩ := toks_rise f (p + n) ((c :: r).drop n) i (by simpa using h)
            refine ⟨by simp only [List.getElem_cons_succ]; omega, fun j hj => ?_⟩
            cases j with
            | zero => simp only [List.getElem_cons_zero, List.getElem_cons_succ]; omega
            | succ j => simpa using h2 j (by omega)
theorem lex_rise (bs : List UInt8) (hl : bs.length ≤ 1048576) (i j : Nat) (h : i < (lexB bs).1.length) (hj : j < i) : ((lexB bs).1[j]'(by omega)).at_ < ((lexB bs).1[i]).at_ := by
  have e := lexB_toksL bs hl
  have h' := h
  rw [e] at h'
  have := (toks_rise bs.length 0 bs i h').2 j hj
  simp only [e]
  exact this
end Go.Proofs.YtibbmoeifpfgjaaDoor

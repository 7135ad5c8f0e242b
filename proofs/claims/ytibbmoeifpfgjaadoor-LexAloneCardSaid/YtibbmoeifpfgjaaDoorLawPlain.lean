/- The law LexPlain: the walk. -/
import Derived.Test.YtibbmoeifpfgjaaDoorLawKnown
namespace Go.Proofs.YtibbmoeifpfgjaaDoor
open Go.RowKit

theorem letter_plainmarks : ∀ c : UInt8, isLetter c = true → isBlank c = false ∧ ¬ bi c = 59 ∧ ¬ bi c = 40 ∧ ¬ bi c = 41 ∧ ¬ bi c = 124 ∧ ¬ bi c = 34 ∧ ¬ bi c = 58 ∧ ¬ bi c = 35 := by
  have key : ∀ i : Fin 256, (bits BinOp.and IntKind.u8 ((cl i.val : Nat) : Int) 1 != 0) = true → (bits BinOp.and IntKind.u8 ((cl i.val : Nat) : Int) 4 != 0) = false ∧ ¬ ((i.val : Nat) : Int) = 59 ∧ ¬ ((i.val : Nat) : Int) = 40 ∧ ¬ ((i.val : Nat) : Int) = 41 ∧ ¬ ((i.val : Nat) : Int) = 124 ∧ ¬ ((i.val : Nat) : Int) = 34 ∧ ¬ ((i.val : Nat) : Int) = 58 ∧ ¬ ((i.val : Nat) : Int) = 35 := by decide +kernel
  intro c h
  exact key ⟨c.toNat, c.toNat_lt⟩ h

theorem toks_nil (k p : Nat) : toks k p [] = ([], p, 0) := by cases k <;> rfl
/-- One token, and nothing behind it. -/
theorem toks_one (c : UInt8) (r : List UInt8) (p : Nat) (kd : Int) (x : List UInt8) (hb : isBlank c = false) (hs : ¬ bi c = 59) (ht : tok c r = .ok kd x (r.length + 1)) :
    toks (c :: r).length p (c :: r) = ([{ kind := kd, text := x, at_ := p }], p + (r.length + 1), 0) := by
  show toks (r.length + 1) p (c :: r) = _
  simp only [toks, hb, Bool.false_eq_true, if_false, hs, ht]
  have : (c :: r).drop (r.length + 1) = [] := by simp
  rw [this, toks_nil]
theorem lex_one (c : UInt8) (r : List UInt8) (kd : Int) (x : List UInt8) (hl : r.length + 1 ≤ 1048576) (hb : isBlank c = false) (hs : ¬ bi c = 59) (ht : tok c r = .ok kd x (r.length + 1)) :
    lexB (c :: r) = ([{ kind := kd, text := x, at_ := 0 }], r.length + 1, 0) := by
  unfold lexB toksAt
  rw [if_neg (by simp; omega)]
  have := toks_one c r 0 kd x hb hs ht
  rw [Nat.zero_add] at this
  exact this
theorem word_all (t : List UInt8) (h : ∀ x ∈ t, isLetter x = true) : t.takeWhile isLetter = t := by
  induction t with
  | nil => rfl
  | cons a r ih => rw [List.takeWhile_cons_of_pos (h a (by simp)), ih (fun x hx => h x (by simp [hx]))]
theorem plain_all (t : List UInt8) (h : plainB t = true) : t ≠ [] ∧ ∀ x ∈ t, isLetter x = true := by
  unfold plainB at h
  simp only [Bool.and_eq_true] at h
  obtain ⟨⟨h1, h2⟩, _⟩ := h
  refine ⟨fun e => by subst e; simp at h1, fun x hx => ?_⟩
  have := List.all_eq_true.1 h2 x hx
  exact this
theorem lex_plain (t : List UInt8) (hl : t.length ≤ 1048576) (h : plainB t = true) : lexB t = ([{ kind := 3, text := t, at_ := 0 }], t.length, 0) := by
  obtain ⟨hne, hall⟩ := plain_all t h
  cases t with
  | nil => exact absurd rfl hne
  | cons c r =>
    obtain ⟨h1, h2, h3⟩ := letter_plainmarks c (hall c (by simp))
    refine lex_one c r 3 _ hl h1 h2 ?_
    rw [tok_word r h3, word_all _ hall]
    unfold tokWord
    rw [if_neg hne, if_pos h]; rfl

theorem tks_new {w : World} {base n : Nat} {v : Value} {l : List Tok} (h : w.ownsRow base 33 3 v n (toksCells l)) (hn : n = l.length) : ∃ A c, v = .slice A n c ∧ Tks w A l := by
  obtain ⟨A, c, h1, h2, _⟩ := own_tks h hn
  exact ⟨A, c, h1, h2⟩

set_option maxHeartbeats 4000000 in
theorem law_plain (s : ByteArray) (w : World) (hs : s.size ≤ 140737488351232) :
    Calls Tryd.prog 4 #[.string s] w fun e w' => e = .returned (.bool true) ∧ Below w.heap.size w w' := by
  have hk := fun W => known_calls W
  by_cases h1 : 20000 < s.size
  · have d1 : decide ((20000 : Int) < (s.size : Int)) = true := by simp; omega
    go_enter Tryd.func4, Tryd.ntmps4
    go_wp2_with fail
    refine (hk _).mono ?_
    rintro e w' ⟨rfl, hbel⟩
    go_wp2
    go_ret
    exact ⟨rfl, hbel⟩
  · have d1 : decide ((20000 : Int) < (s.size : Int)) = false := by simp; omega
    have hcv := conv_text s
    have hlx := Lib.hid (lex_plain (bl s) (by rw [bl_length]; omega))
    have htk : ∀ W : World, ∀ fr, Calls Tryd.prog 9 #[.slice (some ⟨W.heap.size, 0, none⟩) s.size (grownCap W s.size 0 5)] (W.drew.alloc (.cells (bytesRow s (grownCap W s.size 0 5)) 5 fr)) fun e w' => LexPost (W.drew.alloc (.cells (bytesRow s (grownCap W s.size 0 5)) 5 fr)) (lexB (bl s)) e w' := fun W fr =>
      tokens_calls _ (grownCap W s.size 0 5) (bl s) _ (bys_new W s _ _ fr) (grownCap_ge W s.size 0 _) hs
    have hB := Lib.hid (show Below w.heap.size w (w.drew.alloc (.cells (bytesRow s (grownCap w s.size 0 5)) 5 ((bytesRow s (grownCap w s.size 0 5)).size, (bytesRow s (grownCap w s.size 0 5)).size + 1))) from (Below.refl _ w).drew.alloc (Nat.le_refl _) _)
    go_enter Tryd.func4, Tryd.ntmps4
    go_wp2_with fail
    refine (htk w _).mono ?_
    generalize w.drew.alloc (.cells (bytesRow s (grownCap w s.size 0 5)) 5 ((bytesRow s (grownCap w s.size 0 5)).size, (bytesRow s (grownCap w s.size 0 5)).size + 1)) = W1 at hB ⊢
    rintro e w2 ⟨v, rfl, hown, hbel⟩
    generalize lexB (bl s) = R at hown hlx ⊢
    obtain ⟨T, q, er⟩ := R
    simp only at hown
    obtain ⟨A, c, rfl, hT⟩ := tks_new hown rfl
    simp only
    have hB2 := Lib.hid (gb_none (gb_trans (gb_below hB.out none) (gb_below hbel none)))
    clear hown hbel hB htk
    go_wp2_with fail
    refine (plain_calls s w2 hs).mono ?_
    rintro e w3 ⟨rfl, hb3⟩
    go_wp2_with fail
    refine (rplain_calls s w3 hs).mono ?_
    rintro e w4 ⟨rfl, hb4⟩
    go_wp2_with fail
    refine (plain_calls s w4 hs).mono ?_
    rintro e w5 ⟨rfl, hb5⟩
    have HB5 := Lib.hid (gb_none (gb_trans (gb_trans (gb_trans (gb_below hB2.out none) (gb_below hb3 none)) (gb_below hb4 none)) (gb_below hb5 none)))
    have hT5 := ((hT.below hb3).below hb4).below hb5
    clear hT hb3 hb4 hb5
    cases hP : plainB (bl s) with
    | false =>
      go_wp2_with fail
      refine (hk _).mono ?_
      rintro e w' ⟨rfl, hbk⟩
      go_wp2
      go_ret
      exact ⟨rfl, gb_none (gb_trans (gb_below HB5.out none) (gb_below hbk none))⟩
    | true =>
      obtain ⟨rfl, rfl, rfl⟩ : T = [{ kind := 3, text := bl s, at_ := 0 }] ∧ q = (bl s).length ∧ er = 0 := by
        have := hlx.out hP
        simpa using this
      obtain ⟨g, o, rfl, a0, a1, a2⟩ := hT5.out 0 (by simp)
      replace a0 : w5.cell? ⟨g, o, none⟩ = some (.int .u8 3) := a0
      replace a1 : w5.cell? ⟨g, o + 1, none⟩ = some (.string s) := a1
      replace a2 : w5.cell? ⟨g, o + 2, none⟩ = some (.int .i64 0) := a2
      clear hT5
      go_wp2_with fail
      refine (hk _).mono ?_
      rintro e w' ⟨rfl, hbk⟩
      go_wp2
      go_ret
      exact ⟨rfl, gb_none (gb_trans (gb_below HB5.out none) (gb_below hbk none))⟩
end Go.Proofs.YtibbmoeifpfgjaaDoor

/- Tokens' texts: small facts. -/
import Derived.Test.YtppbijbgnhmdaaaDoorTks
import Derived.Test.YtppbijbgnhmdaaaDoorLexFacts
import Derived.Lib.SplitLaws
import Derived.Lib.Replace
namespace Go.Proofs.YtppbijbgnhmdaaaDoor
open Go.RowKit

theorem dbl_snoc (l : List UInt8) (c : UInt8) : dbl (l ++ [c]) = dbl l ++ (if bi c = 34 then [c, 34] else [c]) := by
  induction l with
  | nil => simp [dbl]
  | cons a r ih => simp [dbl, ih]
theorem dbl_step (x : List UInt8) (i : Nat) (h : i < x.length) : dbl (x.take (i + 1)) = dbl (x.take i) ++ (if bi x[i] = 34 then [x[i], 34] else [x[i]]) := by
  rw [List.take_succ_eq_append_getElem h, dbl_snoc]
theorem dbl_len (l : List UInt8) : (dbl l).length ≤ 2 * l.length := by
  induction l with
  | nil => simp [dbl]
  | cons a r ih =>
    simp only [dbl, List.length_append, List.length_cons]
    split <;> simp <;> omega
theorem bstr_append (a b : List UInt8) : bstr a ++ bstr b = bstr (a ++ b) := by
  apply ByteArray.ext
  simp [bstr]
theorem bar_text (x : List UInt8) : (⟨#[124]⟩ : ByteArray) ++ bstr x ++ ⟨#[124]⟩ = bstr (124 :: (x ++ [124])) := by
  apply ByteArray.ext
  simp [bstr]
theorem quote_text (x : List UInt8) : (⟨#[34]⟩ : ByteArray) ++ bstr x ++ ⟨#[34]⟩ = bstr (34 :: (x ++ [34])) := by
  apply ByteArray.ext
  simp [bstr]
theorem colon_text (x : List UInt8) : (⟨#[58]⟩ : ByteArray) ++ bstr x = bstr (58 :: x) := by
  apply ByteArray.ext
  simp [bstr]
theorem piece (x : List UInt8) (i : Nat) (h : i < x.length) : (bstr x).extract i (i + 1) = bstr [x[i]] := by
  apply ByteArray.ext
  simp only [ByteArray.data_extract, bstr]
  apply Array.toList_inj.1
  rw [Array.toList_extract]
  simp only [List.extract_eq_take_drop]
  have e : i + 1 - i = 1 := by omega
  rw [e, List.drop_eq_getElem_cons h]; rfl
theorem run_piece (x : List UInt8) (i : Nat) (h : i < x.length) (W : World) : (Instr.slice 9 (.string (bstr x)) (some (.int .i64 (i : Int))) (some (.int .i64 ((i : Int) + 1))) none).run Tryd.prog W = .ok (.string (bstr [x[i]])) W := by
  have hs : (bstr x).size = x.length := rfl
  rw [run_slice_string W 9 (bstr x) .i64 .i64 i ((i : Int) + 1) Tryd.underlying9 (by omega) (by omega) (by omega)]
  have e : ((i : Int) + 1).toNat = i + 1 := by omega
  rw [e, Int.toNat_natCast, piece x i h]

theorem dbl_ge (l : List UInt8) : l.length ≤ (dbl l).length := by
  induction l with
  | nil => simp
  | cons a r ih =>
    simp only [dbl, List.length_append, List.length_cons]
    split <;> simp <;> omega
theorem retext_ge (k : Int) (x : List UInt8) : x.length ≤ (retext k x).length := by
  have := dbl_ge x
  unfold retext
  repeat' split
  all_goals simp
  all_goals omega

theorem tks_new {w : World} {base n : Nat} {v : Value} {l : List Tok} (h : w.ownsRow base 24 3 v n (toksCells l)) (hn : n = l.length) : ∃ A c, v = .slice A n c ∧ Tks w A l := by
  obtain ⟨A, c, h1, h2, _⟩ := own_tks h hn
  exact ⟨A, c, h1, h2⟩

theorem bys_row (w : World) (l : List UInt8) (C : Array Value) (t : TypeId) (fr : Nat × Nat) (h : ∀ j, ∀ h : j < l.length, C[j]? = some (.int .u8 (bi l[j]))) : Bys (w.alloc (.cells C t fr)) (some ⟨w.heap.size, 0, none⟩) l := ⟨fun j hj => by
  refine ⟨_, rfl, ?_⟩
  have h2 := World.cell?_alloc_mark w C t fr j
  rw [h j hj] at h2
  cases j with
  | zero => exact h2
  | succ j => rw [add_succ, Nat.zero_add]; exact h2⟩

theorem string_tokens (s : ByteArray) (hs : s.size ≤ 140737488351232) (R : List Tok × Nat × Int) (hR : lexB (bl s) = R) (W : World) (fr : Nat × Nat) :
    Calls Tryd.prog 45 #[.slice (some ⟨W.heap.size, 0, none⟩) s.size (grownCap W s.size 0 5)] (W.drew.alloc (.cells (bytesRow s (grownCap W s.size 0 5)) 5 fr)) fun e w' =>
      (∃ A c, e = .returned (.tuple #[.slice A R.1.length c, .int .i64 ((R.2.1 : Nat) : Int), .int .i64 R.2.2]) ∧ Tks w' A R.1) ∧ Below W.heap.size W w' := by
  subst hR
  refine (tokens_calls _ (grownCap W s.size 0 5) (bl s) _ (bys_new W s _ _ fr) (grownCap_ge W s.size 0 _) hs).mono ?_
  rintro e w' ⟨v, rfl, hown, hbel⟩
  obtain ⟨A, c, rfl, hT⟩ := tks_new hown rfl
  have hb1 : Below W.heap.size W (W.drew.alloc (.cells (bytesRow s (grownCap W s.size 0 5)) 5 fr)) := (Below.refl _ W).drew.alloc (Nat.le_refl _) _
  exact ⟨⟨A, c, rfl, hT⟩, gb_none (gb_trans (gb_below hb1 none) (gb_below hbel none))⟩


/-- The same of the reference's Tokens. -/
theorem rstring_tokens (s : ByteArray) (hs : s.size ≤ 140737488351232) (R : List Tok × Nat × Int) (hR : lexB (bl s) = R) (W : World) (fr : Nat × Nat) :
    Calls Tryd.prog 22 #[.slice (some ⟨W.heap.size, 0, none⟩) s.size (grownCap W s.size 0 5)] (W.drew.alloc (.cells (bytesRow s (grownCap W s.size 0 5)) 5 fr)) fun e w' =>
      (∃ A c, e = .returned (.tuple #[.slice A R.1.length c, .int .i64 ((R.2.1 : Nat) : Int), .int .i64 R.2.2]) ∧ Tks w' A R.1) ∧ Below W.heap.size W w' := by
  subst hR
  refine (rtokens_calls _ (grownCap W s.size 0 5) (bl s) _ (bys_new W s _ _ fr) (grownCap_ge W s.size 0 _) hs).mono ?_
  rintro e w' ⟨v, rfl, hown, hbel⟩
  obtain ⟨A, c, rfl, hT⟩ := tks_new hown rfl
  have hb1 : Below W.heap.size W (W.drew.alloc (.cells (bytesRow s (grownCap W s.size 0 5)) 5 fr)) := (Below.refl _ W).drew.alloc (Nat.le_refl _) _
  exact ⟨⟨A, c, rfl, hT⟩, gb_none (gb_trans (gb_below hb1 none) (gb_below hbel none))⟩

theorem index_quote (b : UInt8) (l : List UInt8) (h : b ≠ 34) : Lib.index (b :: l) [34] = if Lib.index l [34] == -1 then -1 else Lib.index l [34] + 1 := by
  have hp : ([34] : List UInt8).isPrefixOf (b :: l) = false := by simp [List.isPrefixOf]; exact fun e => h e.symm
  conv => lhs; unfold Lib.index
  rw [hp, if_neg (by decide)]
theorem bi34 (b : UInt8) : bi b = 34 ↔ b = 34 := ⟨fun h => bi_inj h, fun h => by subst h; rfl⟩
theorem replaceK_quote : ∀ (s : List UInt8) (k : Nat), s.count 34 ≤ k → Lib.replaceK [34] [34, 34] k s = dbl s
  | [], k, _ => by
    cases k with
    | zero => rfl
    | succ k => simp [Lib.replaceK, Lib.index, dbl]
  | b :: l, k, h => by
    by_cases hb : b = 34
    · subst hb
      rw [List.count_cons_self] at h
      obtain ⟨k, rfl⟩ : ∃ k', k = k' + 1 := ⟨k - 1, by omega⟩
      have hi : Lib.index (34 :: l) [34] = ((0 : Nat) : Int) := by unfold Lib.index; simp [List.isPrefixOf]
      rw [Lib.replaceK_hit _ _ _ _ 0 hi]
      have ih := replaceK_quote l k (by omega)
      simp only [List.take_zero, List.nil_append, List.length_cons, List.length_nil, Nat.zero_add, List.drop_succ_cons, List.drop_zero, ih]
      have : bi 34 = 34 := rfl
      simp [dbl, this]
    · rw [List.count_cons_of_ne (fun e => hb e)] at h
      have ih := replaceK_quote l k h
      have hd : dbl (b :: l) = b :: dbl l := by
        have : ¬ bi b = 34 := fun e => hb ((bi34 b).1 e)
        simp [dbl, this]
      rw [hd, ← ih]
      cases k with
      | zero => rfl
      | succ k =>
        have hrk : ∀ t : List UInt8, Lib.replaceK [34] [34, 34] (k + 1) t = if Lib.index t [34] == -1 then t else t.take (Lib.index t [34]).toNat ++ [34, 34] ++ Lib.replaceK [34] [34, 34] k (t.drop ((Lib.index t [34]).toNat + ([34] : List UInt8).length)) := fun _ => rfl
        rw [hrk, hrk, index_quote b l hb]
        have hge := Lib.index_ge l [34]
        by_cases hm : Lib.index l [34] = -1
        · rw [if_pos (by rw [hm]; rfl), if_pos (by rw [hm]; rfl)]
        · have h1 : ¬ (Lib.index l [34] == -1) = true := by simpa using hm
          rw [if_neg h1]
          have h2 : ¬ (Lib.index l [34] + 1 == -1) = true := by simp; omega
          rw [if_neg h1, if_neg h2]
          have e1 : (Lib.index l [34] + 1).toNat = (Lib.index l [34]).toNat + 1 := by omega
          have e2 : (Lib.index l [34]).toNat + 1 + ([34] : List UInt8).length = (Lib.index l [34]).toNat + ([34] : List UInt8).length + 1 := by omega
          rw [e1, e2, List.take_succ_cons, List.drop_succ_cons]
          rfl
theorem replaceAll_quote (s : List UInt8) : Lib.replaceAll s [34] [34, 34] = dbl s := by
  unfold Lib.replaceAll Lib.replace Lib.replaceNum
  rw [if_neg (by decide), if_pos (.inl (by decide)), Lib.count_one]
  exact replaceK_quote s _ (Nat.le_refl _)

/-- Is a token's text read as it? -/
def okTok (k : Int) (x : List UInt8) : Bool := ((lexB (retext k x)).2.2 == 0) && (((lexB (retext k x)).1.length == 1) && ((((lexB (retext k x)).1.getD 0 ⟨0, [], 0⟩).kind == k) && ((((lexB (retext k x)).1.getD 0 ⟨0, [], 0⟩).text == x) && decide (3 ≤ k))))
theorem retext_len (k : Int) (x : List UInt8) : (retext k x).length ≤ 2 * x.length + 2 := by
  unfold retext
  have := dbl_len x
  split
  · split <;> simp <;> omega
  · split
    · simp; omega
    · split <;> simp <;> omega
end Go.Proofs.YtppbijbgnhmdaaaDoor

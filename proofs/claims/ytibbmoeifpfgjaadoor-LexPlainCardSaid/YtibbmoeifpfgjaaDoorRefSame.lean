/- Same of the reference, over two equal rows. -/
import Derived.Test.YtibbmoeifpfgjaaDoorRefTokens
namespace Go.Proofs.YtibbmoeifpfgjaaDoor
open Go.RowKit

/-- A slice of tokens. -/
structure Tks (w : World) (A : Option Addr) (l : List Tok) : Prop where
  out : ∀ i, ∀ h : i < l.length, ∃ g o, A = some ⟨g, o, none⟩ ∧ w.cell? ⟨g, o + i * 3, none⟩ = some (.int .u8 l[i].kind) ∧ w.cell? ⟨g, o + i * 3 + 1, none⟩ = some (.string (bstr l[i].text)) ∧ w.cell? ⟨g, o + i * 3 + 2, none⟩ = some (.int .i64 ((l[i].at_ : Nat) : Int))

set_option maxHeartbeats 1000000 in
theorem same_calls (A B : Option Addr) (ca cb : Nat) (l : List Tok) (w : World) (ha : Tks w A l) (hb : Tks w B l) (hl : l.length ≤ 140737488351232) :
    Calls Tryd.prog 11 #[.slice A l.length ca, .slice B l.length cb] w fun e w' => e = .returned (.bool true) ∧ ∃ m, w' = w.drewN m := by
  go_enter Tryd.func11, Tryd.ntmps11
  go_wp2
  go_loopw [5] (fun v wr => ∃ i m, v = .int .i64 ((i : Nat) : Int) ∧ i ≤ l.length ∧ wr = w.drewN m) (fun v _ => l.length - (intOf v).toNat)
  case atStart => exact ⟨0, 0, rfl, Nat.zero_le _, rfl⟩
  case round =>
    obtain ⟨i, m, rfl, hi, rfl⟩ := hrel
    by_cases hlt : i < l.length
    · obtain ⟨g, o, rfl, a0, a1, a2⟩ := ha.out i hlt
      obtain ⟨g', o', rfl, b0, b1, b2⟩ := hb.out i hlt
      go_wp2
      go_quiet (fail)
      go_wp2
      go_round
      case rel => exact ⟨i + 1, _, by go_num, hlt, rfl⟩
      case measure => simp [intOf]; omega
    · obtain rfl : i = l.length := by omega
      go_wp2
      go_ret
      exact ⟨rfl, _, rfl⟩

/-- Rows of the call's own are slices of tokens. -/
theorem own_tks {w : World} {base n : Nat} {v : Value} {l : List Tok} (h : w.ownsRow base 33 3 v n (toksCells l)) (hn : n = l.length) : ∃ A c, v = .slice A n c ∧ Tks w A l ∧ ∀ g o, A = some ⟨g, o, none⟩ → base ≤ g ∧ g < w.heap.size := by
  rcases h.2 with ⟨rfl, rfl⟩ | ⟨g, cap, cur, rfl, hb, hg, hc, hs, hz, ht⟩
  · have : l = [] := List.eq_nil_of_length_eq_zero hn.symm
    subst this
    exact ⟨none, 0, rfl, ⟨fun i hi => absurd hi (by simp)⟩, fun g o e => by cases e⟩
  · subst hn
    have hcell : ∀ k, k < l.length * 3 → w.cell? ⟨g, k, none⟩ = (toksCells l)[k]? := fun k hk => by
      rw [cell_of_row w g k cur _ _ hg, ← ht]
      rw [List.getElem?_take, if_pos hk]
      simp
    have hat : ∀ (l : List Tok) (i : Nat) (h : i < l.length), (toksCells l)[i * 3]? = some (.int .u8 l[i].kind) ∧ (toksCells l)[i * 3 + 1]? = some (.string (bstr l[i].text)) ∧ (toksCells l)[i * 3 + 2]? = some (.int .i64 ((l[i].at_ : Nat) : Int)) := by
      intro l
      induction l with
      | nil => intro i h; exact absurd h (by simp)
      | cons t r ih =>
        intro i h
        have e : toksCells (t :: r) = .int .u8 t.kind :: .string (bstr t.text) :: .int .i64 ((t.at_ : Nat) : Int) :: toksCells r := rfl
        cases i with
        | zero => rw [e]; exact ⟨rfl, rfl, rfl⟩
        | succ i =>
          have := ih i (by simpa using h)
          have e3 : (i + 1) * 3 = i * 3 + 3 := by omega
          rw [e, e3]
          exact this
    refine ⟨some ⟨g, 0, none⟩, cap, rfl, ⟨fun i hi => ⟨g, 0, rfl, ?_, ?_, ?_⟩⟩, fun g' o e => by cases e; exact ⟨hb, lt_of_block hg⟩⟩
    · rw [hcell _ (by omega), Nat.zero_add]; exact (hat l i hi).1
    · rw [hcell _ (by omega), Nat.zero_add]; exact (hat l i hi).2.1
    · rw [hcell _ (by omega), Nat.zero_add]; exact (hat l i hi).2.2
theorem Tks.drewN {w : World} {A : Option Addr} {l : List Tok} (h : Tks w A l) (k : Nat) : Tks (w.drewN k) A l := ⟨h.out⟩
theorem Tks.below {w W : World} {A : Option Addr} {l : List Tok} (h : Tks w A l) (hb : Below w.heap.size w W) : Tks W A l := ⟨fun i hi => by
  obtain ⟨g, o, e, h0, h1, h2⟩ := h.out i hi
  have hg := World.block_lt_of_cell? w _ h0
  have hc : ∀ k, W.cell? ⟨g, k, none⟩ = w.cell? ⟨g, k, none⟩ := fun k => hb.cell hg
  exact ⟨g, o, e, (hc _).trans h0, (hc _).trans h1, (hc _).trans h2⟩⟩
theorem Tks.take {w : World} {A : Option Addr} {l : List Tok} (h : Tks w A l) (k : Nat) : Tks w A (l.take k) := ⟨fun i hi => by
  have hi' : i < l.length := by simp at hi; omega
  obtain ⟨g, o, e, h0, h1, h2⟩ := h.out i hi'
  refine ⟨g, o, e, ?_, ?_, ?_⟩
  · simpa using h0
  · simpa using h1
  · simpa using h2⟩
end Go.Proofs.YtibbmoeifpfgjaaDoor

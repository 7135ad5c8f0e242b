/- Slices of tokens. -/
import Derived.Test.YtppbijbgnhmdaaaDoorRefTokens
namespace Go.Proofs.YtppbijbgnhmdaaaDoor
open Go.RowKit

/-- A slice of tokens. -/
structure Tks (w : World) (A : Option Addr) (l : List Tok) : Prop where
  out : ∀ i, ∀ h : i < l.length, ∃ g o, A = some ⟨g, o, none⟩ ∧ w.cell? ⟨g, o + i * 3, none⟩ = some (.int .u8 l[i].kind) ∧ w.cell? ⟨g, o + i * 3 + 1, none⟩ = some (.string (bstr l[i].text)) ∧ w.cell? ⟨g, o + i * 3 + 2, none⟩ = some (.int .i64 ((l[i].at_ : Nat) : Int))

/-- Rows of the call's own are slices of tokens. -/
theorem own_tks {w : World} {base n : Nat} {v : Value} {l : List Tok} (h : w.ownsRow base 24 3 v n (toksCells l)) (hn : n = l.length) : ∃ A c, v = .slice A n c ∧ Tks w A l ∧ ∀ g o, A = some ⟨g, o, none⟩ → base ≤ g ∧ g < w.heap.size := by
  rcases h.2 with ⟨rfl, rfl⟩ | ⟨g, cap, cur, rfl, hb, hg, hc, hs, hz, ht⟩
  · have : l = [] := List.eq_nil_of_length_eq_zero hn.symm
    subst this
    exact ⟨none, 0, rfl, ⟨fun i hi => absurd hi (by simp)⟩, fun g o e => by cases e⟩
  · subst hn
    have hcell : ∀ k, k < l.length * 3 → w.cell? ⟨g, k, none⟩ = (toksCells l)[k]? := fun k hk => by
      rw [cell_of_row w g k cur _ _ hg, ← ht]
      rw [List.getElem?_take, if_pos hk]
      simp
    have hat : ∀ (l : List Tok) (i : Nat) (h : i < l.length), (toksCells l)[i * 3]? = some (.int .u8 l[i].kind) ∧ (toksCells l)[i * 3 + 1]? = some (.string (bstr l[i].text)) ∧ (toksCells l)[i * 3 + 2]? = some (.int .i64 ((l[i].at_ : Nat) : Int)) := by
      intro l
      induction l with
      | nil => intro i h; exact absurd h (by simp)
      | cons t r ih =>
        intro i h
        have e : toksCells (t :: r) = .int .u8 t.kind :: .string (bstr t.text) :: .int .i64 ((t.at_ : Nat) : Int) :: toksCells r := rfl
        cases i with
        | zero => rw [e]; exact ⟨rfl, rfl, rfl⟩
        | succ i =>
          have := ih i (by simpa using h)
          have e3 : (i + 1) * 3 = i * 3 + 3 := by omega
          rw [e, e3]
          exact this
    refine ⟨some ⟨g, 0, none⟩, cap, rfl, ⟨fun i hi => ⟨g, 0, rfl, ?_, ?_, ?_⟩⟩, fun g' o e => by cases e; exact ⟨hb, lt_of_block hg⟩⟩
    · rw [hcell _ (by omega), Nat.zero_add]; exact (hat l i hi).1
    · rw [hcell _ (by omega), Nat.zero_add]; exact (hat l i hi).2.1
    · rw [hcell _ (by omega), Nat.zero_add]; exact (hat l i hi).2.2
theorem Tks.drewN {w : World} {A : Option Addr} {l : List Tok} (h : Tks w A l) (k : Nat) : Tks (w.drewN k) A l := ⟨h.out⟩
theorem Tks.below {w W : World} {A : Option Addr} {l : List Tok} (h : Tks w A l) (hb : Below w.heap.size w W) : Tks W A l := ⟨fun i hi => by
  obtain ⟨g, o, e, h0, h1, h2⟩ := h.out i hi
  have hg := World.block_lt_of_cell? w _ h0
  have hc : ∀ k, W.cell? ⟨g, k, none⟩ = w.cell? ⟨g, k, none⟩ := fun k => hb.cell hg
  exact ⟨g, o, e, (hc _).trans h0, (hc _).trans h1, (hc _).trans h2⟩⟩
theorem Tks.take {w : World} {A : Option Addr} {l : List Tok} (h : Tks w A l) (k : Nat) : Tks w A (l.take k) := ⟨fun i hi => by
  have hi' : i < l.length := by simp at hi; omega
  obtain ⟨g, o, e, h0, h1, h2⟩ := h.out i hi'
  refine ⟨g, o, e, ?_, ?_, ?_⟩
  · simpa using h0
  · simpa using h1
  · simpa using h2⟩
end Go.Proofs.YtppbijbgnhmdaaaDoor

/- Trees in memory: a ghost. -/
namespace Go.Proofs.YtppbijbgnhmdaaaDoor
open Go.RowKit

/-- A row of trees: the first one's label and trees, and what follows. -/
inductive Forest where
  | nil
  | cons (list : Bool) (kind : Int) (text : List UInt8) (at_ : Int) (kids rest : Forest)

namespace Forest
def len : Forest → Nat
  | nil => 0
  | cons _ _ _ _ _ r => r.len + 1
/-- Something of each tree's own trees. -/
def AllKids (P : Forest → Prop) : Forest → Prop
  | nil => True
  | cons _ _ _ _ k r => P k ∧ AllKids P r
theorem kids_induct {P : Forest → Prop} (walk : ∀ F, AllKids P F → P F) : ∀ F, P F := by
  have both : ∀ F, P F ∧ AllKids P F := by
    intro F
    induction F with
    | nil => exact ⟨walk nil trivial, trivial⟩
    | cons l k x a kids rest ihk ihr =>
      have h : AllKids P (cons l k x a kids rest) := ⟨ihk.1, ihr.2⟩
      exact ⟨walk _ h, h⟩
  exact fun F => (both F).1
theorem AllKids.imp {P Q : Forest → Prop} (h : ∀ F, P F → Q F) : ∀ {F : Forest}, AllKids P F → AllKids Q F
  | nil, _ => trivial
  | cons _ _ _ _ _ _, ⟨h1, h2⟩ => ⟨h _ h1, AllKids.imp h h2⟩
end Forest
open Forest

theorem bel_trans {a b c : World} (h : Below a.heap.size a b) (k : Below b.heap.size b c) : Below a.heap.size a c := gb_none (gb_trans (gb_below h none) (gb_below k none))
/-- A row of trees lies in memory, from the place i of a slice on. -/
def Lies (w : World) : Forest → Option Addr → Nat → Prop
  | .nil, _, _ => True
  | .cons l k x a kids rest, A, i => (∃ g o, A = some ⟨g, o, none⟩ ∧ w.cell? ⟨g, o + i * 5, none⟩ = some (.bool l) ∧ w.cell? ⟨g, o + i * 5 + 1, none⟩ = some (.int .u8 k) ∧ w.cell? ⟨g, o + i * 5 + 2, none⟩ = some (.string (bstr x)) ∧ w.cell? ⟨g, o + i * 5 + 3, none⟩ = some (.int .i64 a) ∧
      ∃ A' c', w.cell? ⟨g, o + i * 5 + 4, none⟩ = some (.slice A' kids.len c') ∧ kids.len ≤ c' ∧ c' ≤ maxLen ∧ Lies w kids A' 0) ∧ Lies w rest A (i + 1)

theorem Lies.below {w W : World} (hb : Below w.heap.size w W) : ∀ {F : Forest} {A : Option Addr} {i : Nat}, Lies w F A i → Lies W F A i
  | .nil, _, _, _ => trivial
  | .cons l k x a kids rest, A, i, ⟨⟨g, o, e, h0, h1, h2, h3, A', c', h4, h5, h6, h7⟩, hr⟩ => by
    have hg := World.block_lt_of_cell? w _ h0
    have hc : ∀ j, W.cell? ⟨g, j, none⟩ = w.cell? ⟨g, j, none⟩ := fun j => hb.cell hg
    exact ⟨⟨g, o, e, (hc _).trans h0, (hc _).trans h1, (hc _).trans h2, (hc _).trans h3, A', c', (hc _).trans h4, h5, h6, Lies.below hb h7⟩, Lies.below hb hr⟩

/-- A tree as a value. -/
def treeV (l : Bool) (k : Int) (x : List UInt8) (a : Int) (A : Option Addr) (n c : Nat) : Value := .agg #[.bool l, .int .u8 k, .string (bstr x), .int .i64 a, .slice A n c]

/-- How deep, looked at from a depth on no deeper than is told. -/
def topAt : Nat → Forest → Nat
  | _, .nil => 0
  | at_, .cons l _ _ _ kids rest => max (if l = true ∧ at_ ≤ 200 then topAt (at_ + 1) kids + 1 else 0) (topAt at_ rest)
end Go.Proofs.YtppbijbgnhmdaaaDoor


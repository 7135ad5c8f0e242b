/- A tree's text out of its parts: plain Lean. -/
import Derived.Test.YtppbijbgnhmdaaaDoorTextSpec
import Derived.Test.YtppbijbgnhmdaaaDoorTreeDepth
import Derived.Test.YtppbijbgnhmdaaaDoorTreeParts
namespace Go.Proofs.YtppbijbgnhmdaaaDoor
open Go.RowKit Forest

/-- What a part adds: the bytes so far, and whether a list stands too deep; none: no text. -/
def stepP : Option (List UInt8 × Bool) → PartS → Option (List UInt8 × Bool)
  | none, _ => none
  | some (bs, dd), p =>
    if p.ends then some (bs ++ [41], dd)
    else if p.l then (if p.k = 1 ∧ p.x = [40] then some ((if p.first then bs else bs ++ [32]) ++ [40], dd || decide (200 ≤ p.depth)) else none)
    else if okTok p.k p.x = true ∧ p.n = 0 then some ((if p.first then bs else bs ++ [32]) ++ retext p.k p.x, dd) else none
theorem fold_none : ∀ ps : List PartS, ps.foldl stepP none = none
  | [] => rfl
  | _ :: r => fold_none r
/-- Does a list stand at 200 or deeper? -/
def dpF : Forest → Nat → Bool
  | .nil, _ => false
  | .cons l _ _ _ kids rest, d => (l && (decide (200 ≤ d) || dpF kids (d + 1))) || dpF rest d
theorem dpF_top : ∀ (F : Forest) (d : Nat), d ≤ 200 → dpF F d = decide (200 < d + topAt d F)
  | .nil, d, h => by
    have : decide (200 < d + 0) = false := by rw [decide_eq_false_iff_not]; omega
    exact this.symm
  | .cons l k x a kids rest, d, h => by
    have ihr := dpF_top rest d h
    unfold dpF
    rw [topAt_cons, ihr]
    unfold depT
    cases l with
    | false => simp
    | true =>
      simp only [Bool.true_and, true_and]
      rw [if_pos h]
      by_cases h2 : d = 200
      · subst h2; simp; omega
      · have ihk := dpF_top kids (d + 1) (by omega)
        rw [ihk]
        have : decide (200 ≤ d) = false := by simp; omega
        rw [this, Bool.false_or, Bool.eq_iff_iff]
        simp only [Bool.or_eq_true, decide_eq_true_eq]
        omega
theorem fold_parts : ∀ (F : Forest) (f : Bool) (d : Nat) (bs : List UInt8) (dd : Bool), (partsF F f d).foldl stepP (some (bs, dd)) = match wrF F f with
    | none => none
    | some s => some (bs ++ s, dd || dpF F d)
  | .nil, f, d, bs, dd => by simp [partsF, wrF, dpF]
  | .cons l k x a kids rest, f, d, bs, dd => by
    rw [wrF_cons]
    cases l with
    | false =>
      simp only [partsF, Bool.false_eq_true, if_false, List.cons_append, List.nil_append, List.foldl_cons, stepP]
      unfold wrT
      simp only [Bool.false_eq_true, if_false]
      by_cases h : okTok k x = true ∧ kids.len = 0
      · simp only [if_pos h]
        rw [fold_parts rest false d]
        cases wrF rest false with
        | none => rfl
        | some r => cases f <;> simp [dpF]
      · simp only [if_neg h]
        exact fold_none _
    | true =>
      simp only [partsF, if_true, List.cons_append, List.append_assoc, List.nil_append, List.foldl_cons, List.foldl_append]
      have hst : stepP (some (bs, dd)) ⟨true, k, x, a, kids.len, false, f, d⟩ = if k = 1 ∧ x = [40] then some ((if f then bs else bs ++ [32]) ++ [40], dd || decide (200 ≤ d)) else none := rfl
      rw [hst]
      unfold wrT
      simp only [if_true]
      by_cases h : k = 1 ∧ x = [40]
      · simp only [if_pos h]
        rw [fold_parts kids true (d + 1)]
        cases wrF kids true with
        | none =>
          simp only [Option.map_none]
          exact fold_none _
        | some s =>
          simp only [Option.map_some]
          have hse : stepP (some ((if f then bs else bs ++ [32]) ++ [40] ++ s, dd || decide (200 ≤ d) || dpF kids (d + 1))) ⟨true, k, x, a, kids.len, true, false, d⟩ = some ((if f then bs else bs ++ [32]) ++ [40] ++ s ++ [41], dd || decide (200 ≤ d) || dpF kids (d + 1)) := rfl
          rw [hse, fold_parts rest false d]
          cases wrF rest false with
          | none => rfl
          | some r => cases f <;> simp [dpF, Bool.or_assoc]
      · simp only [if_neg h]
        rw [fold_none (partsF kids true (d + 1))]
        exact fold_none _
def foldP (ps : List PartS) : Option (List UInt8 × Bool) := ps.foldl stepP (some ([], false))
theorem foldP_tree (l : Bool) (k : Int) (x : List UInt8) (a : Int) (F : Forest) : foldP (partsT l k x a F true 0) = match wrT l k x F with
    | none => none
    | some s => some (s, decide (200 < depT l 0 F)) := by
  have h : partsT l k x a F true 0 = partsF (.cons l k x a F .nil) true 0 := by simp [partsF, partsT]
  unfold foldP
  rw [h, fold_parts, wrF_cons, dpF_top _ _ (by omega), topAt_cons]
  cases wrT l k x F with
  | none => rfl
  | some s => simp [wrF, topAt]
theorem foldP_snoc (ps : List PartS) (p : PartS) : foldP (ps ++ [p]) = stepP (foldP ps) p := by simp [foldP]
theorem foldP_prefix {q ps : List PartS} (h : q <+: ps) (hn : foldP q = none) : foldP ps = none := by
  obtain ⟨r, rfl⟩ := h
  unfold foldP at hn ⊢
  rw [List.foldl_append, hn]
  exact fold_none _
/-- The text of a tree, out of its parts. -/
def textP (r : Option (List UInt8 × Bool)) : List UInt8 × Int :=
  match r with
  | none => ([], 5)
  | some (s, deep) => if deep then ([], 40) else if 1048576 < s.length then ([], 3) else (s, 0)
theorem textP_tree (l : Bool) (k : Int) (x : List UInt8) (a : Int) (F : Forest) : textP (foldP (partsT l k x a F true 0)) = textS l k x F (decide (200 < depT l 0 F)) := by
  rw [foldP_tree]
  unfold textP textS
  cases wrT l k x F with
  | none => rfl
  | some s => rfl
end Go.Proofs.YtppbijbgnhmdaaaDoor

/- Trees' texts: plain Lean. -/
import Derived.Test.YtppbijbgnhmdaaaDoorRefTok
import Derived.Test.YtppbijbgnhmdaaaDoorTreeOwn
namespace Go.Proofs.YtppbijbgnhmdaaaDoor
open Go.RowKit Forest

/-- The text of a row of trees, blanks between; none: one has none. -/
def wrF : Forest → Bool → Option (List UInt8)
  | .nil, _ => some []
  | .cons l k x _ kids rest, first =>
    match (if l then (if k = 1 ∧ x = [40] then (wrF kids true).map (fun s => 40 :: (s ++ [41])) else none) else (if okTok k x = true ∧ kids.len = 0 then some (retext k x) else none)) with
    | none => none
    | some s => match wrF rest false with
      | none => none
      | some r => some ((if first then [] else [32]) ++ s ++ r)
def wrT (l : Bool) (k : Int) (x : List UInt8) (F : Forest) : Option (List UInt8) :=
  if l then (if k = 1 ∧ x = [40] then (wrF F true).map (fun s => 40 :: (s ++ [41])) else none) else (if okTok k x = true ∧ F.len = 0 then some (retext k x) else none)
theorem wrF_cons (l : Bool) (k : Int) (x : List UInt8) (a : Int) (kids rest : Forest) (first : Bool) : wrF (.cons l k x a kids rest) first = match wrT l k x kids with
    | none => none
    | some s => match wrF rest false with
      | none => none
      | some r => some ((if first then [] else [32]) ++ s ++ r) := rfl
/-- How many bytes at most. -/
def wgt : Forest → Nat
  | .nil => 0
  | .cons _ _ x _ kids rest => 2 * x.length + 5 + wgt kids + wgt rest
def wgtT (x : List UInt8) (F : Forest) : Nat := 2 * x.length + 4 + wgt F
theorem wrF_len : ∀ (F : Forest) (first : Bool) (s : List UInt8), wrF F first = some s → s.length ≤ wgt F
  | .nil, _, s, h => by
    have : [] = s := Option.some.inj h
    subst this; simp
  | .cons l k x a kids rest, first, s, h => by
    rw [wrF_cons] at h
    cases hT : wrT l k x kids with
    | none => rw [hT] at h; cases h
    | some t =>
      rw [hT] at h
      simp only at h
      cases hR : wrF rest false with
      | none => rw [hR] at h; cases h
      | some r =>
        rw [hR] at h
        simp only [Option.some.injEq] at h
        subst h
        have h1 := wrF_len rest false r hR
        have h2 : t.length ≤ 2 * x.length + 2 + wgt kids + 2 := by
          unfold wrT at hT
          cases l with
          | true =>
            simp only [if_true] at hT
            split at hT
            · cases hK : wrF kids true with
              | none => rw [hK] at hT; cases hT
              | some u =>
                rw [hK] at hT
                simp only [Option.map_some, Option.some.injEq] at hT
                subst hT
                have := wrF_len kids true u hK
                simp; omega
            · cases hT
          | false =>
            simp only [Bool.false_eq_true, if_false] at hT
            split at hT
            · simp only [Option.some.injEq] at hT
              subst hT
              have := retext_len k x
              omega
            · cases hT
        simp only [wgt, List.length_append]
        split <;> simp <;> omega
theorem wrT_len {l : Bool} {k : Int} {x : List UInt8} {F : Forest} {s : List UInt8} (h : wrT l k x F = some s) : s.length ≤ wgtT x F := by
  unfold wrT at h
  unfold wgtT
  cases l with
  | true =>
    simp only [if_true] at h
    split at h
    · cases hK : wrF F true with
      | none => rw [hK] at h; cases h
      | some u =>
        rw [hK] at h
        simp only [Option.map_some, Option.some.injEq] at h
        subst h
        have := wrF_len F true u hK
        simp; omega
    · cases h
  | false =>
    simp only [Bool.false_eq_true, if_false] at h
    split at h
    · simp only [Option.some.injEq] at h
      subst h
      have := retext_len k x
      omega
    · cases h
/-- Each text is one that may be: at most 100000 bytes. -/
def Texts : Forest → Prop
  | .nil => True
  | .cons _ _ x _ kids rest => x.length ≤ 100000 ∧ Texts kids ∧ Texts rest

/-- The text of a tree, and what is wrong. -/
def textS (l : Bool) (k : Int) (x : List UInt8) (F : Forest) (deep : Bool) : List UInt8 × Int :=
  match wrT l k x F with
  | none => ([], 5)
  | some s => if deep then ([], 40) else if 1048576 < s.length then ([], 3) else (s, 0)
end Go.Proofs.YtppbijbgnhmdaaaDoor

/- What a tree that is not too great may be: plain Lean. -/
import Derived.Test.YtppbijbgnhmdaaaDoorTreeSize
import Derived.Test.YtppbijbgnhmdaaaDoorTreeText
import Derived.Test.YtppbijbgnhmdaaaDoorRefCopy
namespace Go.Proofs.YtppbijbgnhmdaaaDoor
open Forest

/-- How many trees and texts of eight bytes. -/
def tsz : Forest → Nat
  | .nil => 0
  | .cons _ _ x _ kids rest => 1 + x.length / 8 + tsz kids + tsz rest
theorem sizF_ge : ∀ (F : Forest) (n most : Nat), n ≤ sizF F n most
  | .nil, n, _ => Nat.le_refl _
  | .cons l k x a kids rest, n, most => by
    unfold sizF
    split
    · exact Nat.le_trans (by omega) (sizF_ge rest _ most)
    · exact Nat.le_refl _
theorem sizF_eq : ∀ (F : Forest) (n most : Nat), sizF F n most = n + tsz F ∨ most ≤ sizF F n most
  | .nil, n, most => .inl rfl
  | .cons l k x a kids rest, n, most => by
    unfold sizF tsz
    by_cases h : n < most
    · rw [if_pos h]
      rcases sizF_eq kids (1 + x.length / 8) (most - n) with hk | hk
      · rcases sizF_eq rest (n + sizF kids (1 + x.length / 8) (most - n)) most with hr | hr
        · left; rw [hr, hk]; omega
        · exact .inr hr
      · right
        exact Nat.le_trans (by omega) (sizF_ge rest _ most)
    · rw [if_neg h]; right; omega
theorem great_tsz {F : Forest} {x : List UInt8} (h : greatT F x = false) : 1 + x.length / 8 + tsz F ≤ 5000 := by
  unfold greatT at h
  simp only [Bool.or_eq_false_iff, decide_eq_false_iff_not] at h
  rcases sizF_eq F (1 + x.length / 8) 5001 with e | e <;> omega
theorem tsz_len : ∀ F : Forest, F.len ≤ tsz F
  | .nil => Nat.le_refl _
  | .cons l k x a kids rest => by
    have := tsz_len rest
    unfold tsz Forest.len; omega
theorem tsz_hgt : ∀ F : Forest, hgt F ≤ tsz F
  | .nil => Nat.le_refl _
  | .cons l k x a kids rest => by
    have := tsz_hgt kids
    have := tsz_hgt rest
    unfold tsz hgt; omega
theorem tsz_fits : ∀ F : Forest, tsz F ≤ 5000 → FitsT F ∧ Texts F ∧ SmallF F
  | .nil, _ => ⟨trivial, trivial, trivial⟩
  | .cons l k x a kids rest, h => by
    unfold tsz at h
    obtain ⟨a1, a2, a3⟩ := tsz_fits kids (by omega)
    obtain ⟨b1, b2, b3⟩ := tsz_fits rest (by omega)
    have hl := tsz_len kids
    have hx : x.length ≤ 100000 := by omega
    exact ⟨⟨hx, a1, b1⟩, ⟨hx, a2, b2⟩, ⟨hx, by omega, a3, b3⟩⟩
theorem tsz_wgt : ∀ F : Forest, wgt F ≤ 24 * tsz F
  | .nil => Nat.le_refl _
  | .cons l k x a kids rest => by
    have := tsz_wgt kids
    have := tsz_wgt rest
    unfold tsz wgt; omega
theorem tsz_parts : ∀ (F : Forest) (f : Bool) (d : Nat), (partsF F f d).length ≤ 2 * tsz F
  | .nil, _, _ => Nat.zero_le _
  | .cons l k x a kids rest, f, d => by
    have h1 := tsz_parts kids true (d + 1)
    have h2 := tsz_parts rest false d
    unfold partsF tsz
    cases l <;> simp <;> omega
/-- All that is wanted of a tree that is not too great. -/
structure Fine (x : List UInt8) (F : Forest) : Prop where
  hx : x.length ≤ 100000
  fit : FitsT F
  texts : Texts F
  small : SmallF F
  len : F.len ≤ 5000
  hgt : hgt F + 1 ≤ 1000000
  wgt : wgtT x F ≤ 1000000000000
  parts : ∀ l k a f d, (partsT l k x a F f d).length ≤ 1000000
theorem great_fine {F : Forest} {x : List UInt8} (h : greatT F x = false) : Fine x F := by
  have h0 := great_tsz h
  obtain ⟨h1, h2, h3⟩ := tsz_fits F (by omega)
  have hl := tsz_len F
  have hh := tsz_hgt F
  have hw := tsz_wgt F
  refine ⟨by omega, h1, h2, h3, by omega, by omega, by unfold wgtT; omega, fun l k a f d => ?_⟩
  have hp := tsz_parts F true (d + 1)
  unfold partsT
  cases l <;> simp <;> omega
end Go.Proofs.YtppbijbgnhmdaaaDoor

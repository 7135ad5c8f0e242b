/- Facts on lists of trees: depths and likeness, element by element. Plain Lean. -/
import Derived.Test.YtppbijbgnhmdaaaDoorNextSpec
import Derived.Test.YtppbijbgnhmdaaaDoorTreeDepth
import Derived.Test.YtppbijbgnhmdaaaDoorTreeSame
import Derived.Test.YtppbijbgnhmdaaaDoorTextSpec
namespace Go.Proofs.YtppbijbgnhmdaaaDoor
open Forest

/-- The depth that is told is the true one, cut at 201. -/
theorem topAt_eq : ∀ (F : Forest) (a : Nat), a ≤ 201 → topAt a F = min (depF F) (201 - a)
  | .nil, a, _ => by simp [topAt, depF]
  | .cons l k x z kids rest, a, h => by
    rw [topAt_cons, topAt_eq rest a h]
    unfold depT
    have hd : depF (.cons l k x z kids rest) = max (if l then depF kids + 1 else 0) (depF rest) := rfl
    rw [hd]
    cases l with
    | false => simp
    | true =>
      by_cases h2 : a ≤ 200
      · rw [if_pos ⟨rfl, h2⟩, topAt_eq kids (a + 1) (by omega)]
        simp only [if_true]
        omega
      · rw [if_neg (fun q => h2 q.2)]
        simp only [if_true]
        omega
/-- A list's depth, and its trees' greatest. -/
theorem dep_list (F : Forest) : depT true 0 F = min (depF F) 200 + 1 ∧ topAt 0 F = min (depF F) 201 := by
  have h1 := topAt_eq F 1 (by omega)
  have h0 := topAt_eq F 0 (by omega)
  unfold depT
  rw [if_pos ⟨rfl, by omega⟩, h1, h0]
  omega
theorem eqF_nil_cons (l : Bool) (k : Int) (x : List UInt8) (a : Int) (kids rest : Forest) : eqF .nil (.cons l k x a kids rest) = false ∧ eqF (.cons l k x a kids rest) .nil = false := ⟨rfl, rfl⟩
theorem eqF_cons (l : Bool) (k : Int) (x : List UInt8) (a : Int) (kids rest : Forest) (l' : Bool) (k' : Int) (x' : List UInt8) (a' : Int) (kids' rest' : Forest) :
    eqF (.cons l k x a kids rest) (.cons l' k' x' a' kids' rest') = (eqT l k x kids l' k' x' kids' && eqF rest rest') := rfl
/-- Between two trees of a list: what is told of those ahead. -/
structure LInv (F F' : Forest) (i : Nat) (ok : Bool) (want : List UInt8) (deep : Nat) : Prop where
  yes : ok = true → ∃ s, want = 40 :: s ∧ wrF F true = (wrF F' (decide (i = 0))).map (s ++ ·)
  no : ok = false → wrF F true = none ∨ 201 ≤ deep
  dp : max deep (topAt 0 F') = topAt 0 F
theorem LInv.start (F : Forest) : LInv F F 0 true [40] 0 :=
  ⟨fun _ => ⟨[], rfl, by simp⟩, fun h => by simp at h, by simp⟩
theorem LInv.step {F : Forest} {l : Bool} {k : Int} {x : List UInt8} {a : Int} {kids rest : Forest} {i : Nat} {ok : Bool} {want : List UInt8} {deep : Nat} (h : LInv F (.cons l k x a kids rest) i ok want deep) (hlen : ∀ s, wrT l k x kids = some s → s.length ≤ 1048576) :
    LInv F rest (i + 1) (ok && decide ((textS l k x kids (decide (200 < depT l 0 kids))).2 = 0)) ((if i = 0 then want else want ++ [32]) ++ (textS l k x kids (decide (200 < depT l 0 kids))).1) (max deep (depT l 0 kids)) := by
  have hdp : max (max deep (depT l 0 kids)) (topAt 0 rest) = topAt 0 F := by
    rw [← h.dp, topAt_cons]; omega
  cases ok with
  | false => exact ⟨fun q => by simp at q, fun _ => (h.no rfl).imp id (fun q => by omega), hdp⟩
  | true =>
    obtain ⟨s, hw, hF⟩ := h.yes rfl
    rw [wrF_cons] at hF
    cases hT : wrT l k x kids with
    | none =>
      rw [hT] at hF
      refine ⟨fun q => ?_, fun _ => .inl (by simpa using hF), hdp⟩
      simp [textS, hT] at q
    | some t =>
      rw [hT] at hF
      have hl := hlen t hT
      by_cases hd : 200 < depT l 0 kids
      · refine ⟨fun q => ?_, fun _ => .inr (by omega), hdp⟩
        simp [textS, hT, hd] at q
      · have htx : textS l k x kids (decide (200 < depT l 0 kids)) = (t, 0) := by
          simp [textS, hT, hd]; omega
        rw [htx]
        refine ⟨fun _ => ?_, fun q => by simp at q, hdp⟩
        refine ⟨s ++ ((if i = 0 then [] else [32]) ++ t), ?_, ?_⟩
        · subst hw
          by_cases hi : i = 0 <;> simp [hi]
        · rw [hF]
          have e : decide (i + 1 = 0) = false := by simp
          rw [e]
          cases wrF rest false with
          | none => rfl
          | some r => by_cases hi : i = 0 <;> simp [hi]
theorem LInv.stop {F : Forest} {i : Nat} {ok : Bool} {want : List UInt8} {deep : Nat} (h : LInv F .nil i ok want deep) (hlen : ∀ s, wrT true 1 [40] F = some s → s.length ≤ 1048576) :
    deep = topAt 0 F ∧ (deep < 200 → depT true 0 F = deep + 1) ∧ (ok = true → deep < 200 → textS true 1 [40] F (decide (200 < depT true 0 F)) = (want ++ [41], 0)) ∧ (¬ (ok = true ∧ deep < 200) → (textS true 1 [40] F (decide (200 < depT true 0 F))).2 ≠ 0) := by
  have hd : deep = topAt 0 F := by
    have := h.dp
    have e : topAt 0 Forest.nil = 0 := rfl
    rw [e] at this; omega
  obtain ⟨q1, q2⟩ := dep_list F
  have hwT : wrT true 1 [40] F = (wrF F true).map (fun s => 40 :: (s ++ [41])) := by simp [wrT]
  refine ⟨hd, fun hlt => by omega, fun hok hlt => ?_, fun hno => ?_⟩
  · obtain ⟨s, hw, hF⟩ := h.yes hok
    have hF2 : wrF F true = some s := by rw [hF]; simp [wrF]
    have hT : wrT true 1 [40] F = some (40 :: (s ++ [41])) := by rw [hwT, hF2]; rfl
    have hl := hlen _ hT
    have hnd : ¬ 200 < depT true 0 F := by omega
    simp only [textS, hT, hnd, decide_false, Bool.false_eq_true, if_false, if_neg (show ¬ 1048576 < (40 :: (s ++ [41])).length by omega)]
    rw [hw]; rfl
  · have key : wrF F true = none ∨ 200 ≤ deep := by
      cases ok with
      | false => exact (h.no rfl).imp id (fun q => by omega)
      | true => exact .inr (by
          rcases Nat.lt_or_ge deep 200 with q | q
          · exact absurd ⟨rfl, q⟩ hno
          · exact q)
    rcases key with hn | hdeep
    · have hT : wrT true 1 [40] F = none := by rw [hwT, hn]; rfl
      simp [textS, hT]
    · have hnd : 200 < depT true 0 F := by omega
      unfold textS
      cases wrT true 1 [40] F with
      | none => simp
      | some s => simp [hnd]
end Go.Proofs.YtppbijbgnhmdaaaDoor

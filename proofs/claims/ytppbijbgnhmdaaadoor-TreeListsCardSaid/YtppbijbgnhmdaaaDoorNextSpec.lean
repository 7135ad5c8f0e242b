/- What a row of tokens is as trees: plain Lean. -/
import Derived.Test.YtppbijbgnhmdaaaDoorTreeOwn
namespace Go.Proofs.YtppbijbgnhmdaaaDoor
open Go.RowKit Forest

/-- A token whatever. -/
structure TokI where
  kind : Int
  text : List UInt8
  at_ : Int
def leafT (t : TokI) : Tr := ⟨false, t.kind, t.text, t.at_, .nil⟩
def nodeT (t : TokI) (G : Forest) : Tr := ⟨true, t.kind, t.text, t.at_, G⟩
/-- The trees up to a ) that closes nothing, and how many tokens these are, it too. -/
def kidsOf : Nat → List TokI → Option (Forest × Nat)
  | 0, _ => none
  | _ + 1, [] => none
  | n + 1, t :: r => if t.kind = 1 then (match kidsOf n r with
      | none => none
      | some (G, j) => match kidsOf n (r.drop j) with
        | none => none
        | some (H, i) => some ((nodeT t G).f.app H, 1 + j + i)) else if t.kind = 2 then some (.nil, 1) else (match kidsOf n r with
      | none => none
      | some (H, i) => some ((leafT t).f.app H, 1 + i))
theorem kidsOf_le : ∀ (n : Nat) (l : List TokI) (G : Forest) (j : Nat), kidsOf n l = some (G, j) → 0 < j ∧ j ≤ l.length
  | 0, _, _, _, h => by simp [kidsOf] at h
  | _ + 1, [], _, _, h => by simp [kidsOf] at h
  | n + 1, t :: r, G, j, h => by
    simp only [kidsOf] at h
    split at h
    · split at h
      · cases h
      · rename_i G1 j1 h1
        have a1 := kidsOf_le n r G1 j1 h1
        split at h
        · cases h
        · rename_i H i h2
          have a2 := kidsOf_le n _ H i h2
          simp at a2
          cases h
          simp; omega
    · split at h
      · cases h; simp
      · split at h
        · cases h
        · rename_i H i h2
          have a2 := kidsOf_le n _ H i h2
          cases h
          simp; omega
/-- Fuel enough. -/
theorem kidsOf_fuel : ∀ (m : Nat) (l : List TokI), l.length ≤ m → ∀ n, l.length ≤ n → kidsOf n l = kidsOf l.length l
  | m, [], _, n, _ => by cases n <;> simp [kidsOf]
  | 0, t :: r, h, _, _ => by simp at h
  | m + 1, t :: r, h, n, hn => by
    cases n with
    | zero => simp at hn
    | succ n =>
      have h1 := kidsOf_fuel m r (by simpa using h) n (by simpa using hn)
      have e1 : (t :: r).length = r.length + 1 := rfl
      rw [e1]
      simp only [kidsOf, h1]
      by_cases hk : t.kind = 1
      · simp only [if_pos hk]
        cases hq : kidsOf r.length r with
        | none => rfl
        | some p =>
          obtain ⟨G, j⟩ := p
          have hj := kidsOf_le _ _ _ _ hq
          have h2 := kidsOf_fuel m (r.drop j) (by simp at h ⊢; omega) n (by simp at hn ⊢; omega)
          have h3 := kidsOf_fuel m (r.drop j) (by simp at h ⊢; omega) r.length (by simp)
          simp only [h2, h3]
      · simp only [if_neg hk]
/-- With fuel enough. -/
def kidsL (l : List TokI) : Option (Forest × Nat) := kidsOf l.length l
theorem kidsL_nil : kidsL [] = none := rfl
theorem kidsL_cons (t : TokI) (r : List TokI) : kidsL (t :: r) = if t.kind = 1 then (match kidsL r with
      | none => none
      | some (G, j) => match kidsL (r.drop j) with
        | none => none
        | some (H, i) => some ((nodeT t G).f.app H, 1 + j + i)) else if t.kind = 2 then some (.nil, 1) else (match kidsL r with
      | none => none
      | some (H, i) => some ((leafT t).f.app H, 1 + i)) := by
  unfold kidsL
  have e1 : (t :: r).length = r.length + 1 := rfl
  rw [e1]
  simp only [kidsOf]
  have h : ∀ j, kidsOf r.length (r.drop j) = kidsOf (r.drop j).length (r.drop j) := fun j => kidsOf_fuel r.length (r.drop j) (by simp) _ (by simp)
  simp only [h]
theorem kidsL_le {l : List TokI} {G : Forest} {j : Nat} (h : kidsL l = some (G, j)) : 0 < j ∧ j ≤ l.length := kidsOf_le _ _ _ _ h
/-- What stands behind does not matter. -/
theorem kidsL_take : ∀ (m : Nat) (l : List TokI), l.length ≤ m → ∀ (G : Forest) (j k : Nat), kidsL l = some (G, j) → j ≤ k → kidsL (l.take k) = some (G, j)
  | m, [], _, G, j, k, h, _ => by simp [kidsL, kidsOf] at h
  | 0, t :: r, h, _, _, _, _, _ => by simp at h
  | m + 1, t :: r, hm, G, j, k, h, hk => by
    have hj := kidsL_le h
    obtain ⟨k, rfl⟩ : ∃ k', k = k' + 1 := ⟨k - 1, by omega⟩
    rw [List.take_succ_cons, kidsL_cons]
    rw [kidsL_cons] at h
    by_cases h1 : t.kind = 1
    · simp only [if_pos h1] at h ⊢
      cases hq : kidsL r with
      | none => simp [hq] at h
      | some p =>
        obtain ⟨G1, j1⟩ := p
        simp only [hq] at h
        cases hq2 : kidsL (r.drop j1) with
        | none => simp [hq2] at h
        | some p2 =>
          obtain ⟨H, i⟩ := p2
          simp only [hq2] at h
          cases h
          have a1 := kidsL_take m r (by simpa using hm) G1 j1 k hq (by omega)
          have hl1 := kidsL_le hq
          have a2 := kidsL_take m (r.drop j1) (by simp at hm ⊢; omega) H i (k - j1) hq2 (by omega)
          rw [← List.drop_take] at a2
          simp only [a1, a2]
    · simp only [if_neg h1] at h ⊢
      by_cases h2 : t.kind = 2
      · simp only [if_pos h2] at h ⊢; exact h
      · simp only [if_neg h2] at h ⊢
        cases hq : kidsL r with
        | none => simp [hq] at h
        | some p =>
          obtain ⟨H, i⟩ := p
          simp only [hq] at h
          cases h
          have a1 := kidsL_take m r (by simpa using hm) H i k hq (by omega)
          simp only [a1]
/-- One tree. -/
def oneL (l : List TokI) : Option (Tr × Nat) :=
  match l with
  | [] => none
  | t :: r => if t.kind = 1 then (match kidsL r with
      | none => none
      | some (G, j) => some (nodeT t G, j + 1)) else some (leafT t, 1)
/-- How many lists stand within one another. -/
def depF : Forest → Nat
  | .nil => 0
  | .cons l _ _ _ kids rest => max (if l then depF kids + 1 else 0) (depF rest)
theorem depF_app : ∀ F G : Forest, depF (F.app G) = max (depF F) (depF G)
  | .nil, G => by simp [app, depF]
  | .cons l k x a kids rest, G => by simp only [app, depF, depF_app rest G]; omega

/-- The machine of package tree: the open lists, the innermost first. -/
inductive Ran where
  | short
  | ok (T : Tr) (n : Nat) (deep : Bool)
def push1 (T : Tr) : List (TokI × Forest) → Option (List (TokI × Forest))
  | [] => none
  | (o, F) :: st => some ((o, F.app T.f) :: st)
def runM : List TokI → List (TokI × Forest) → Bool → Nat → Ran
  | [], _, _, _ => .short
  | t :: r, st, d, n =>
    if t.kind = 1 then runM r ((t, .nil) :: st) (d || decide (200 ≤ st.length)) (n + 1)
    else if t.kind = 2 then
      match st with
      | [] => .short
      | (o, F) :: st' => match push1 (nodeT o F) st' with
        | none => .ok (nodeT o F) (n + 1) d
        | some st'' => runM r st'' d (n + 1)
    else match push1 (leafT t) st with
      | none => .ok (leafT t) (n + 1) d
      | some st'' => runM r st'' d (n + 1)
theorem runM_open (t : TokI) (r : List TokI) (st : List (TokI × Forest)) (d : Bool) (n : Nat) (h : t.kind = 1) : runM (t :: r) st d n = runM r ((t, .nil) :: st) (d || decide (200 ≤ st.length)) (n + 1) := if_pos h
theorem runM_close (t : TokI) (r : List TokI) (o : TokI) (F : Forest) (st : List (TokI × Forest)) (d : Bool) (n : Nat) (h : t.kind = 2) : runM (t :: r) ((o, F) :: st) d n = match push1 (nodeT o F) st with
    | none => .ok (nodeT o F) (n + 1) d
    | some st'' => runM r st'' d (n + 1) := by
  conv => lhs; unfold runM
  rw [if_neg (by omega), if_pos h]
theorem runM_leaf (t : TokI) (r : List TokI) (st : List (TokI × Forest)) (d : Bool) (n : Nat) (h1 : t.kind ≠ 1) (h2 : t.kind ≠ 2) : runM (t :: r) st d n = match push1 (leafT t) st with
    | none => .ok (leafT t) (n + 1) d
    | some st'' => runM r st'' d (n + 1) := by
  conv => lhs; unfold runM
  rw [if_neg h1, if_neg h2]
/-- Behind the trees of an open list. -/
def behind (T : Tr) (r : List TokI) (st : List (TokI × Forest)) (d : Bool) (n : Nat) : Ran :=
  match push1 T st with
  | none => .ok T n d
  | some st'' => runM r st'' d n

def deepB (h : Nat) (G : Forest) : Bool := decide (0 < depF G ∧ 200 < h + depF G)
theorem runM_kids : ∀ (m : Nat) (r : List TokI), r.length ≤ m → ∀ (o : TokI) (F : Forest) (st : List (TokI × Forest)) (d : Bool) (n : Nat),
    runM r ((o, F) :: st) d n = match kidsL r with
      | none => .short
      | some (G, j) => behind (nodeT o (F.app G)) (r.drop j) st (d || deepB (st.length + 1) G) (n + j)
  | m, [], _, o, F, st, d, n => by simp [runM, kidsL, kidsOf]
  | 0, t :: r, h, _, _, _, _, _ => by simp at h
  | m + 1, t :: r, hm, o, F, st, d, n => by
    rw [kidsL_cons]
    unfold runM
    by_cases h1 : t.kind = 1
    · simp only [if_pos h1]
      rw [runM_kids m r (by simpa using hm)]
      cases hq : kidsL r with
      | none => rfl
      | some p =>
        obtain ⟨G, j⟩ := p
        have hl1 := kidsL_le hq
        have e0 : behind (nodeT t (Forest.nil.app G)) (r.drop j) ((o, F) :: st) (d || decide (200 ≤ ((o, F) :: st).length) || deepB (((o, F) :: st).length + 1) G) (n + 1 + j) =
          runM (r.drop j) ((o, F.app (nodeT t G).f) :: st) (d || decide (200 ≤ ((o, F) :: st).length) || deepB (((o, F) :: st).length + 1) G) (n + 1 + j) := rfl
        show behind _ _ _ _ _ = _
        rw [e0, runM_kids m (r.drop j) (by simp at hm ⊢; omega)]
        cases hq2 : kidsL (r.drop j) with
        | none => simp only [hq2]
        | some p2 =>
          obtain ⟨H, i⟩ := p2
          simp only [hq2, List.drop_drop]
          have e1 : (F.app (nodeT t G).f).app H = F.app ((nodeT t G).f.app H) := Forest.app_assoc _ _ _
          have e2 : List.drop (j + i) r = List.drop (1 + j + i) (t :: r) := by
            have : 1 + j + i = (j + i) + 1 := by omega
            rw [this, List.drop_succ_cons]
          have e3 : n + 1 + j + i = n + (1 + j + i) := by omega
          have e4 : (d || decide (200 ≤ ((o, F) :: st).length) || deepB (((o, F) :: st).length + 1) G || deepB (st.length + 1) H) = (d || deepB (st.length + 1) ((nodeT t G).f.app H)) := by
            unfold deepB
            rw [depF_app]
            have : depF (nodeT t G).f = depF G + 1 := by simp [nodeT, Tr.f, depF]
            rw [this]
            cases d
            · simp only [Bool.false_or]
              rw [Bool.eq_iff_iff]
              simp only [Bool.or_eq_true, decide_eq_true_eq, List.length_cons]
              omega
            · simp
          rw [e1, e2, e3, e4]
    · simp only [if_neg h1]
      by_cases h2 : t.kind = 2
      · simp only [if_pos h2, Forest.app_nil, List.drop_succ_cons, List.drop_zero]
        have : deepB (st.length + 1) Forest.nil = false := by simp [deepB, depF]
        rw [this, Bool.or_false]
        rfl
      · simp only [if_neg h2, push1]
        rw [runM_kids m r (by simpa using hm)]
        cases hq : kidsL r with
        | none => rfl
        | some p =>
          obtain ⟨H, i⟩ := p
          simp only
          have e1 : (F.app (leafT t).f).app H = F.app ((leafT t).f.app H) := Forest.app_assoc _ _ _
          have e2 : List.drop i r = List.drop (1 + i) (t :: r) := by
            rw [Nat.add_comm 1 i, List.drop_succ_cons]
          have e3 : n + 1 + i = n + (1 + i) := by omega
          have e4 : deepB (st.length + 1) ((leafT t).f.app H) = deepB (st.length + 1) H := by unfold deepB; rw [depF_app]; simp [leafT, Tr.f, depF]
          rw [e1, e2, e3, e4]
/-- The machine reads one tree. -/
theorem runM_one (t : TokI) (r : List TokI) (n : Nat) (h2 : t.kind ≠ 2) : runM (t :: r) [] false n = match oneL (t :: r) with
    | none => .short
    | some (T, j) => .ok T (n + j) (decide (200 < depF T.f)) := by
  unfold runM oneL
  by_cases h1 : t.kind = 1
  · simp only [if_pos h1]
    rw [runM_kids r.length r (Nat.le_refl _)]
    cases hq : kidsL r with
    | none => rfl
    | some p =>
      obtain ⟨G, j⟩ := p
      have e1 : (false || decide (200 ≤ ([] : List (TokI × Forest)).length) || deepB (([] : List (TokI × Forest)).length + 1) G) = decide (200 < depF (nodeT t G).f) := by
        have : depF (nodeT t G).f = depF G + 1 := by simp [nodeT, Tr.f, depF]
        rw [this]; unfold deepB
        rw [Bool.eq_iff_iff]
        simp
        omega
      have e3 : n + 1 + j = n + (j + 1) := by omega
      show Ran.ok _ _ _ = Ran.ok _ _ _
      rw [e1, e3]; rfl
  · simp only [if_neg h1, if_neg h2, push1]
    simp [leafT, Tr.f, depF]

theorem oneL_le {l : List TokI} {T : Tr} {j : Nat} (h : oneL l = some (T, j)) : 0 < j ∧ j ≤ l.length := by
  unfold oneL at h
  split at h
  · cases h
  · rename_i t r
    split at h
    · split at h
      · cases h
      · rename_i G i hq
        have := kidsL_le hq
        cases h
        simp; omega
    · cases h; simp
theorem oneL_take {l : List TokI} {T : Tr} {j : Nat} (h : oneL l = some (T, j)) : oneL (l.take j) = some (T, j) := by
  cases l with
  | nil => cases h
  | cons t r =>
    have hj := oneL_le h
    obtain ⟨j, rfl⟩ : ∃ j', j = j' + 1 := ⟨j - 1, by omega⟩
    unfold oneL at h ⊢
    simp only [List.take_succ_cons] at h ⊢
    by_cases h1 : t.kind = 1
    · simp only [if_pos h1] at h ⊢
      cases hq : kidsL r with
      | none => simp [hq] at h
      | some p =>
        obtain ⟨G, i⟩ := p
        simp only [hq] at h
        cases h
        rw [kidsL_take _ r (Nat.le_refl _) G j j hq (Nat.le_refl _)]
    · simp only [if_neg h1] at h ⊢
      cases h; rfl
/-- The trees of a list, one by one. -/
theorem kidsL_step (t : TokI) (r : List TokI) (h2 : t.kind ≠ 2) {G : Forest} {j : Nat} (h : kidsL (t :: r) = some (G, j)) : ∃ T i H, oneL (t :: r) = some (T, i) ∧ i < j ∧ kidsL ((t :: r).drop i) = some (H, j - i) ∧ G = T.f.app H := by
  rw [kidsL_cons] at h
  unfold oneL
  by_cases h1 : t.kind = 1
  · simp only [if_pos h1] at h ⊢
    cases hq : kidsL r with
    | none => simp [hq] at h
    | some p =>
      obtain ⟨G1, j1⟩ := p
      simp only [hq] at h
      cases hq2 : kidsL (r.drop j1) with
      | none => simp [hq2] at h
      | some p2 =>
        obtain ⟨H, i⟩ := p2
        have hi := kidsL_le hq2
        simp only [hq2] at h
        cases h
        refine ⟨_, _, H, rfl, by omega, ?_, rfl⟩
        rw [List.drop_succ_cons, hq2]
        have : 1 + j1 + i - (j1 + 1) = i := by omega
        rw [this]
  · simp only [if_neg h1, if_neg h2] at h ⊢
    cases hq : kidsL r with
    | none => simp [hq] at h
    | some p =>
      obtain ⟨H, i⟩ := p
      have hi := kidsL_le hq
      simp only [hq] at h
      cases h
      refine ⟨_, _, H, rfl, by omega, ?_, rfl⟩
      rw [List.drop_succ_cons, List.drop_zero, hq]
      have : 1 + i - 1 = i := by omega
      rw [this]
theorem kidsL_close (t : TokI) (r : List TokI) (h2 : t.kind = 2) : kidsL (t :: r) = some (.nil, 1) := by
  rw [kidsL_cons, if_neg (by omega), if_pos h2]

/-- The reference's end: where so many open lists end. -/
def endR : List TokI → Int → Nat → Option Nat
  | [], _, _ => none
  | t :: r, h, n =>
    let h' := if t.kind = 1 then h + 1 else if t.kind = 2 then h - 1 else h
    if h' = 0 then some (n + 1) else endR r h' (n + 1)
theorem endR_cons (t : TokI) (r : List TokI) (h : Int) (n : Nat) : endR (t :: r) h n = if (if t.kind = 1 then h + 1 else if t.kind = 2 then h - 1 else h) = 0 then some (n + 1) else endR r (if t.kind = 1 then h + 1 else if t.kind = 2 then h - 1 else h) (n + 1) := rfl
theorem endR_kids : ∀ (m : Nat) (r : List TokI), r.length ≤ m → ∀ (h n : Nat), endR r ((h : Int) + 1) n = match kidsL r with
    | none => none
    | some (_, j) => if h = 0 then some (n + j) else endR (r.drop j) (h : Int) (n + j)
  | m, [], _, h, n => by simp [endR, kidsL, kidsOf]
  | 0, t :: r, hm, _, _ => by simp at hm
  | m + 1, t :: r, hm, h, n => by
    rw [kidsL_cons, endR_cons]
    by_cases h1 : t.kind = 1
    · simp only [if_pos h1]
      rw [if_neg (by omega)]
      have e := endR_kids m r (by simpa using hm) (h + 1) (n + 1)
      simp only [Int.natCast_add, Int.natCast_one] at e
      rw [e]
      cases hq : kidsL r with
      | none => rfl
      | some p =>
        obtain ⟨G, j⟩ := p
        simp only
        rw [if_neg (by omega), endR_kids m (r.drop j) (by simp at hm ⊢; omega) h (n + 1 + j)]
        cases hq2 : kidsL (r.drop j) with
        | none => rfl
        | some p2 =>
          obtain ⟨H, i⟩ := p2
          simp only [List.drop_drop]
          have e2 : List.drop (j + i) r = List.drop (1 + j + i) (t :: r) := by
            have : 1 + j + i = (j + i) + 1 := by omega
            rw [this, List.drop_succ_cons]
          have e3 : n + 1 + j + i = n + (1 + j + i) := by omega
          rw [e2, e3]
    · simp only [if_neg h1]
      by_cases h2 : t.kind = 2
      · simp only [if_pos h2]
        have e : (h : Int) + 1 - 1 = h := by omega
        rw [e]
        by_cases h0 : h = 0
        · rw [if_pos (by omega), if_pos h0]
        · rw [if_neg (by omega), if_neg h0]; rfl
      · simp only [if_neg h2]
        rw [if_neg (by omega), endR_kids m r (by simpa using hm) h (n + 1)]
        cases hq : kidsL r with
        | none => rfl
        | some p =>
          obtain ⟨H, i⟩ := p
          simp only
          have e2 : List.drop i r = List.drop (1 + i) (t :: r) := by
            rw [Nat.add_comm 1 i, List.drop_succ_cons]
          have e3 : n + 1 + i = n + (1 + i) := by omega
          rw [e2, e3]
theorem endR_one (t : TokI) (r : List TokI) (n : Nat) (h2 : t.kind ≠ 2) : endR (t :: r) 0 n = match oneL (t :: r) with
    | none => none
    | some (_, j) => some (n + j) := by
  rw [endR_cons]
  unfold oneL
  by_cases h1 : t.kind = 1
  · simp only [if_pos h1]
    rw [if_neg (by omega)]
    have e := endR_kids r.length r (Nat.le_refl _) 0 (n + 1)
    simp only [Int.natCast_zero] at e
    rw [e]
    cases hq : kidsL r with
    | none => rfl
    | some p =>
      obtain ⟨G, j⟩ := p
      simp only [if_true]
      have e3 : n + 1 + j = n + (j + 1) := by omega
      rw [e3]
  · simp only [if_neg h1, if_neg h2, if_true]

/-- The reference's most. -/
def mostR : List TokI → Int → Int → Int
  | [], _, top => top
  | t :: r, h, top =>
    let h1 := if t.kind = 1 then h + 1 else h
    mostR r (if t.kind = 2 then h1 - 1 else h1) (if top < h1 then h1 else top)
theorem mostR_cons (t : TokI) (r : List TokI) (h top : Int) : mostR (t :: r) h top = mostR r (if t.kind = 2 then (if t.kind = 1 then h + 1 else h) - 1 else (if t.kind = 1 then h + 1 else h)) (if top < (if t.kind = 1 then h + 1 else h) then (if t.kind = 1 then h + 1 else h) else top) := rfl
theorem mostR_kids : ∀ (m : Nat) (r : List TokI), r.length ≤ m → ∀ (h tp : Nat) (G : Forest) (j : Nat), kidsL r = some (G, j) → h + 1 ≤ tp →
    mostR r ((h : Int) + 1) (tp : Int) = mostR (r.drop j) (h : Int) ((max tp (h + 1 + depF G) : Nat) : Int)
  | m, [], _, h, tp, G, j, hk, _ => by simp [kidsL, kidsOf] at hk
  | 0, t :: r, hm, _, _, _, _, _, _ => by simp at hm
  | m + 1, t :: r, hm, h, tp, G, j, hk, htp => by
    rw [kidsL_cons] at hk
    rw [mostR_cons]
    by_cases h1 : t.kind = 1
    · have h2 : ¬ t.kind = 2 := by omega
      simp only [if_pos h1, if_neg h2] at hk ⊢
      cases hq : kidsL r with
      | none => simp [hq] at hk
      | some p =>
        obtain ⟨G1, j1⟩ := p
        simp only [hq] at hk
        cases hq2 : kidsL (r.drop j1) with
        | none => simp [hq2] at hk
        | some p2 =>
          obtain ⟨H, i⟩ := p2
          simp only [hq2] at hk
          cases hk
          have e0 : (if (tp : Int) < (h : Int) + 1 + 1 then (h : Int) + 1 + 1 else (tp : Int)) = ((max tp (h + 1 + 1) : Nat) : Int) := by split <;> omega
          rw [e0]
          have e1 := mostR_kids m r (by simpa using hm) (h + 1) (max tp (h + 1 + 1)) G1 j1 hq (by omega)
          simp only [Int.natCast_add, Int.natCast_one] at e1
          rw [e1]
          have e2 := mostR_kids m (r.drop j1) (by simp at hm ⊢; omega) h (max (max tp (h + 1 + 1)) (h + 1 + 1 + depF G1)) H i hq2 (by omega)
          rw [e2]
          have e3 : List.drop i (List.drop j1 r) = List.drop (1 + j1 + i) (t :: r) := by
            have : 1 + j1 + i = (j1 + i) + 1 := by omega
            rw [this, List.drop_succ_cons, List.drop_drop]
          have e4 : max (max (max tp (h + 1 + 1)) (h + 1 + 1 + depF G1)) (h + 1 + depF H) = max tp (h + 1 + depF ((nodeT t G1).f.app H)) := by
            rw [depF_app]
            have : depF (nodeT t G1).f = depF G1 + 1 := by simp [nodeT, Tr.f, depF]
            rw [this]; omega
          rw [e3, e4]
    · simp only [if_neg h1] at hk ⊢
      have e0 : (if (tp : Int) < (h : Int) + 1 then (h : Int) + 1 else (tp : Int)) = (tp : Int) := by rw [if_neg (by omega)]
      rw [e0]
      by_cases h2 : t.kind = 2
      · simp only [if_pos h2] at hk ⊢
        cases hk
        have e : (h : Int) + 1 - 1 = h := by omega
        have e4 : max tp (h + 1 + depF Forest.nil) = tp := by simp [depF]; omega
        rw [e, e4]; rfl
      · simp only [if_neg h2] at hk ⊢
        cases hq : kidsL r with
        | none => simp [hq] at hk
        | some p =>
          obtain ⟨H, i⟩ := p
          simp only [hq] at hk
          cases hk
          rw [mostR_kids m r (by simpa using hm) h tp H i hq htp]
          have e2 : List.drop i r = List.drop (1 + i) (t :: r) := by
            rw [Nat.add_comm 1 i, List.drop_succ_cons]
          have e4 : depF ((leafT t).f.app H) = depF H := by rw [depF_app]; simp [leafT, Tr.f, depF]
          rw [e2, e4]
theorem mostR_one (t : TokI) (r : List TokI) {T : Tr} {j : Nat} (h2 : t.kind ≠ 2) (h : oneL (t :: r) = some (T, j)) : mostR ((t :: r).take j) 0 0 = ((depF T.f : Nat) : Int) := by
  have hj := oneL_le h
  obtain ⟨j, rfl⟩ : ∃ j', j = j' + 1 := ⟨j - 1, by omega⟩
  unfold oneL at h
  rw [List.take_succ_cons, mostR_cons]
  by_cases h1 : t.kind = 1
  · simp only [if_pos h1, if_neg h2] at h ⊢
    cases hq : kidsL r with
    | none => simp [hq] at h
    | some p =>
      obtain ⟨G, i⟩ := p
      simp only [hq] at h
      cases h
      have hk := kidsL_take _ r (Nat.le_refl _) G j j hq (Nat.le_refl _)
      have hl := kidsL_le hq
      have e := mostR_kids _ (r.take j) (Nat.le_refl _) 0 1 G j hk (by omega)
      simp only [Int.natCast_zero, Int.natCast_one] at e
      have e0 : (if (0 : Int) < 0 + 1 then (0 : Int) + 1 else 0) = 1 := by simp
      rw [e0, e, List.drop_eq_nil_of_le (by simp; omega)]
      have e1 : depF (nodeT t G).f = depF G + 1 := by simp [nodeT, Tr.f, depF]
      rw [e1]
      unfold mostR
      omega
  · simp only [if_neg h1, if_neg h2] at h ⊢
    cases h
    simp [leafT, Tr.f, depF, mostR]

/-- The tree at a place, what stands from there on being told. -/
def nextT (s : List TokI) (p len : Int) : Tr × Int × Int :=
  match s with
  | [] => (zeroTr, p, 4)
  | t :: r => if t.kind = 2 then (zeroTr, p, 41) else match oneL (t :: r) with
    | none => (zeroTr, len, 4)
    | some (T, j) => if 200 < depF T.f then (zeroTr, p + j, 40) else (T, p + j, 0)
theorem nextT_close (t : TokI) (r : List TokI) (p len : Int) (h : t.kind = 2) : nextT (t :: r) p len = (zeroTr, p, 41) := if_pos h
theorem nextT_short (t : TokI) (r : List TokI) (p len : Int) (h : t.kind ≠ 2) (hq : oneL (t :: r) = none) : nextT (t :: r) p len = (zeroTr, len, 4) := by unfold nextT; simp only [if_neg h, hq]
theorem nextT_one (t : TokI) (r : List TokI) (p len : Int) (h : t.kind ≠ 2) {T : Tr} {j : Nat} (hq : oneL (t :: r) = some (T, j)) : nextT (t :: r) p len = if 200 < depF T.f then (zeroTr, p + j, 40) else (T, p + j, 0) := by unfold nextT; simp only [if_neg h, hq]
/-- The tree at a place: the tree, the place behind it, what is wrong. -/
def nextS (l : List TokI) (frm : Int) : Tr × Int × Int :=
  if frm < 0 ∨ (l.length : Int) < frm then (zeroTr, frm, 2) else nextT (l.drop frm.toNat) frm l.length
theorem nextS_nat (l : List TokI) (p : Nat) (h : p ≤ l.length) : nextS l (p : Int) = nextT (l.drop p) p l.length := by
  unfold nextS; rw [if_neg (by omega), Int.toNat_natCast]
/-- What stands for a tree that is too deep. -/
def deepTr : Tr := ⟨true, 1, [40], 0, (Tr.mk false 7 [100, 101, 101, 112] 0 .nil).f⟩
/-- The trees of all tokens. -/
def allS : Nat → List TokI → Nat → Forest × Nat × Int
  | 0, _, p => (.nil, p, 0)
  | _ + 1, [], p => (.nil, p, 0)
  | n + 1, t :: r, p => if t.kind = 2 then (.nil, p, 41) else match oneL (t :: r) with
    | none => (.nil, p, 4)
    | some (T, j) => let q := allS n ((t :: r).drop j) (p + j); ((if 200 < depF T.f then deepTr else T).f.app q.1, q.2)
theorem allS_fuel : ∀ (m : Nat) (l : List TokI), l.length ≤ m → ∀ (n p : Nat), l.length ≤ n → allS n l p = allS l.length l p
  | _, [], _, n, p, _ => by cases n <;> rfl
  | 0, t :: r, h, _, _, _ => by simp at h
  | m + 1, t :: r, h, n, p, hn => by
    cases n with
    | zero => simp at hn
    | succ n =>
      have e1 : (t :: r).length = r.length + 1 := rfl
      rw [e1]
      simp only [allS]
      split
      · rfl
      · cases hq : oneL (t :: r) with
        | none => rfl
        | some q =>
          obtain ⟨T, j⟩ := q
          have hj := oneL_le hq
          have a1 := allS_fuel m ((t :: r).drop j) (by simp at h ⊢; omega) n (p + j) (by simp at hn ⊢; omega)
          have a2 := allS_fuel m ((t :: r).drop j) (by simp at h ⊢; omega) r.length (p + j) (by simp; omega)
          simp only [a1, a2]
def allL (l : List TokI) (p : Nat) : Forest × Nat × Int := allS l.length l p
theorem allL_nil (p : Nat) : allL [] p = (.nil, p, 0) := rfl
theorem allL_close (t : TokI) (r : List TokI) (p : Nat) (h : t.kind = 2) : allL (t :: r) p = (.nil, p, 41) := by unfold allL; show allS (r.length + 1) _ _ = _; simp only [allS, if_pos h]
theorem allL_short (t : TokI) (r : List TokI) (p : Nat) (h : t.kind ≠ 2) (hq : oneL (t :: r) = none) : allL (t :: r) p = (.nil, p, 4) := by unfold allL; show allS (r.length + 1) _ _ = _; simp only [allS, if_neg h, hq]
theorem allL_one (t : TokI) (r : List TokI) (p : Nat) (h : t.kind ≠ 2) {T : Tr} {j : Nat} (hq : oneL (t :: r) = some (T, j)) :
    allL (t :: r) p = ((if 200 < depF T.f then deepTr else T).f.app (allL ((t :: r).drop j) (p + j)).1, (allL ((t :: r).drop j) (p + j)).2) := by
  have hj := oneL_le hq
  have a2 := allS_fuel r.length ((t :: r).drop j) (by simp; omega) r.length (p + j) (by simp; omega)
  unfold allL
  show allS (r.length + 1) _ _ = _
  simp only [allS, if_neg h, hq, a2]
end Go.Proofs.YtppbijbgnhmdaaaDoor

/- The reference's end and most. -/
namespace Go.Proofs.YtppbijbgnhmdaaaDoor
open Go.RowKit Forest

/-- A slice of tokens whatever. -/
structure TksI (w : World) (A : Option Addr) (l : List TokI) : Prop where
  out : ∀ i, ∀ h : i < l.length, ∃ g o, A = some ⟨g, o, none⟩ ∧ w.cell? ⟨g, o + i * 3, none⟩ = some (.int .u8 l[i].kind) ∧ w.cell? ⟨g, o + i * 3 + 1, none⟩ = some (.string (bstr l[i].text)) ∧ w.cell? ⟨g, o + i * 3 + 2, none⟩ = some (.int .i64 l[i].at_)
theorem TksI.below {w W : World} {A : Option Addr} {l : List TokI} (h : TksI w A l) (hb : Below w.heap.size w W) : TksI W A l := ⟨fun i hi => by
  obtain ⟨g, o, e, h0, h1, h2⟩ := h.out i hi
  have hg := World.block_lt_of_cell? w _ h0
  have hc : ∀ k, W.cell? ⟨g, k, none⟩ = w.cell? ⟨g, k, none⟩ := fun k => hb.cell hg
  exact ⟨g, o, e, (hc _).trans h0, (hc _).trans h1, (hc _).trans h2⟩⟩
def Tok.i (t : Tok) : TokI := ⟨t.kind, t.text, ((t.at_ : Nat) : Int)⟩
theorem Tks.i {w : World} {A : Option Addr} {l : List Tok} (h : Tks w A l) : TksI w A (l.map Tok.i) := ⟨fun i hi => by
  obtain ⟨g, o, e, h0, h1, h2⟩ := h.out i (by simpa using hi)
  refine ⟨g, o, e, ?_, ?_, ?_⟩
  · simpa [Tok.i] using h0
  · simpa [Tok.i] using h1
  · simpa [Tok.i] using h2⟩
theorem drop_at {α : Type} (l : List α) (i : Nat) (h : i < l.length) : l.drop i = l[i] :: l.drop (i + 1) := List.drop_eq_getElem_cons h

def endV (o : Option Nat) : Int := match o with | none => -1 | some n => ((n : Nat) : Int)
set_option maxHeartbeats 2000000 in
theorem end_calls (A : Option Addr) (c : Nat) (l : List TokI) (p : Nat) (w : World) (hT : TksI w A l) (hp : p ≤ l.length) (hl : l.length ≤ 140737488351232) :
    Calls Tryd.prog 34 #[.slice A l.length c, .int .i64 ((p : Nat) : Int)] w fun e w' => e = .returned (.int .i64 (endV (endR (l.drop p) 0 p))) ∧ w = w' := by
  obtain ⟨E, HE⟩ : ∃ E, Hid (E = endR (l.drop p) 0 p) := ⟨_, rfl⟩
  rw [← HE.out]
  go_enter Tryd.func34, Tryd.ntmps34
  go_wp2
  go_loop [5, 6] (fun u v => ∃ (i : Nat) (h : Int), u = .int .i64 h ∧ v = .int .i64 (i : Int) ∧ i ≤ l.length ∧ -(i : Int) ≤ h ∧ h ≤ (i : Int) ∧ endR (l.drop i) h i = E) (fun _ v => l.length - (intOf v).toNat)
  case atStart => exact ⟨p, 0, rfl, rfl, hp, by omega, by omega, HE.out.symm⟩
  case round =>
    obtain ⟨i, h, rfl, rfl, hi, hh1, hh2, hE⟩ := hrel
    by_cases hlt : i < l.length
    · obtain ⟨g, o, rfl, h0, h1, h2⟩ := hT.out i hlt
      rw [drop_at l i hlt, endR_cons] at hE
      generalize l[i].kind = k at *
      by_cases k1 : k = 1
      · subst k1
        simp only [if_true] at hE
        by_cases hz : h + 1 = 0
        · rw [if_pos hz] at hE
          have HE2 : Hid (endV E = ((i + 1 : Nat) : Int)) := by show _ = _; rw [← hE]; rfl
          have hz2 : (h + 1 == 0) = true := by simpa using hz
          clear hE hz
          go_wp2
          go_ret
          rw [HE2.out]
          exact ⟨rfl, rfl⟩
        · rw [if_neg hz] at hE
          have HE2 := Lib.hid hE
          have hz2 : (h + 1 == 0) = false := by simpa using hz
          clear hE
          go_wp2
          go_round
          case rel => exact ⟨i + 1, h + 1, by go_num, by go_num, by omega, by omega, by omega, HE2.out⟩
          case measure => simp [intOf]; omega
      · have e1 : (k == 1) = false := by simpa using k1
        by_cases k2 : k = 2
        · subst k2
          simp only [if_neg k1, if_true] at hE
          by_cases hz : h - 1 = 0
          · rw [if_pos hz] at hE
            have HE2 : Hid (endV E = ((i + 1 : Nat) : Int)) := by show _ = _; rw [← hE]; rfl
            have hz2 : (h - 1 == 0) = true := by simpa using hz
            clear hE hz
            go_wp2
            go_ret
            rw [HE2.out]
            exact ⟨rfl, rfl⟩
          · rw [if_neg hz] at hE
            have HE2 := Lib.hid hE
            have hz2 : (h - 1 == 0) = false := by simpa using hz
            clear hE
            go_wp2
            go_round
            case rel => exact ⟨i + 1, h - 1, by go_num, by go_num, by omega, by omega, by omega, HE2.out⟩
            case measure => simp [intOf]; omega
        · have e2 : (k == 2) = false := by simpa using k2
          simp only [if_neg k1, if_neg k2] at hE
          by_cases hz : h = 0
          · subst hz
            rw [if_pos rfl] at hE
            have HE2 : Hid (endV E = ((i + 1 : Nat) : Int)) := by show _ = _; rw [← hE]; rfl
            clear hE
            go_wp2
            go_ret
            rw [HE2.out]
            exact ⟨rfl, rfl⟩
          · rw [if_neg hz] at hE
            have HE2 := Lib.hid hE
            have hz2 : (h == 0) = false := by simpa using hz
            clear hE
            go_wp2
            go_round
            case rel => exact ⟨i + 1, h, rfl, by go_num, by omega, by omega, by omega, HE2.out⟩
            case measure => simp [intOf]; omega
    · have hil : i = l.length := by omega
      rw [List.drop_eq_nil_of_le (by omega)] at hE
      have HE2 : Hid (endV E = -1) := by show _ = _; rw [← hE]; rfl
      clear hE hil
      go_wp2
      go_ret
      rw [HE2.out]
      exact ⟨rfl, rfl⟩

set_option maxHeartbeats 2000000 in
theorem most_calls (A : Option Addr) (c : Nat) (l : List TokI) (w : World) (hT : TksI w A l) (hl : l.length ≤ 140737488351232) :
    Calls Tryd.prog 35 #[.slice A l.length c] w fun e w' => e = .returned (.int .i64 (mostR l 0 0)) ∧ w = w' := by
  obtain ⟨E, HE⟩ : ∃ E, Hid (E = mostR l 0 0) := ⟨_, rfl⟩
  rw [← HE.out]
  go_enter Tryd.func35, Tryd.ntmps35
  go_wp2
  go_loop [3, 4, 5] (fun u x v => ∃ (i : Nat) (h tp : Int), u = .int .i64 h ∧ x = .int .i64 tp ∧ v = .int .i64 (i : Int) ∧ i ≤ l.length ∧ -(i : Int) ≤ h ∧ h ≤ (i : Int) ∧ 0 ≤ tp ∧ tp ≤ (i : Int) ∧ mostR (l.drop i) h tp = E) (fun _ _ v => l.length - (intOf v).toNat)
  case atStart => exact ⟨0, 0, 0, rfl, rfl, rfl, Nat.zero_le _, by omega, by omega, by omega, by omega, HE.out.symm⟩
  case round =>
    obtain ⟨i, h, tp, rfl, rfl, rfl, hi, hh1, hh2, ht1, ht2, hE⟩ := hrel
    by_cases hlt : i < l.length
    · obtain ⟨g, o, rfl, h0, h1, h2⟩ := hT.out i hlt
      rw [drop_at l i hlt, mostR_cons] at hE
      generalize l[i].kind = k at *
      by_cases k1 : k = 1
      · subst k1
        rw [if_pos rfl, if_neg (show ¬ (1 : Int) = 2 by omega)] at hE
        by_cases hz : tp < h + 1
        · rw [if_pos hz] at hE
          have d1 : decide (tp < h + 1) = true := by simpa using hz
          have HE2 := Lib.hid hE
          clear hE
          go_wp2
          go_round
          case rel => exact ⟨i + 1, h + 1, h + 1, by go_num, by go_num, by go_num, by omega, by omega, by omega, by omega, by omega, HE2.out⟩
          case measure => simp [intOf]; omega
        · rw [if_neg hz] at hE
          have d1 : decide (tp < h + 1) = false := by simpa using hz
          have HE2 := Lib.hid hE
          clear hE
          go_wp2
          go_round
          case rel => exact ⟨i + 1, h + 1, tp, by go_num, by go_num, by go_num, by omega, by omega, by omega, by omega, by omega, HE2.out⟩
          case measure => simp [intOf]; omega
      · have e1 : (k == 1) = false := by simpa using k1
        rw [if_neg k1] at hE
        by_cases k2 : k = 2
        · subst k2
          rw [if_pos rfl] at hE
          by_cases hz : tp < h
          · rw [if_pos hz] at hE
            have d1 : decide (tp < h) = true := by simpa using hz
            have HE2 := Lib.hid hE
            clear hE
            go_wp2
            go_round
            case rel => exact ⟨i + 1, h - 1, h, by go_num, by go_num, by go_num, by omega, by omega, by omega, by omega, by omega, HE2.out⟩
            case measure => simp [intOf]; omega
          · rw [if_neg hz] at hE
            have d1 : decide (tp < h) = false := by simpa using hz
            have HE2 := Lib.hid hE
            clear hE
            go_wp2
            go_round
            case rel => exact ⟨i + 1, h - 1, tp, by go_num, by go_num, by go_num, by omega, by omega, by omega, by omega, by omega, HE2.out⟩
            case measure => simp [intOf]; omega
        · have e2 : (k == 2) = false := by simpa using k2
          rw [if_neg k2] at hE
          by_cases hz : tp < h
          · rw [if_pos hz] at hE
            have d1 : decide (tp < h) = true := by simpa using hz
            have HE2 := Lib.hid hE
            clear hE
            go_wp2
            go_round
            case rel => exact ⟨i + 1, h, h, by go_num, by go_num, by go_num, by omega, by omega, by omega, by omega, by omega, HE2.out⟩
            case measure => simp [intOf]; omega
          · rw [if_neg hz] at hE
            have d1 : decide (tp < h) = false := by simpa using hz
            have HE2 := Lib.hid hE
            clear hE
            go_wp2
            go_round
            case rel => exact ⟨i + 1, h, tp, by go_num, by go_num, by go_num, by omega, by omega, by omega, by omega, by omega, HE2.out⟩
            case measure => simp [intOf]; omega
    · have hil : i = l.length := by omega
      rw [List.drop_eq_nil_of_le (by omega)] at hE
      have HE2 : Hid (E = tp) := by show _ = _; rw [← hE]; rfl
      clear hE hil
      go_wp2
      go_ret
      rw [HE2.out]
      exact ⟨rfl, rfl⟩
end Go.Proofs.YtppbijbgnhmdaaaDoor


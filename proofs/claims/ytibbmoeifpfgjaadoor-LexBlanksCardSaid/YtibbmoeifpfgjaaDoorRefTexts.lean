/- What the reference's number and Plain do. -/
import Derived.Test.YtibbmoeifpfgjaaDoorRefWord
namespace Go.Proofs.YtibbmoeifpfgjaaDoor
open Go.RowKit

def hexP (x : Int) : Bool := decide (48 ≤ x ∧ x ≤ 57) || (decide (97 ≤ x ∧ x ≤ 102) || decide (65 ≤ x ∧ x ≤ 70))
def binP (x : Int) : Bool := x == 48 || x == 49
theorem inSet_hex : ∀ c : UInt8, inSet hexSet c = hexP (bi c) := by
  have key : ∀ i : Fin 256, inSet hexSet (UInt8.ofNat i.val) = hexP ((i.val : Nat) : Int) := by decide +kernel
  intro c
  have := key ⟨c.toNat, c.toNat_lt⟩
  simpa [bi] using this
theorem inSet_bin : ∀ c : UInt8, inSet binSet c = binP (bi c) := by
  have key : ∀ i : Fin 256, inSet binSet (UInt8.ofNat i.val) = binP ((i.val : Nat) : Int) := by decide +kernel
  intro c
  have := key ⟨c.toNat, c.toNat_lt⟩
  simpa [bi] using this

/-- One round of number's test. -/
def numT (x y : Int) : Bool := (x == 120 && hexP y) || (x == 98 && binP y)

theorem numT_def (x y : Int) : numT x y = ((x == 120 && (decide (48 ≤ y ∧ y ≤ 57) || (decide (97 ≤ y ∧ y ≤ 102) || decide (65 ≤ y ∧ y ≤ 70)))) || (x == 98 && (y == 48 || y == 49))) := rfl

theorem basedB_all (s : ByteArray) (h : 1 < s.size) (ha : ∀ j, 1 ≤ j → j < s.size → numT (bi (bat s 0)) (bi (bat s j)) = true) : basedB (bl s) = true := by
  have hall : ∀ P : UInt8 → Bool, (∀ j, 1 ≤ j → j < s.size → P (bat s j) = true) → ((bl s).drop 1).all P = true := fun P hP => drop_yes s P 1 hP
  have h1 := ha 1 (Nat.le_refl _) h
  unfold basedB
  rw [bl_length, decide_eq_true h]
  show (true && ((bi (bat s 0) == 120 && _) || (bi (bat s 0) == 98 && _))) = true
  unfold numT at h1 ha
  cases hx : (bi (bat s 0) == 120) with
  | true =>
    have e : bi (bat s 0) = 120 := by simpa using hx
    rw [hall (inSet hexSet) (fun j h1 h2 => by
      have := ha j h1 h2
      rw [e] at this
      rw [inSet_hex]
      simpa using this)]
    simp
  | false =>
    cases hy : (bi (bat s 0) == 98) with
    | true =>
      rw [hall (inSet binSet) (fun j h1 h2 => by
        have := ha j h1 h2
        rw [hx, hy] at this
        rw [inSet_bin]
        simpa using this)]
      simp
    | false => rw [hx, hy] at h1; simp at h1
theorem basedB_not (s : ByteArray) (j : Nat) (h1 : 1 ≤ j) (h2 : j < s.size) (hn : numT (bi (bat s 0)) (bi (bat s j)) = false) : basedB (bl s) = false := by
  unfold basedB
  have e : bi ((bl s).getD 0 0) = bi (bat s 0) := rfl
  rw [e]
  unfold numT at hn
  rw [Bool.or_eq_false_iff] at hn
  cases hx : (bi (bat s 0) == 120) with
  | true =>
    have e : bi (bat s 0) = 120 := by simpa using hx
    have hy : (bi (bat s 0) == 98) = false := by rw [e]; rfl
    rw [hx, hy] at hn
    rw [hy, drop_no s (inSet hexSet) 1 j h1 h2 (by rw [inSet_hex]; simpa using hn.1)]
    simp
  | false =>
    cases hy : (bi (bat s 0) == 98) with
    | true =>
      rw [hx, hy] at hn
      rw [drop_no s (inSet binSet) 1 j h1 h2 (by rw [inSet_bin]; simpa using hn.2)]
      simp
    | false => simp

set_option maxHeartbeats 2000000 in
theorem rnumber_calls (s : ByteArray) (w : World) (hs : s.size ≤ 140737488351232) :
    Calls Tryd.prog 29 #[.string s] w fun e w' => e = .returned (.bool (basedB (bl s))) ∧ w = w' := by
  by_cases h1 : s.size < 2
  · have HN : Hid (basedB (bl s) = false) := by
      show _ = _
      unfold basedB; rw [bl_length, decide_eq_false (by omega)]; rfl
    go_enter Tryd.func29, Tryd.ntmps29
    go_wp2
    go_ret
    rw [HN.out]
    exact ⟨rfl, rfl⟩
  · have hd : decide ((s.size : Int) < 2) = false := decide_eq_false (by omega)
    have h2 : 1 < s.size := by omega
    go_enter Tryd.func29, Tryd.ntmps29
    go_wp2
    go_loop [3] (fun v => ∃ i : Nat, v = .int .i64 (i : Int) ∧ 1 ≤ i ∧ i ≤ s.size ∧ ∀ j, 1 ≤ j → j < i → numT (bi (bat s 0)) (bi (bat s j)) = true) (fun v => s.size - (intOf v).toNat)
    case atStart => exact ⟨1, rfl, Nat.le_refl _, by omega, fun j h1 h2 => by omega⟩
    case round =>
      obtain ⟨i, rfl, hi1, hi, hall⟩ := hrel
      have HA := Lib.hid hall
      clear hall
      by_cases hlt : i < s.size
      · have hb := bat_at s i
        have hb0 := bat_at s 0
        have hcall := digit_calls (bat s i) w
        have hdi := isDigit_iff (bat s i)
        have HT : Hid (numT (bi (bat s 0)) (bi (bat s i)) = true → ∀ j, 1 ≤ j → j < i + 1 → numT (bi (bat s 0)) (bi (bat s j)) = true) := fun hT j h1 h2 => by
          rcases Nat.lt_or_ge j i with h | h
          · exact HA.out j h1 h
          · obtain rfl : j = i := by omega
            exact hT
        have HF : Hid (numT (bi (bat s 0)) (bi (bat s i)) = false → basedB (bl s) = false) := fun hF => basedB_not s i hi1 hlt hF
        clear HA
        have hr := bi_range (bat s i)
        generalize isDigit (bat s i) = d at hcall hdi
        generalize bi (bat s i) = y at hb hcall hdi hr HT HF
        generalize bi (bat s 0) = x at hb0 HT HF
        have HD := Lib.hid hdi
        clear hdi
        rcases (show y < 48 ∨ (48 ≤ y ∧ y ≤ 48) ∨ (49 ≤ y ∧ y ≤ 49) ∨ (50 ≤ y ∧ y ≤ 57) ∨ (57 < y ∧ y < 65) ∨ (65 ≤ y ∧ y ≤ 70) ∨ (70 < y ∧ y < 97) ∨ (97 ≤ y ∧ y ≤ 102) ∨ 102 < y from by omega) with g | ⟨g, g'⟩ | ⟨g, g'⟩ | ⟨g, g'⟩ | ⟨g, g'⟩ | ⟨g, g'⟩ | ⟨g, g'⟩ | ⟨g, g'⟩ | g
        all_goals
          first | have v1 : decide (48 ≤ y ∧ y ≤ 57) = true := decide_eq_true (by omega) | have v1 : decide (48 ≤ y ∧ y ≤ 57) = false := decide_eq_false (by omega)
          first | have v2 : decide (97 ≤ y ∧ y ≤ 102) = true := decide_eq_true (by omega) | have v2 : decide (97 ≤ y ∧ y ≤ 102) = false := decide_eq_false (by omega)
          first | have v3 : decide (65 ≤ y ∧ y ≤ 70) = true := decide_eq_true (by omega) | have v3 : decide (65 ≤ y ∧ y ≤ 70) = false := decide_eq_false (by omega)
          first | have v4 : decide (y ≤ 102) = true := decide_eq_true (by omega) | have v4 : decide (y ≤ 102) = false := decide_eq_false (by omega)
          first | have v5 : decide (y ≤ 70) = true := decide_eq_true (by omega) | have v5 : decide (y ≤ 70) = false := decide_eq_false (by omega)
          first | have v6 : (y == 48) = true := by (rw [beq_iff_eq]; omega) | have v6 : (y == 48) = false := by (rw [beq_eq_false_iff_ne]; omega)
          first | have v7 : (y == 49) = true := by (rw [beq_iff_eq]; omega) | have v7 : (y == 49) = false := by (rw [beq_eq_false_iff_ne]; omega)
          have hd2 := HD.out
          rw [v1] at hd2
          subst hd2
          cases hx : (x == 120) <;> cases hz : (x == 98)
        all_goals
          have hT := numT_def x y
          rw [hx, hz, v1, v2, v3, v6, v7] at hT
          simp only [Bool.and_true, Bool.true_and, Bool.and_false, Bool.false_and, Bool.or_true, Bool.true_or, Bool.or_false, Bool.false_or] at hT
          first
            | (have HT' := Lib.hid (HT.out hT)
               clear HT HF hT HD v1 v2 v3
               go_wp2_with (go_at_call 20; refine hcall.mono ?_; rintro e w' ⟨rfl, rfl⟩)
               go_round
               case rel => exact ⟨i + 1, by go_num, by omega, hlt, HT'.out⟩
               case measure => simp [intOf]; omega)
            | (have HF' := Lib.hid (HF.out hT)
               clear HT HF hT HD v1 v2 v3
               go_wp2_with (go_at_call 20; refine hcall.mono ?_; rintro e w' ⟨rfl, rfl⟩)
               go_ret
               rw [HF'.out]
               exact ⟨rfl, rfl⟩)
      · obtain rfl : i = s.size := by omega
        have HN := Lib.hid (basedB_all s h2 HA.out)
        clear HA
        go_wp2
        go_ret
        rw [HN.out]
        exact ⟨rfl, rfl⟩
end Go.Proofs.YtibbmoeifpfgjaaDoor

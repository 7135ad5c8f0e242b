/- What the reference's small functions on bytes and texts do: they tell what the plain functions tell. -/
import Derived.Test.YtibbmoeifpfgjaaDoorLexSpec
namespace Go.Proofs.YtibbmoeifpfgjaaDoor
open Go.RowKit

theorem isDigit_iff : ∀ c : UInt8, isDigit c = decide (48 ≤ bi c ∧ bi c ≤ 57) := by
  have key : ∀ i : Fin 256, (bits BinOp.and IntKind.u8 ((cl i.val : Nat) : Int) 2 != 0) = decide (48 ≤ ((i.val : Nat) : Int) ∧ ((i.val : Nat) : Int) ≤ 57) := by decide +kernel
  intro c
  exact key ⟨c.toNat, c.toNat_lt⟩
theorem isBlank_iff : ∀ c : UInt8, isBlank c = decide (bi c = 9 ∨ bi c = 10 ∨ bi c = 13 ∨ bi c = 32) := by
  have key : ∀ i : Fin 256, (bits BinOp.and IntKind.u8 ((cl i.val : Nat) : Int) 4 != 0) = decide (((i.val : Nat) : Int) = 9 ∨ ((i.val : Nat) : Int) = 10 ∨ ((i.val : Nat) : Int) = 13 ∨ ((i.val : Nat) : Int) = 32) := by decide +kernel
  intro c
  exact key ⟨c.toNat, c.toNat_lt⟩
theorem isInner_iff : ∀ c : UInt8, isInner c = decide ((bi c = 9 ∨ bi c = 10 ∨ bi c = 13 ∨ bi c = 32) ∨ (32 < bi c ∧ bi c ≠ 127)) := by
  have key : ∀ i : Fin 256, (bits BinOp.and IntKind.u8 ((cl i.val : Nat) : Int) 8 != 0) = decide ((((i.val : Nat) : Int) = 9 ∨ ((i.val : Nat) : Int) = 10 ∨ ((i.val : Nat) : Int) = 13 ∨ ((i.val : Nat) : Int) = 32) ∨ (32 < ((i.val : Nat) : Int) ∧ ((i.val : Nat) : Int) ≠ 127)) := by decide +kernel
  intro c
  exact key ⟨c.toNat, c.toNat_lt⟩
def exStr : ByteArray := ⟨#[126, 33, 64, 36, 37, 94, 38, 42, 95, 45, 43, 61, 60, 62, 46, 63, 47]⟩
theorem isLetter_iff : ∀ c : UInt8, isLetter c = ((List.range 17).any (fun j => bi (bat exStr j) == bi c) || decide ((97 ≤ bi c ∧ bi c ≤ 122) ∨ (65 ≤ bi c ∧ bi c ≤ 90) ∨ (48 ≤ bi c ∧ bi c ≤ 57))) := by
  have key : ∀ i : Fin 256, (bits BinOp.and IntKind.u8 ((cl i.val : Nat) : Int) 1 != 0) = ((List.range 17).any (fun j => bi (bat exStr j) == ((i.val : Nat) : Int)) || decide ((97 ≤ ((i.val : Nat) : Int) ∧ ((i.val : Nat) : Int) ≤ 122) ∨ (65 ≤ ((i.val : Nat) : Int) ∧ ((i.val : Nat) : Int) ≤ 90) ∨ (48 ≤ ((i.val : Nat) : Int) ∧ ((i.val : Nat) : Int) ≤ 57))) := by decide +kernel
  intro c
  exact key ⟨c.toNat, c.toNat_lt⟩

theorem digit_calls (c : UInt8) (w : World) : Calls Tryd.prog 20 #[.int .u8 (bi c)] w fun e w' => e = .returned (.bool (isDigit c)) ∧ w = w' := by
  have hr := bi_range c
  have HD := Lib.hid (isDigit_iff c)
  generalize bi c = x at *
  rcases (show x < 48 ∨ (48 ≤ x ∧ x ≤ 57) ∨ 57 < x from by omega) with h | ⟨h, h'⟩ | h
  all_goals
    go_enter Tryd.func20, Tryd.ntmps20
    first | have f57 : decide (x ≤ 57) = true := decide_eq_true (by omega) | have f57 : decide (x ≤ 57) = false := decide_eq_false (by omega)
    go_wp2
    go_ret
    rw [HD.out]
    exact ⟨by simp; omega, rfl⟩

theorem blank_calls (c : UInt8) (w : World) : Calls Tryd.prog 17 #[.int .u8 (bi c)] w fun e w' => e = .returned (.bool (isBlank c)) ∧ w = w' := by
  have HD := Lib.hid (isBlank_iff c)
  generalize bi c = x at *
  cases h1 : (x == 9)
  all_goals cases h2 : (x == 10)
  all_goals cases h3 : (x == 13)
  all_goals
    go_enter Tryd.func17, Tryd.ntmps17
    go_wp2
    go_ret
    rw [HD.out]
    simp only [beq_eq_false_iff_ne, beq_iff_eq] at h1 h2 h3
    exact ⟨by simp [h1, h2, h3] <;> rfl, rfl⟩

theorem inner_calls (c : UInt8) (w : World) : Calls Tryd.prog 37 #[.int .u8 (bi c)] w fun e w' => e = .returned (.bool (isInner c)) ∧ w = w' := by
  have hr := bi_range c
  have hb := isBlank_iff c
  have HD := Lib.hid (isInner_iff c)
  have hcall := blank_calls c w
  cases hc : isBlank c with
  | true =>
    rw [hc] at hcall hb
    have HB := Lib.hid hb
    clear hb hc
    generalize bi c = x at *
    go_enter Tryd.func37, Tryd.ntmps37
    go_wp2_with fail
    refine hcall.mono ?_
    rintro e w' ⟨rfl, rfl⟩
    go_wp2
    go_ret
    rw [HD.out, decide_eq_true (.inl (of_decide_eq_true HB.out.symm))]
    exact ⟨rfl, rfl⟩
  | false =>
    rw [hc] at hcall hb
    have HB := Lib.hid hb
    clear hb hc
    generalize bi c = x at *
    rcases (show x ≤ 32 ∨ (32 < x ∧ x < 127) ∨ (127 ≤ x ∧ x ≤ 127) ∨ 127 < x from by omega) with h | ⟨h, h'⟩ | ⟨h, h'⟩ | h
    all_goals
      first | have f127 : decide (127 < x) = true := decide_eq_true (by omega) | have f127 : decide (127 < x) = false := decide_eq_false (by omega)
      first | have f128 : decide (x < 127) = true := decide_eq_true (by omega) | have f128 : decide (x < 127) = false := decide_eq_false (by omega)
      go_enter Tryd.func37, Tryd.ntmps37
      go_wp2_with fail
      refine hcall.mono ?_
      rintro e w' ⟨rfl, rfl⟩
      go_wp2
      go_ret
      have hn := of_decide_eq_false HB.out.symm
      rw [HD.out]
      refine ⟨?_, rfl⟩
      first
        | (have hf : decide ((x = 9 ∨ x = 10 ∨ x = 13 ∨ x = 32) ∨ (32 < x ∧ x ≠ 127)) = false := decide_eq_false (by omega)
           rw [hf]; rfl)
        | (have hf : decide ((x = 9 ∨ x = 10 ∨ x = 13 ∨ x = 32) ∨ (32 < x ∧ x ≠ 127)) = true := decide_eq_true (by omega)
           rw [hf]; rfl)

set_option maxHeartbeats 1000000 in
theorem letter_calls (c : UInt8) (w : World) : Calls Tryd.prog 32 #[.int .u8 (bi c)] w fun e w' => e = .returned (.bool (isLetter c)) ∧ w = w' := by
  have hr := bi_range c
  have HD := Lib.hid (isLetter_iff c)
  have hdc := digit_calls c w
  have hdi := isDigit_iff c
  have HI := Lib.hid hdi
  clear hdi
  go_enter Tryd.func32, Tryd.ntmps32
  go_wp2
  go_loop [4] (fun v => ∃ i : Nat, v = .int .i64 (i : Int) ∧ i ≤ 17 ∧ ∀ j, j < i → ¬ bi (bat exStr j) = bi c) (fun v => 17 - (intOf v).toNat)
  case atStart => exact ⟨0, rfl, Nat.zero_le _, fun j h => absurd h (Nat.not_lt_zero _)⟩
  case round =>
    obtain ⟨i, rfl, hi, hall⟩ := hrel
    have HA := Lib.hid hall
    clear hall
    by_cases hlt : i < 17
    · have hb : ∀ h : i < (⟨#[126, 33, 64, 36, 37, 94, 38, 42, 95, 45, 43, 61, 60, 62, 46, 63, 47]⟩ : ByteArray).size, ((((⟨#[126, 33, 64, 36, 37, 94, 38, 42, 95, 45, 43, 61, 60, 62, 46, 63, 47]⟩ : ByteArray)[i]'h).toNat : Nat) : Int) = bi (bat exStr i) := bat_at exStr i
      have hsz : (⟨#[126, 33, 64, 36, 37, 94, 38, 42, 95, 45, 43, 61, 60, 62, 46, 63, 47]⟩ : ByteArray).size = 17 := rfl
      cases he : (bi (bat exStr i) == bi c) with
      | true =>
        have HL : Hid (isLetter c = true) := by
          have : (List.range 17).any (fun j => bi (bat exStr j) == bi c) = true := List.any_eq_true.2 ⟨i, List.mem_range.2 hlt, he⟩
          have h := HD.out
          rw [this] at h
          exact h
        generalize bi (bat exStr i) = y at hb he
        go_wp2
        go_ret
        rw [HL.out]
        exact ⟨rfl, rfl⟩
      | false =>
        have HN : Hid (∀ j, j < i + 1 → ¬ bi (bat exStr j) = bi c) := fun j hj => by
          rcases Nat.lt_or_ge j i with h | h
          · exact HA.out j h
          · obtain rfl : j = i := by omega
            simpa using he
        generalize bi (bat exStr i) = y at hb he
        go_wp2
        go_round
        case rel => exact ⟨i + 1, by go_num, hlt, HN.out⟩
        case measure => simp [intOf]; omega
    · obtain rfl : i = 17 := by omega
      have HL : Hid (isLetter c = decide ((97 ≤ bi c ∧ bi c ≤ 122) ∨ (65 ≤ bi c ∧ bi c ≤ 90) ∨ (48 ≤ bi c ∧ bi c ≤ 57))) := by
        have : (List.range 17).any (fun j => bi (bat exStr j) == bi c) = false := by
          rw [List.any_eq_false]
          intro j hj
          have := HA.out j (List.mem_range.1 hj)
          simpa using this
        have h := HD.out
        rw [this, Bool.false_or] at h
        exact h
      clear HD HA
      generalize isDigit c = d at hdc HI
      generalize bi c = x at *
      rcases (show x < 48 ∨ (48 ≤ x ∧ x ≤ 57) ∨ (57 < x ∧ x < 65) ∨ (65 ≤ x ∧ x ≤ 90) ∨ (90 < x ∧ x < 97) ∨ (97 ≤ x ∧ x ≤ 122) ∨ 122 < x from by omega) with h | ⟨h, h'⟩ | ⟨h, h'⟩ | ⟨h, h'⟩ | ⟨h, h'⟩ | ⟨h, h'⟩ | h
      all_goals
        first | have f90 : decide (x ≤ 90) = true := decide_eq_true (by omega) | have f90 : decide (x ≤ 90) = false := decide_eq_false (by omega)
        first | have f122 : decide (x ≤ 122) = true := decide_eq_true (by omega) | have f122 : decide (x ≤ 122) = false := decide_eq_false (by omega)
        go_wp2_with (go_at_call 20; refine hdc.mono ?_; rintro e w' ⟨rfl, rfl⟩)
        go_ret
        have h1 := HL.out
        have h2 := HI.out
        refine ⟨?_, rfl⟩
        rw [h1]
        first
          | (have hf : decide ((97 ≤ x ∧ x ≤ 122) ∨ (65 ≤ x ∧ x ≤ 90) ∨ (48 ≤ x ∧ x ≤ 57)) = false := decide_eq_false (by omega)
             have hg : decide (48 ≤ x ∧ x ≤ 57) = false := decide_eq_false (by omega)
             rw [hf]
             try rw [hg] at h2
             try subst h2
             rfl)
          | (have hf : decide ((97 ≤ x ∧ x ≤ 122) ∨ (65 ≤ x ∧ x ≤ 90) ∨ (48 ≤ x ∧ x ≤ 57)) = true := decide_eq_true (by omega)
             rw [hf]; rfl)
          | (have hf : decide ((97 ≤ x ∧ x ≤ 122) ∨ (65 ≤ x ∧ x ≤ 90) ∨ (48 ≤ x ∧ x ≤ 57)) = true := decide_eq_true (by omega)
             have hg : decide (48 ≤ x ∧ x ≤ 57) = true := decide_eq_true (by omega)
             rw [hg] at h2
             subst h2
             rw [hf]; rfl)
end Go.Proofs.YtibbmoeifpfgjaaDoor

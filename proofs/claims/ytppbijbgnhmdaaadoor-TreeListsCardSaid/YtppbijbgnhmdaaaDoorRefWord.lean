/- What the reference's word and its functions on texts do. -/
import Derived.Test.YtppbijbgnhmdaaaDoorRefSmall
import Derived.Laws.IdiomStrings
namespace Go.Proofs.YtppbijbgnhmdaaaDoor
open Go.RowKit

theorem letters_stop (bs : List UInt8) (p i : Nat) (h : p + i ≤ bs.length) (h1 : ∀ j, ∀ h : j < i, isLetter (bs[p + j]'(by omega)) = true) (h2 : ∀ h : p + i < bs.length, isLetter bs[p + i] = false) : (bs.drop p).takeWhile isLetter = (bs.drop p).take i := by
  refine takeWhile_stop _ _ _ (by simp; omega) (fun j hj => ?_) (fun hi => ?_)
  · have := h1 j hj
    simpa using this
  · simp at hi
    have := h2 (by omega)
    simpa using this

set_option maxHeartbeats 1000000 in
theorem rword_calls (A : Option Addr) (cap p : Nat) (bs : List UInt8) (w : World) (hb : Bys w A bs) (hp : p ≤ bs.length) (hl : bs.length ≤ 140737488351232) :
    Calls Tryd.prog 48 #[.slice A bs.length cap, .int .i64 ((p : Nat) : Int)] w fun e w' => e = .returned (.int .i64 ((((bs.drop p).takeWhile isLetter).length : Nat) : Int)) ∧ w = w' := by
  go_enter Tryd.func48, Tryd.ntmps48
  go_wp2
  go_loop [5] (fun v => ∃ i : Nat, v = .int .i64 (i : Int) ∧ ∃ h : p + i ≤ bs.length, ∀ j, ∀ hj : j < i, isLetter (bs[p + j]'(by omega)) = true) (fun v => bs.length - p - (intOf v).toNat)
  case atStart => exact ⟨0, rfl, hp, fun j h => absurd h (Nat.not_lt_zero _)⟩
  case round =>
    obtain ⟨i, rfl, hi, hall⟩ := hrel
    have HA := Lib.hid hall
    clear hall
    by_cases hlt : p + i < bs.length
    · obtain ⟨ad, rfl, hc⟩ := hb.out (p + i) hlt
      have hrb := bi_range bs[p + i]
      have hcall := letter_calls bs[p + i] w
      cases hL : isLetter bs[p + i] with
      | true =>
        rw [hL] at hcall
        have HN : Hid (∃ h : p + (i + 1) ≤ bs.length, ∀ j, ∀ hj : j < i + 1, isLetter (bs[p + j]'(by omega)) = true) := ⟨hlt, fun j hj => by
          rcases Nat.lt_or_ge j i with h | h
          · exact HA.out j h
          · have : j = i := by omega
            subst this; exact hL⟩
        clear hL
        generalize bs[p + i] = c at hc hrb hcall
        go_wp2_with fail
        refine hcall.mono ?_
        rintro e w' ⟨rfl, rfl⟩
        go_wp2
        go_round
        case rel => exact ⟨i + 1, by go_num, HN.out⟩
        case measure => simp [intOf]; omega
      | false =>
        rw [hL] at hcall
        have HN := Lib.hid (letters_stop bs p i hi HA.out (fun _ => hL))
        clear hL
        generalize bs[p + i] = c at hc hrb hcall
        go_wp2_with fail
        refine hcall.mono ?_
        rintro e w' ⟨rfl, rfl⟩
        go_wp2
        go_ret
        rw [HN.out]
        refine ⟨?_, rfl⟩
        have : ((bs.drop p).take i).length = i := by simp; omega
        rw [this]; rfl
    · have HN := Lib.hid (letters_stop bs p i hi HA.out (fun h => absurd h hlt))
      go_wp2
      go_ret
      rw [HN.out]
      refine ⟨?_, rfl⟩
      have : ((bs.drop p).take i).length = i := by simp; omega
      rw [this]; rfl

theorem numeralB_long (l : List UInt8) (h : 1 < l.length) (ha : l.all (inCl 2) = true) : numeralB l = (bi (l.getD 0 0) != 48) := by
  unfold numeralB
  rw [ha]
  have h1 : l.isEmpty = false := by
    cases l with
    | nil => simp at h
    | cons a r => rfl
  have h2 : (l == [48]) = false := by
    rw [beq_eq_false_iff_ne]
    intro hx
    rw [hx] at h; simp at h
  rw [h1, h2]; simp
theorem digit_cl (c : UInt8) : isDigit c = inCl 2 c := rfl

set_option maxHeartbeats 1000000 in
theorem rnumeral_calls (s : ByteArray) (w : World) (hs : s.size ≤ 140737488351232) :
    Calls Tryd.prog 51 #[.string s] w fun e w' => e = .returned (.bool (numeralB (bl s))) ∧ w = w' := by
  go_enter Tryd.func51, Tryd.ntmps51
  go_wp2
  go_loop [3] (fun v => ∃ i : Nat, v = .int .i64 (i : Int) ∧ i ≤ s.size ∧ ∀ j, j < i → inCl 2 (bat s j) = true) (fun v => s.size - (intOf v).toNat)
  case atStart => exact ⟨0, rfl, Nat.zero_le _, fun j h => absurd h (Nat.not_lt_zero _)⟩
  case round =>
    obtain ⟨i, rfl, hi, hall⟩ := hrel
    have HA := Lib.hid hall
    clear hall
    by_cases hlt : i < s.size
    · have hb := bat_at s i
      have hcall := digit_calls (bat s i) w
      rw [digit_cl] at hcall
      cases hL : inCl 2 (bat s i) with
      | true =>
        rw [hL] at hcall
        have HN := Lib.hid (all_next s (inCl 2) i HA.out hL)
        clear hL
        generalize bat s i = x at hb hcall
        go_wp2_with fail
        refine hcall.mono ?_
        rintro e w' ⟨rfl, rfl⟩
        go_wp2
        go_round
        case rel => exact ⟨i + 1, by go_num, hlt, HN.out⟩
        case measure => simp [intOf]; omega
      | false =>
        rw [hL] at hcall
        have HN := Lib.hid (all_no s (inCl 2) i hlt hL)
        clear hL
        generalize bat s i = x at hb hcall
        go_wp2_with fail
        refine hcall.mono ?_
        rintro e w' ⟨rfl, rfl⟩
        go_wp2
        go_ret
        refine ⟨?_, rfl⟩
        unfold numeralB
        rw [HN.out]; simp
    · obtain rfl : i = s.size := by omega
      have HN := Lib.hid (all_yes s (inCl 2) HA.out)
      clear HA
      rcases (show s.size = 0 ∨ s.size = 1 ∨ 1 < s.size from by omega) with h | h | h
      · have HS := Lib.hid h
        have e1 : ((s.size : Int) == 1) = false := by rw [beq_eq_false_iff_ne]; omega
        have e2 : decide (1 < (s.size : Int)) = false := decide_eq_false (by omega)
        clear h hlt
        go_wp2
        go_ret
        refine ⟨?_, rfl⟩
        have : bl s = [] := List.eq_nil_of_length_eq_zero HS.out
        rw [this]; rfl
      · have HS := Lib.hid h
        have e1 : ((s.size : Int) == 1) = true := by rw [beq_iff_eq]; omega
        clear h
        go_wp2
        go_ret
        refine ⟨?_, rfl⟩
        obtain ⟨x, hx⟩ := List.length_eq_one_iff.1 (show (bl s).length = 1 from HS.out)
        have h2 := HN.out
        unfold numeralB
        rw [hx] at h2 ⊢
        rw [h2]
        by_cases h48 : x = 48
        · subst h48; rfl
        · have : (bi x != 48) = true := by
            rw [bne_iff_ne]
            intro h
            apply h48
            have h3 : x.toNat = 48 := by unfold bi at h; omega
            exact UInt8.toNat_inj.1 h3
          simp [this]
      · have e1 : ((s.size : Int) == 1) = false := by rw [beq_eq_false_iff_ne]; omega
        have e2 : decide (1 < (s.size : Int)) = true := decide_eq_true (by omega)
        have hb := bat_at s 0
        have HV : Hid (numeralB (bl s) = (bi (bat s 0) != 48)) := numeralB_long (bl s) h HN.out
        generalize bat s 0 = x at hb HV
        go_wp2
        go_ret
        rw [HV.out]
        exact ⟨rfl, rfl⟩

/-- A numeral, a point, digits. -/
def decB (t : List UInt8) : Bool := decide (dotAt t + 1 < t.length) && numeralB (t.take (dotAt t)) && (t.drop (dotAt t + 1)).all (inCl 2)
theorem decB_iff (t : List UInt8) : decB t = true ↔ dotAt t < t.length ∧ numeralB (t.take (dotAt t)) = true ∧ (!(t.drop (dotAt t + 1)).isEmpty && (t.drop (dotAt t + 1)).all (inCl 2)) = true := by
  unfold decB
  have h1 : ((t.drop (dotAt t + 1)).isEmpty = false) ↔ dotAt t + 1 < t.length := by
    rw [← Bool.not_eq_true, List.isEmpty_iff, List.drop_eq_nil_iff]; omega
  simp only [Bool.and_eq_true, decide_eq_true_eq, Bool.not_eq_true']
  rw [h1]
  constructor
  · rintro ⟨⟨a, b⟩, c⟩; exact ⟨by omega, b, a, c⟩
  · rintro ⟨a, b, c, d⟩; exact ⟨⟨c, b⟩, d⟩

theorem decB_at (t : List UInt8) (i : Nat) (h : dotAt t = i) (h1 : i + 1 < t.length) : decB t = (numeralB (t.take i) && (t.drop (i + 1)).all (inCl 2)) := by
  unfold decB
  rw [h, decide_eq_true h1, Bool.true_and]

theorem decB_no (t : List UInt8) (i : Nat) (h : dotAt t = i) (h1 : ¬ i + 1 < t.length) : decB t = false := by
  unfold decB
  rw [h, decide_eq_false h1]; rfl
theorem drop_no (s : ByteArray) (f : UInt8 → Bool) (i j : Nat) (h1 : i ≤ j) (h2 : j < s.size) (h : f (bat s j) = false) : ((bl s).drop i).all f = false := by
  rw [List.all_eq_false]
  refine ⟨bat s j, ?_, by simp [h]⟩
  unfold bat
  rw [List.getD_eq_getElem?_getD, List.getElem?_eq_getElem (by rw [bl_length]; exact h2)]
  have : (bl s)[j]'(by rw [bl_length]; exact h2) = ((bl s).drop i)[j - i]'(by rw [List.length_drop, bl_length]; omega) := by
    rw [List.getElem_drop]
    congr 1; omega
  rw [Option.getD_some, this]
  exact List.getElem_mem _
theorem drop_yes (s : ByteArray) (f : UInt8 → Bool) (i : Nat) (h : ∀ k, i ≤ k → k < s.size → f (bat s k) = true) : ((bl s).drop i).all f = true := by
  rw [List.all_eq_true]
  intro x hx
  obtain ⟨j, hj, rfl⟩ := List.getElem_of_mem hx
  rw [List.length_drop, bl_length] at hj
  have := h (i + j) (by omega) (by omega)
  unfold bat at this
  rw [List.getD_eq_getElem?_getD, List.getElem?_eq_getElem (by rw [bl_length]; omega)] at this
  rw [List.getElem_drop]
  exact this

theorem dot_stop (s : ByteArray) (i : Nat) (h : i ≤ s.size) (h1 : ∀ j, j < i → (bi (bat s j) != 46) = true) (h2 : i < s.size → (bi (bat s i) != 46) = false) : dotAt (bl s) = i := by
  have hb : ∀ x : UInt8, (x != 46) = (bi x != 46) := by
    intro x
    have key : ∀ i : Fin 256, (decide (i.val = 46)) = (decide (((i.val : Nat) : Int) = 46)) := by decide +kernel
    rw [Bool.eq_iff_iff, bne_iff_ne, bne_iff_ne]
    have k2 := key ⟨x.toNat, x.toNat_lt⟩
    rw [decide_eq_decide] at k2
    have k3 : x = 46 ↔ x.toNat = 46 := ⟨fun h => by subst h; rfl, fun h => UInt8.toNat_inj.1 h⟩
    rw [Ne, Ne, k3, k2]; rfl
  unfold dotAt
  have : (bl s).takeWhile (fun b => b != 46) = (bl s).take i := by
    refine takeWhile_stop _ _ _ (by rw [bl_length]; exact h) (fun j hj => ?_) (fun hi => ?_)
    · have := h1 j hj
      rw [← hb] at this
      unfold bat at this
      rw [List.getD_eq_getElem?_getD, List.getElem?_eq_getElem (by rw [bl_length]; omega)] at this
      exact this
    · have := h2 (by rw [bl_length] at hi; exact hi)
      rw [← hb] at this
      unfold bat at this
      rw [List.getD_eq_getElem?_getD, List.getElem?_eq_getElem hi] at this
      exact this
  rw [this, List.length_take, bl_length]; omega

set_option maxHeartbeats 1000000 in
theorem rdecimal_calls (s : ByteArray) (w : World) (hs : s.size ≤ 140737488351232) :
    Calls Tryd.prog 52 #[.string s] w fun e w' => e = .returned (.bool (decB (bl s))) ∧ w = w' := by
  go_enter Tryd.func52, Tryd.ntmps52
  go_wp2
  go_loop [3] (fun v => ∃ i : Nat, v = .int .i64 (i : Int) ∧ i ≤ s.size ∧ ∀ j, j < i → (bi (bat s j) != 46) = true) (fun v => s.size - (intOf v).toNat)
  case atStart => exact ⟨0, rfl, Nat.zero_le _, fun j h => absurd h (Nat.not_lt_zero _)⟩
  case round =>
    obtain ⟨i, rfl, hi, hall⟩ := hrel
    have HA := Lib.hid hall
    clear hall
    by_cases hgo : ∃ h : i < s.size, (bi (bat s i) != 46) = true
    · obtain ⟨hlt, hn⟩ := hgo
      have hb := bat_at s i
      have HN : Hid (∀ j, j < i + 1 → (bi (bat s j) != 46) = true) := fun j hj => by
        rcases Nat.lt_or_ge j i with h | h
        · exact HA.out j h
        · obtain rfl : j = i := by omega
          exact hn
      generalize bat s i = x at hb hn
      go_wp2
      go_round
      case rel => exact ⟨i + 1, by go_num, hlt, HN.out⟩
      case measure => simp [intOf]; omega
    · have HD := Lib.hid (dot_stop s i hi HA.out (fun h => by
        cases hx : (bi (bat s i) != 46) with
        | true => exact absurd ⟨h, hx⟩ hgo
        | false => rfl))
      clear HA
      by_cases hend : i + 1 < s.size
      · have hx : (bi (bat s i) != 46) = false := by
          cases hx : (bi (bat s i) != 46) with
          | true => exact absurd ⟨by omega, hx⟩ hgo
          | false => rfl
        clear hgo
        have hb := bat_at s i
        generalize bat s i = x at hb hx
        have hcall := rnumeral_calls (s.extract 0 i) w (by rw [extract_take, bstr_size, List.length_take, bl_length]; omega)
        rw [extract_take, bl_bstr] at hcall
        have hex := extract_take s i
        have HV : Hid (decB (bl s) = (numeralB ((bl s).take i) && ((bl s).drop (i + 1)).all (inCl 2))) := decB_at (bl s) i HD.out hend
        cases hnum : numeralB ((bl s).take i) with
        | false =>
          rw [hnum] at hcall
          have HNM := Lib.hid hnum
          clear hnum
          generalize bstr ((bl s).take i) = X at hex hcall
          go_wp2_with fail
          refine hcall.mono ?_
          rintro e w' ⟨rfl, rfl⟩
          go_wp2
          go_ret
          rw [HV.out, HNM.out]
          exact ⟨rfl, rfl⟩
        | true =>
          rw [hnum] at hcall
          have HNM := Lib.hid hnum
          clear hnum
          generalize bstr ((bl s).take i) = X at hex hcall
          go_wp2_with fail
          refine hcall.mono ?_
          rintro e w' ⟨rfl, rfl⟩
          go_wp2
          go_loop [4] (fun v => ∃ j : Nat, v = .int .i64 (j : Int) ∧ i + 1 ≤ j ∧ j ≤ s.size ∧ ∀ k, i + 1 ≤ k → k < j → inCl 2 (bat s k) = true) (fun v => s.size - (intOf v).toNat)
          case atStart => exact ⟨i + 1, by go_num, Nat.le_refl _, by omega, fun k h1 h2 => by omega⟩
          case round =>
            obtain ⟨j, rfl, hj1, hj2, hall⟩ := hrel
            have HA := Lib.hid hall
            clear hall hb
            by_cases hlt : j < s.size
            · have hb := bat_at s j
              have hcall := digit_calls (bat s j) w
              rw [digit_cl] at hcall
              cases hL : inCl 2 (bat s j) with
              | true =>
                rw [hL] at hcall
                have HN : Hid (∀ k, i + 1 ≤ k → k < j + 1 → inCl 2 (bat s k) = true) := fun k h1 h2 => by
                  rcases Nat.lt_or_ge k j with h | h
                  · exact HA.out k h1 h
                  · obtain rfl : k = j := by omega
                    exact hL
                clear hL
                generalize bat s j = y at hb hcall
                go_wp2_with fail
                refine hcall.mono ?_
                rintro e w' ⟨rfl, rfl⟩
                go_wp2
                go_round
                case rel => exact ⟨j + 1, by go_num, by omega, hlt, HN.out⟩
                case measure => simp [intOf]; omega
              | false =>
                rw [hL] at hcall
                have HN := Lib.hid (drop_no s (inCl 2) (i + 1) j hj1 hlt hL)
                clear hL
                generalize bat s j = y at hb hcall
                go_wp2_with fail
                refine hcall.mono ?_
                rintro e w' ⟨rfl, rfl⟩
                go_wp2
                go_ret
                rw [HV.out, HNM.out, HN.out]
                exact ⟨rfl, rfl⟩
            · obtain rfl : j = s.size := by omega
              have HN := Lib.hid (drop_yes s (inCl 2) (i + 1) HA.out)
              clear HA
              go_wp2
              go_ret
              rw [HV.out, HNM.out, HN.out]
              exact ⟨rfl, rfl⟩
      · have HV : Hid (decB (bl s) = false) := decB_no (bl s) i HD.out (by rw [bl_length]; exact hend)
        by_cases hlt : i < s.size
        · have hx : (bi (bat s i) != 46) = false := by
            cases hx : (bi (bat s i) != 46) with
            | true => exact absurd ⟨by omega, hx⟩ hgo
            | false => rfl
          clear hgo
          have hb := bat_at s i
          generalize bat s i = x at hb hx
          go_wp2
          go_ret
          rw [HV.out]
          exact ⟨rfl, rfl⟩
        · clear hgo
          go_wp2
          go_ret
          rw [HV.out]
          exact ⟨rfl, rfl⟩
end Go.Proofs.YtppbijbgnhmdaaaDoor

/- What the reference's number and Plain do. -/
namespace Go.Proofs.YtppbijbgnhmdaaaDoor
open Go.RowKit

def hexP (x : Int) : Bool := decide (48 ≤ x ∧ x ≤ 57) || (decide (97 ≤ x ∧ x ≤ 102) || decide (65 ≤ x ∧ x ≤ 70))
def binP (x : Int) : Bool := x == 48 || x == 49
theorem inSet_hex : ∀ c : UInt8, inSet hexSet c = hexP (bi c) := by
  have key : ∀ i : Fin 256, inSet hexSet (UInt8.ofNat i.val) = hexP ((i.val : Nat) : Int) := by decide +kernel
  intro c
  have := key ⟨c.toNat, c.toNat_lt⟩
  simpa [bi] using this
theorem inSet_bin : ∀ c : UInt8, inSet binSet c = binP (bi c) := by
  have key : ∀ i : Fin 256, inSet binSet (UInt8.ofNat i.val) = binP ((i.val : Nat) : Int) := by decide +kernel
  intro c
  have := key ⟨c.toNat, c.toNat_lt⟩
  simpa [bi] using this

/-- One round of number's test. -/
def numT (x y : Int) : Bool := (x == 120 && hexP y) || (x == 98 && binP y)

theorem numT_def (x y : Int) : numT x y = ((x == 120 && (decide (48 ≤ y ∧ y ≤ 57) || (decide (97 ≤ y ∧ y ≤ 102) || decide (65 ≤ y ∧ y ≤ 70)))) || (x == 98 && (y == 48 || y == 49))) := rfl

theorem basedB_all (s : ByteArray) (h : 1 < s.size) (ha : ∀ j, 1 ≤ j → j < s.size → numT (bi (bat s 0)) (bi (bat s j)) = true) : basedB (bl s) = true := by
  have hall : ∀ P : UInt8 → Bool, (∀ j, 1 ≤ j → j < s.size → P (bat s j) = true) → ((bl s).drop 1).all P = true := fun P hP => drop_yes s P 1 hP
  have h1 := ha 1 (Nat.le_refl _) h
  unfold basedB
  rw [bl_length, decide_eq_true h]
  show (true && ((bi (bat s 0) == 120 && _) || (bi (bat s 0) == 98 && _))) = true
  unfold numT at h1 ha
  cases hx : (bi (bat s 0) == 120) with
  | true =>
    have e : bi (bat s 0) = 120 := by simpa using hx
    rw [hall (inSet hexSet) (fun j h1 h2 => by
      have := ha j h1 h2
      rw [e] at this
      rw [inSet_hex]
      simpa using this)]
    simp
  | false =>
    cases hy : (bi (bat s 0) == 98) with
    | true =>
      rw [hall (inSet binSet) (fun j h1 h2 => by
        have := ha j h1 h2
        rw [hx, hy] at this
        rw [inSet_bin]
        simpa using this)]
      simp
    | false => rw [hx, hy] at h1; simp at h1
theorem basedB_not (s : ByteArray) (j : Nat) (h1 : 1 ≤ j) (h2 : j < s.size) (hn : numT (bi (bat s 0)) (bi (bat s j)) = false) : basedB (bl s) = false := by
  unfold basedB
  have e : bi ((bl s).getD 0 0) = bi (bat s 0) := rfl
  rw [e]
  unfold numT at hn
  rw [Bool.or_eq_false_iff] at hn
  cases hx : (bi (bat s 0) == 120) with
  | true =>
    have e : bi (bat s 0) = 120 := by simpa using hx
    have hy : (bi (bat s 0) == 98) = false := by rw [e]; rfl
    rw [hx, hy] at hn
    rw [hy, drop_no s (inSet hexSet) 1 j h1 h2 (by rw [inSet_hex]; simpa using hn.1)]
    simp
  | false =>
    cases hy : (bi (bat s 0) == 98) with
    | true =>
      rw [hx, hy] at hn
      rw [drop_no s (inSet binSet) 1 j h1 h2 (by rw [inSet_bin]; simpa using hn.2)]
      simp
    | false => simp

set_option maxHeartbeats 2000000 in
theorem rnumber_calls (s : ByteArray) (w : World) (hs : s.size ≤ 140737488351232) :
    Calls Tryd.prog 49 #[.string s] w fun e w' => e = .returned (.bool (basedB (bl s))) ∧ w = w' := by
  by_cases h1 : s.size < 2
  · have HN : Hid (basedB (bl s) = false) := by
      show _ = _
      unfold basedB; rw [bl_length, decide_eq_false (by omega)]; rfl
    go_enter Tryd.func49, Tryd.ntmps49
    go_wp2
    go_ret
    rw [HN.out]
    exact ⟨rfl, rfl⟩
  · have hd : decide ((s.size : Int) < 2) = false := decide_eq_false (by omega)
    have h2 : 1 < s.size := by omega
    go_enter Tryd.func49, Tryd.ntmps49
    go_wp2
    go_loop [3] (fun v => ∃ i : Nat, v = .int .i64 (i : Int) ∧ 1 ≤ i ∧ i ≤ s.size ∧ ∀ j, 1 ≤ j → j < i → numT (bi (bat s 0)) (bi (bat s j)) = true) (fun v => s.size - (intOf v).toNat)
    case atStart => exact ⟨1, rfl, Nat.le_refl _, by omega, fun j h1 h2 => by omega⟩
    case round =>
      obtain ⟨i, rfl, hi1, hi, hall⟩ := hrel
      have HA := Lib.hid hall
      clear hall
      by_cases hlt : i < s.size
      · have hb := bat_at s i
        have hb0 := bat_at s 0
        have hcall := digit_calls (bat s i) w
        have hdi := isDigit_iff (bat s i)
        have HT : Hid (numT (bi (bat s 0)) (bi (bat s i)) = true → ∀ j, 1 ≤ j → j < i + 1 → numT (bi (bat s 0)) (bi (bat s j)) = true) := fun hT j h1 h2 => by
          rcases Nat.lt_or_ge j i with h | h
          · exact HA.out j h1 h
          · obtain rfl : j = i := by omega
            exact hT
        have HF : Hid (numT (bi (bat s 0)) (bi (bat s i)) = false → basedB (bl s) = false) := fun hF => basedB_not s i hi1 hlt hF
        clear HA
        have hr := bi_range (bat s i)
        generalize isDigit (bat s i) = d at hcall hdi
        generalize bi (bat s i) = y at hb hcall hdi hr HT HF
        generalize bi (bat s 0) = x at hb0 HT HF
        have HD := Lib.hid hdi
        clear hdi
        rcases (show y < 48 ∨ (48 ≤ y ∧ y ≤ 48) ∨ (49 ≤ y ∧ y ≤ 49) ∨ (50 ≤ y ∧ y ≤ 57) ∨ (57 < y ∧ y < 65) ∨ (65 ≤ y ∧ y ≤ 70) ∨ (70 < y ∧ y < 97) ∨ (97 ≤ y ∧ y ≤ 102) ∨ 102 < y from by omega) with g | ⟨g, g'⟩ | ⟨g, g'⟩ | ⟨g, g'⟩ | ⟨g, g'⟩ | ⟨g, g'⟩ | ⟨g, g'⟩ | ⟨g, g'⟩ | g
        all_goals
          first | have v1 : decide (48 ≤ y ∧ y ≤ 57) = true := decide_eq_true (by omega) | have v1 : decide (48 ≤ y ∧ y ≤ 57) = false := decide_eq_false (by omega)
          first | have v2 : decide (97 ≤ y ∧ y ≤ 102) = true := decide_eq_true (by omega) | have v2 : decide (97 ≤ y ∧ y ≤ 102) = false := decide_eq_false (by omega)
          first | have v3 : decide (65 ≤ y ∧ y ≤ 70) = true := decide_eq_true (by omega) | have v3 : decide (65 ≤ y ∧ y ≤ 70) = false := decide_eq_false (by omega)
          first | have v4 : decide (y ≤ 102) = true := decide_eq_true (by omega) | have v4 : decide (y ≤ 102) = false := decide_eq_false (by omega)
          first | have v5 : decide (y ≤ 70) = true := decide_eq_true (by omega) | have v5 : decide (y ≤ 70) = false := decide_eq_false (by omega)
          first | have v6 : (y == 48) = true := by (rw [beq_iff_eq]; omega) | have v6 : (y == 48) = false := by (rw [beq_eq_false_iff_ne]; omega)
          first | have v7 : (y == 49) = true := by (rw [beq_iff_eq]; omega) | have v7 : (y == 49) = false := by (rw [beq_eq_false_iff_ne]; omega)
          have hd2 := HD.out
          rw [v1] at hd2
          subst hd2
          cases hx : (x == 120) <;> cases hz : (x == 98)
        all_goals
          have hT := numT_def x y
          rw [hx, hz, v1, v2, v3, v6, v7] at hT
          simp only [Bool.and_true, Bool.and_false, Bool.or_true, Bool.or_false] at hT
          first
            | (have HT' := Lib.hid (HT.out hT)
               clear HT HF hT HD v1 v2 v3
               go_wp2_with (go_at_call 50; refine hcall.mono ?_; rintro e w' ⟨rfl, rfl⟩)
               go_round
               case rel => exact ⟨i + 1, by go_num, by omega, hlt, HT'.out⟩
               case measure => simp [intOf]; omega)
            | (have HF' := Lib.hid (HF.out hT)
               clear HT HF hT HD v1 v2 v3
               go_wp2_with (go_at_call 50; refine hcall.mono ?_; rintro e w' ⟨rfl, rfl⟩)
               go_ret
               rw [HF'.out]
               exact ⟨rfl, rfl⟩)
      · obtain rfl : i = s.size := by omega
        have HN := Lib.hid (basedB_all s h2 HA.out)
        clear HA
        go_wp2
        go_ret
        rw [HN.out]
        exact ⟨rfl, rfl⟩
end Go.Proofs.YtppbijbgnhmdaaaDoor


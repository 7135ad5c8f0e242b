/- What the reader's functions on a text do: all, numeral. -/
import Derived.Test.YtibbmoeifpfgjaaDoorLexBase
namespace Go.Proofs.YtibbmoeifpfgjaaDoor
open Go.RowKit

/-- Is a byte of a class? -/
def inCl (k : Int) (b : UInt8) : Bool := bits BinOp.and IntKind.u8 ((cl b.toNat : Nat) : Int) k != 0

theorem bat_mem (s : ByteArray) (i : Nat) (h : i < s.size) : bat s i ∈ bl s := by
  unfold bat
  rw [List.getD_eq_getElem?_getD, List.getElem?_eq_getElem (by simpa [bl_length] using h)]
  exact List.getElem_mem _
theorem all_no (s : ByteArray) (f : UInt8 → Bool) (i : Nat) (h : i < s.size) (hf : f (bat s i) = false) : (bl s).all f = false := by
  rw [List.all_eq_false]
  exact ⟨_, bat_mem s i h, by simp [hf]⟩
theorem all_yes (s : ByteArray) (f : UInt8 → Bool) (h : ∀ j, j < s.size → f (bat s j) = true) : (bl s).all f = true := by
  rw [List.all_eq_true]
  intro x hx
  obtain ⟨j, hj, rfl⟩ := List.getElem_of_mem hx
  have := h j (by simpa [bl_length] using hj)
  unfold bat at this
  rw [List.getD_eq_getElem?_getD, List.getElem?_eq_getElem hj] at this
  exact this

theorem all_next (s : ByteArray) (f : UInt8 → Bool) (i : Nat) (h : ∀ j, j < i → f (bat s j) = true) (hi : f (bat s i) = true) : ∀ j, j < i + 1 → f (bat s j) = true := by
  intro j hj
  rcases Nat.lt_or_ge j i with h1 | h1
  · exact h j h1
  · obtain rfl : j = i := by omega
    exact hi

set_option maxHeartbeats 1000000 in
theorem all_calls (g : Nat) (A : Option Addr) (n cap p : Nat) (s : ByteArray) (k : Int) (w : World) (hr : Rdr w g A n cap p) (hs : s.size ≤ 140737488351232) :
    Calls Tryd.prog 19 #[.pointer (some ⟨g, 0, none⟩), .string s, .int .u8 k] w fun e w' => e = .returned (.bool (!(bl s).isEmpty && (bl s).all (inCl k))) ∧ ∃ m, w' = w.drewN m := by
  go_enter Tryd.func19, Tryd.ntmps19
  go_wp2
  go_loopw [10] (fun v wr => ∃ i m, v = .int .i64 ((i : Nat) : Int) ∧ i ≤ s.size ∧ wr = w.drewN m ∧ ∀ j, j < i → inCl k (bat s j) = true) (fun v _ => s.size - (intOf v).toNat)
  case atStart => exact ⟨0, 0, rfl, Nat.zero_le _, rfl, fun j h => absurd h (Nat.not_lt_zero _)⟩
  case round =>
    obtain ⟨i, m, rfl, hi, rfl, hall⟩ := hrel
    have HA := Lib.hid hall
    clear hall
    by_cases hlt : i < s.size
    · have hb := bat_at s i
      have h3 := hr.tab (bat s i)
      have hrb := bi_range (bat s i)
      cases hL : inCl k (bat s i) with
      | true =>
        have hL' : (bits BinOp.and IntKind.u8 ((cl (bat s i).toNat : Nat) : Int) k == 0) = false := by
          unfold inCl at hL
          simpa using hL
        have HN := Lib.hid (all_next s (inCl k) i HA.out hL)
        clear hL
        generalize bat s i = x at h3 hb hrb hL'
        go_wp2
        go_quiet (fail)
        go_wp2
        go_roundw
        case rel => exact ⟨i + 1, m + nq, by go_num, hlt, rfl, HN.out⟩
        case measure => simp [intOf]; omega
      | false =>
        have hL' : (bits BinOp.and IntKind.u8 ((cl (bat s i).toNat : Nat) : Int) k == 0) = true := by
          unfold inCl at hL
          simpa using hL
        have HL := Lib.hid (all_no s (inCl k) i hlt hL)
        clear hL
        generalize bat s i = x at *
        go_wp2
        go_quiet (fail)
        go_wp2
        go_ret
        rw [HL.out, World.drewN_drewN]
        exact ⟨by simp, _, rfl⟩
    · obtain rfl : i = s.size := by omega
      have HL := Lib.hid (all_yes s (inCl k) HA.out)
      clear HA
      go_wp2
      go_ret
      rw [HL.out]
      exact ⟨by simp [ByteArray.toList_eq, bl], _, rfl⟩

/-- A numeral: digits without a nought ahead. -/
def numeralB (l : List UInt8) : Bool := (!l.isEmpty && l.all (inCl 2)) && (bi (l.getD 0 0) != 48 || l == [48])

set_option maxHeartbeats 1000000 in
theorem numeral_calls (g : Nat) (A : Option Addr) (n cap p : Nat) (s : ByteArray) (w : World) (hr : Rdr w g A n cap p) (hs : s.size ≤ 140737488351232) :
    Calls Tryd.prog 27 #[.pointer (some ⟨g, 0, none⟩), .string s] w fun e w' => e = .returned (.bool (numeralB (bl s))) ∧ ∃ m, w' = w.drewN m := by
  cases hA : (!(bl s).isEmpty && (bl s).all (inCl 2)) with
  | false =>
    have HN : Hid (numeralB (bl s) = false) := by unfold numeralB; rw [hA]; rfl
    have HA := Lib.hid hA
    clear hA
    go_enter Tryd.func27, Tryd.ntmps27
    go_wp2_with fail
    refine (all_calls g A n cap p s 2 _ hr hs).mono ?_
    rw [HA.out]
    rintro e w' ⟨rfl, m, rfl⟩
    go_wp2
    go_ret
    rw [HN.out]
    exact ⟨rfl, _, rfl⟩
  | true =>
    have h0 : 0 < s.size := by
      rcases Nat.eq_zero_or_pos s.size with h | h
      · rw [← bl_length] at h
        have : bl s = [] := List.eq_nil_of_length_eq_zero h
        rw [this] at hA
        simp at hA
      · exact h
    have HN : Hid (numeralB (bl s) = (bi (bat s 0) != 48 || s.toList == [48])) := by
      unfold numeralB
      rw [hA, ByteArray.toList_eq]
      rfl
    have HA := Lib.hid hA
    clear hA
    have hb := bat_at s 0
    generalize bat s 0 = x at hb HN
    cases h1 : (bi x != 48) with
    | true =>
      go_enter Tryd.func27, Tryd.ntmps27
      go_wp2_with fail
      refine (all_calls g A n cap p s 2 _ hr hs).mono ?_
      rw [HA.out]
      rintro e w' ⟨rfl, m, rfl⟩
      go_wp2
      go_ret
      rw [HN.out, h1]
      exact ⟨rfl, _, rfl⟩
    | false =>
      go_enter Tryd.func27, Tryd.ntmps27
      go_wp2_with fail
      refine (all_calls g A n cap p s 2 _ hr hs).mono ?_
      rw [HA.out]
      rintro e w' ⟨rfl, m, rfl⟩
      go_wp2
      go_ret
      rw [HN.out, h1]
      exact ⟨by simp, _, rfl⟩
end Go.Proofs.YtibbmoeifpfgjaaDoor

/- What the reader's functions on a text do: all, numeral. -/
import Derived.Test.YtppbijbgnhmdaaaDoorLexBase
import Derived.Test.YtppbijbgnhmdaaaDoorLexTab
namespace Go.Proofs.YtppbijbgnhmdaaaDoor
open Go.RowKit

/-- Is a byte of a class? -/
def inCl (k : Int) (b : UInt8) : Bool := bits BinOp.and IntKind.u8 ((cl b.toNat : Nat) : Int) k != 0

theorem bat_mem (s : ByteArray) (i : Nat) (h : i < s.size) : bat s i ∈ bl s := by
  unfold bat
  rw [List.getD_eq_getElem?_getD, List.getElem?_eq_getElem (by simpa [bl_length] using h)]
  exact List.getElem_mem _
theorem all_no (s : ByteArray) (f : UInt8 → Bool) (i : Nat) (h : i < s.size) (hf : f (bat s i) = false) : (bl s).all f = false := by
  rw [List.all_eq_false]
  exact ⟨_, bat_mem s i h, by simp [hf]⟩
theorem all_yes (s : ByteArray) (f : UInt8 → Bool) (h : ∀ j, j < s.size → f (bat s j) = true) : (bl s).all f = true := by
  rw [List.all_eq_true]
  intro x hx
  obtain ⟨j, hj, rfl⟩ := List.getElem_of_mem hx
  have := h j (by simpa [bl_length] using hj)
  unfold bat at this
  rw [List.getD_eq_getElem?_getD, List.getElem?_eq_getElem hj] at this
  exact this

theorem all_next (s : ByteArray) (f : UInt8 → Bool) (i : Nat) (h : ∀ j, j < i → f (bat s j) = true) (hi : f (bat s i) = true) : ∀ j, j < i + 1 → f (bat s j) = true := by
  intro j hj
  rcases Nat.lt_or_ge j i with h1 | h1
  · exact h j h1
  · obtain rfl : j = i := by omega
    exact hi

set_option maxHeartbeats 1000000 in
theorem all_calls (g : Nat) (A : Option Addr) (n cap p : Nat) (s : ByteArray) (k : Int) (w : World) (hr : Rdr w g A n cap p) (hs : s.size ≤ 140737488351232) :
    Calls Tryd.prog 55 #[.pointer (some ⟨g, 0, none⟩), .string s, .int .u8 k] w fun e w' => e = .returned (.bool (!(bl s).isEmpty && (bl s).all (inCl k))) ∧ ∃ m, w' = w.drewN m := by
  go_enter Tryd.func55, Tryd.ntmps55
  go_wp2
  go_loopw [10] (fun v wr => ∃ i m, v = .int .i64 ((i : Nat) : Int) ∧ i ≤ s.size ∧ wr = w.drewN m ∧ ∀ j, j < i → inCl k (bat s j) = true) (fun v _ => s.size - (intOf v).toNat)
  case atStart => exact ⟨0, 0, rfl, Nat.zero_le _, rfl, fun j h => absurd h (Nat.not_lt_zero _)⟩
  case round =>
    obtain ⟨i, m, rfl, hi, rfl, hall⟩ := hrel
    have HA := Lib.hid hall
    clear hall
    by_cases hlt : i < s.size
    · have hb := bat_at s i
      have h3 := hr.tab (bat s i)
      have hrb := bi_range (bat s i)
      cases hL : inCl k (bat s i) with
      | true =>
        have hL' : (bits BinOp.and IntKind.u8 ((cl (bat s i).toNat : Nat) : Int) k == 0) = false := by
          unfold inCl at hL
          simpa using hL
        have HN := Lib.hid (all_next s (inCl k) i HA.out hL)
        clear hL
        generalize bat s i = x at h3 hb hrb hL'
        go_wp2
        go_quiet (fail)
        go_wp2
        go_roundw
        case rel => exact ⟨i + 1, m + nq, by go_num, hlt, rfl, HN.out⟩
        case measure => simp [intOf]; omega
      | false =>
        have hL' : (bits BinOp.and IntKind.u8 ((cl (bat s i).toNat : Nat) : Int) k == 0) = true := by
          unfold inCl at hL
          simpa using hL
        have HL := Lib.hid (all_no s (inCl k) i hlt hL)
        clear hL
        generalize bat s i = x at *
        go_wp2
        go_quiet (fail)
        go_wp2
        go_ret
        rw [HL.out, World.drewN_drewN]
        exact ⟨by simp, _, rfl⟩
    · obtain rfl : i = s.size := by omega
      have HL := Lib.hid (all_yes s (inCl k) HA.out)
      clear HA
      go_wp2
      go_ret
      rw [HL.out]
      exact ⟨by simp [ByteArray.toList_eq, bl], _, rfl⟩

/-- A numeral: digits without a nought ahead. -/
def numeralB (l : List UInt8) : Bool := (!l.isEmpty && l.all (inCl 2)) && (bi (l.getD 0 0) != 48 || l == [48])

set_option maxHeartbeats 1000000 in
theorem numeral_calls (g : Nat) (A : Option Addr) (n cap p : Nat) (s : ByteArray) (w : World) (hr : Rdr w g A n cap p) (hs : s.size ≤ 140737488351232) :
    Calls Tryd.prog 70 #[.pointer (some ⟨g, 0, none⟩), .string s] w fun e w' => e = .returned (.bool (numeralB (bl s))) ∧ ∃ m, w' = w.drewN m := by
  cases hA : (!(bl s).isEmpty && (bl s).all (inCl 2)) with
  | false =>
    have HN : Hid (numeralB (bl s) = false) := by unfold numeralB; rw [hA]; rfl
    have HA := Lib.hid hA
    clear hA
    go_enter Tryd.func70, Tryd.ntmps70
    go_wp2_with fail
    refine (all_calls g A n cap p s 2 _ hr hs).mono ?_
    rw [HA.out]
    rintro e w' ⟨rfl, m, rfl⟩
    go_wp2
    go_ret
    rw [HN.out]
    exact ⟨rfl, _, rfl⟩
  | true =>
    have h0 : 0 < s.size := by
      rcases Nat.eq_zero_or_pos s.size with h | h
      · rw [← bl_length] at h
        have : bl s = [] := List.eq_nil_of_length_eq_zero h
        rw [this] at hA
        simp at hA
      · exact h
    have HN : Hid (numeralB (bl s) = (bi (bat s 0) != 48 || s.toList == [48])) := by
      unfold numeralB
      rw [hA, ByteArray.toList_eq]
      rfl
    have HA := Lib.hid hA
    clear hA
    have hb := bat_at s 0
    generalize bat s 0 = x at hb HN
    cases h1 : (bi x != 48) with
    | true =>
      go_enter Tryd.func70, Tryd.ntmps70
      go_wp2_with fail
      refine (all_calls g A n cap p s 2 _ hr hs).mono ?_
      rw [HA.out]
      rintro e w' ⟨rfl, m, rfl⟩
      go_wp2
      go_ret
      rw [HN.out, h1]
      exact ⟨rfl, _, rfl⟩
    | false =>
      go_enter Tryd.func70, Tryd.ntmps70
      go_wp2_with fail
      refine (all_calls g A n cap p s 2 _ hr hs).mono ?_
      rw [HA.out]
      rintro e w' ⟨rfl, m, rfl⟩
      go_wp2
      go_ret
      rw [HN.out, h1]
      exact ⟨by simp, _, rfl⟩
end Go.Proofs.YtppbijbgnhmdaaaDoor

/- Which texts are symbols that may stand without bars, as package lex tells it. -/
namespace Go.Proofs.YtppbijbgnhmdaaaDoor
open Go.RowKit

def zeroRd : Array Value := Array.replicate 256 (.int .u8 0) ++ #[.slice none 0 0, .int .i64 0]
theorem zeroRd_size : zeroRd.size = 258 := by simp [zeroRd]
theorem zero_reader (W : World) : (zeroValue 91).run Tryd.prog W = .ok (.agg zeroRd) W := by kernel_rfl
theorem build_plain (W : World) : (Instr.build 91 #[(0, .agg tabArr)]).run Tryd.prog W = .ok (.agg (rdCells none 0 0 0)) W := by kernel_rfl
theorem build_reader (A : Option Addr) (n cap : Nat) (W : World) : (Instr.build 91 #[(0, .agg tabArr), (1, .slice A n cap)]).run Tryd.prog W = .ok (.agg (rdCells A n cap 0)) W := by kernel_rfl
theorem rdCells_one (A : Option Addr) (n cap p : Nat) : (rdCells A n cap p).all (·.oneCell') = true := by
  unfold rdCells
  refine all_oneCell_toArray fun v hv => ?_
  rcases List.mem_append.1 hv with h | h
  · obtain ⟨c, _, rfl⟩ := List.mem_map.1 h
    rfl
  · simp at h
    rcases h with rfl | rfl <;> rfl

theorem pw_drewN {B : Nat} {w W : World} (h : Below B w W) (n : Nat) : Below B w (W.drewN n) := ⟨h.os, h.tape, h.output, h.size, h.block⟩

/-- A symbol that may stand without bars. -/
def plainB (l : List UInt8) : Bool := (!l.isEmpty && l.all (inCl 1)) && (bits BinOp.and IntKind.u8 ((cl (l.getD 0 0).toNat : Nat) : Int) 2 == 0)

set_option maxHeartbeats 200000 in
set_option maxRecDepth 100000 in
theorem plain_calls (s : ByteArray) (w : World) (hs : s.size ≤ 140737488351232) :
    Calls Tryd.prog 43 #[.string s] w fun e w' => e = .returned (.bool (plainB (bl s))) ∧ Below w.heap.size w w' := by
  have hcall := classes_calls w
  have hz := zero_reader
  have hbd := Lib.hid build_plain
  have hth : Hid (∀ w1 : World, (w1.alloc (.cells zeroRd 91)).there w1.heap.size 0 (rdCells none 0 0 0).size) := fun w1 => by
    have h := there_row (heap_alloc_new w1 (.cells zeroRd 91))
    rw [zeroRd_size] at h
    rw [rdCells_size]
    exact h
  have hrow : Hid (∀ w1 : World, Rdr ((w1.alloc (.cells zeroRd 91)).setCells w1.heap.size 0 (rdCells none 0 0 0).toList) w1.heap.size none 0 0 0) := fun w1 =>
    ⟨setCells_row (heap_alloc_new w1 (.cells zeroRd 91)) (rdCells none 0 0 0) (by rw [rdCells_size, zeroRd_size])⟩
  have hsz : Hid ((Tryd.prog.info? 91).map (·.size) = some (rdCells none 0 0 0).size) := by
    have : (Tryd.prog.info? 91).map (·.size) = some 258 := by kernel_rfl
    rw [← rdCells_size none 0 0 0] at this
    exact this
  have hone := Lib.hid (rdCells_one none 0 0 0)
  generalize tabArr = T at *
  generalize zeroRd = Z at *
  generalize rdCells none 0 0 0 = R at *
  go_enter Tryd.func43, Tryd.ntmps43
  go_wp2_with fail
  refine hcall.mono ?_
  rintro e w1 ⟨rfl, hb1⟩
  clear hcall
  go_wp2_with (first
    | (refine wpList_build rfl 91 _ rfl #[(0, .agg T)] (by simp [Act.eval]) _ (hbd.out _) ?_)
    | (refine wpList_store_mid rfl 91 _ _ rfl w1.heap.size 0 R rfl rfl (hth.out _) hsz.out hone.out ?_))
  have hR := hrow.out w1
  have hB : Below w.heap.size w ((w1.alloc (.cells Z 91)).setCells w1.heap.size 0 R.toList) :=
    (hb1.alloc hb1.size _).grown (setCells_only _ _ _ _) (by have := hb1.size; simp; omega) (fun k hk => by injection hk; have := hb1.size; omega)
  generalize (w1.alloc (.cells Z 91)).setCells w1.heap.size 0 R.toList = W at hR hB ⊢
  clear hz hbd hth hrow hsz hone
  generalize w1.heap.size = g at *
  refine (all_calls g none 0 0 0 s 1 W hR hs).mono ?_
  cases hA : (!(bl s).isEmpty && (bl s).all (inCl 1)) with
  | false =>
    have HN : Hid (plainB (bl s) = false) := by unfold plainB; rw [hA]; rfl
    clear hA
    rintro e w' ⟨rfl, m, rfl⟩
    go_wp2
    go_ret
    rw [HN.out]
    exact ⟨rfl, pw_drewN hB _⟩
  | true =>
    have h0 : 0 < s.size := by
      rcases Nat.eq_zero_or_pos s.size with h | h
      · rw [← bl_length] at h
        have : bl s = [] := List.eq_nil_of_length_eq_zero h
        rw [this] at hA
        simp at hA
      · exact h
    have HN : Hid (plainB (bl s) = (bits BinOp.and IntKind.u8 ((cl (bat s 0).toNat : Nat) : Int) 2 == 0)) := by
      unfold plainB
      rw [hA]
      rfl
    clear hA
    have hb := bat_at s 0
    have h3 := hR.tab (bat s 0)
    have hr := bi_range (bat s 0)
    generalize bat s 0 = x at hb HN h3 hr
    rintro e w' ⟨rfl, m, rfl⟩
    go_wp2
    go_ret
    rw [HN.out]
    exact ⟨rfl, pw_drewN hB _⟩
end Go.Proofs.YtppbijbgnhmdaaaDoor


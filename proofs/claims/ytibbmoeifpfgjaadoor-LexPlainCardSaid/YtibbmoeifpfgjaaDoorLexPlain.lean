/- Which texts are symbols that may stand without bars, as package lex tells it. -/
import Derived.Test.YtibbmoeifpfgjaaDoorLexTab
import Derived.Test.YtibbmoeifpfgjaaDoorLexAll
namespace Go.Proofs.YtibbmoeifpfgjaaDoor
open Go.RowKit

def zeroRd : Array Value := Array.replicate 256 (.int .u8 0) ++ #[.slice none 0 0, .int .i64 0]
theorem zeroRd_size : zeroRd.size = 258 := by simp [zeroRd]
theorem zero_reader (W : World) : (zeroValue 44).run Tryd.prog W = .ok (.agg zeroRd) W := by kernel_rfl
theorem build_plain (W : World) : (Instr.build 44 #[(0, .agg tabArr)]).run Tryd.prog W = .ok (.agg (rdCells none 0 0 0)) W := by kernel_rfl
theorem build_reader (A : Option Addr) (n cap : Nat) (W : World) : (Instr.build 44 #[(0, .agg tabArr), (1, .slice A n cap)]).run Tryd.prog W = .ok (.agg (rdCells A n cap 0)) W := by kernel_rfl
theorem rdCells_one (A : Option Addr) (n cap p : Nat) : (rdCells A n cap p).all (·.oneCell') = true := by
  unfold rdCells
  refine all_oneCell_toArray fun v hv => ?_
  rcases List.mem_append.1 hv with h | h
  · obtain ⟨c, _, rfl⟩ := List.mem_map.1 h
    rfl
  · simp at h
    rcases h with rfl | rfl <;> rfl

theorem pw_drewN {B : Nat} {w W : World} (h : Below B w W) (n : Nat) : Below B w (W.drewN n) := ⟨h.os, h.tape, h.output, h.size, h.block⟩

/-- A symbol that may stand without bars. -/
def plainB (l : List UInt8) : Bool := (!l.isEmpty && l.all (inCl 1)) && (bits BinOp.and IntKind.u8 ((cl (l.getD 0 0).toNat : Nat) : Int) 2 == 0)

set_option maxHeartbeats 200000 in
set_option maxRecDepth 100000 in
theorem plain_calls (s : ByteArray) (w : World) (hs : s.size ≤ 140737488351232) :
    Calls Tryd.prog 12 #[.string s] w fun e w' => e = .returned (.bool (plainB (bl s))) ∧ Below w.heap.size w w' := by
  have hcall := classes_calls w
  have hz := zero_reader
  have hbd := Lib.hid build_plain
  have hth : Hid (∀ w1 : World, (w1.alloc (.cells zeroRd 44)).there w1.heap.size 0 (rdCells none 0 0 0).size) := fun w1 => by
    have h := there_row (heap_alloc_new w1 (.cells zeroRd 44))
    rw [zeroRd_size] at h
    rw [rdCells_size]
    exact h
  have hrow : Hid (∀ w1 : World, Rdr ((w1.alloc (.cells zeroRd 44)).setCells w1.heap.size 0 (rdCells none 0 0 0).toList) w1.heap.size none 0 0 0) := fun w1 =>
    ⟨setCells_row (heap_alloc_new w1 (.cells zeroRd 44)) (rdCells none 0 0 0) (by rw [rdCells_size, zeroRd_size])⟩
  have hsz : Hid ((Tryd.prog.info? 44).map (·.size) = some (rdCells none 0 0 0).size) := by
    have : (Tryd.prog.info? 44).map (·.size) = some 258 := by kernel_rfl
    rw [← rdCells_size none 0 0 0] at this
    exact this
  have hone := Lib.hid (rdCells_one none 0 0 0)
  generalize tabArr = T at *
  generalize zeroRd = Z at *
  generalize rdCells none 0 0 0 = R at *
  go_enter Tryd.func12, Tryd.ntmps12
  go_wp2_with fail
  refine hcall.mono ?_
  rintro e w1 ⟨rfl, hb1⟩
  clear hcall
  go_wp2_with (first
    | (refine wpList_build rfl 44 _ rfl #[(0, .agg T)] (by simp [Act.eval]) _ (hbd.out _) ?_)
    | (refine wpList_store_mid rfl 44 _ _ rfl w1.heap.size 0 R rfl rfl (hth.out _) hsz.out hone.out ?_))
  have hR := hrow.out w1
  have hB : Below w.heap.size w ((w1.alloc (.cells Z 44)).setCells w1.heap.size 0 R.toList) :=
    (hb1.alloc hb1.size _).grown (setCells_only _ _ _ _) (by have := hb1.size; simp; omega) (fun k hk => by injection hk; have := hb1.size; omega)
  generalize (w1.alloc (.cells Z 44)).setCells w1.heap.size 0 R.toList = W at hR hB ⊢
  clear hz hbd hth hrow hsz hone
  generalize w1.heap.size = g at *
  refine (all_calls g none 0 0 0 s 1 W hR hs).mono ?_
  cases hA : (!(bl s).isEmpty && (bl s).all (inCl 1)) with
  | false =>
    have HN : Hid (plainB (bl s) = false) := by unfold plainB; rw [hA]; rfl
    clear hA
    rintro e w' ⟨rfl, m, rfl⟩
    go_wp2
    go_ret
    rw [HN.out]
    exact ⟨rfl, pw_drewN hB _⟩
  | true =>
    have h0 : 0 < s.size := by
      rcases Nat.eq_zero_or_pos s.size with h | h
      · rw [← bl_length] at h
        have : bl s = [] := List.eq_nil_of_length_eq_zero h
        rw [this] at hA
        simp at hA
      · exact h
    have HN : Hid (plainB (bl s) = (bits BinOp.and IntKind.u8 ((cl (bat s 0).toNat : Nat) : Int) 2 == 0)) := by
      unfold plainB
      rw [hA]
      rfl
    clear hA
    have hb := bat_at s 0
    have h3 := hR.tab (bat s 0)
    have hr := bi_range (bat s 0)
    generalize bat s 0 = x at hb HN h3 hr
    rintro e w' ⟨rfl, m, rfl⟩
    go_wp2
    go_ret
    rw [HN.out]
    exact ⟨rfl, pw_drewN hB _⟩
end Go.Proofs.YtibbmoeifpfgjaaDoor

/- known, of the law on package lex: it answers true. -/
import Derived.Test.YtibbmoeifpfgjaaDoorRefSame
import Derived.Lib.SlBytesConst
namespace Go.Proofs.YtibbmoeifpfgjaaDoor
open Go.RowKit

def knownB : List UInt8 := [40, 97, 32, 124, 98, 32, 99, 124, 32, 49, 48, 41, 32, 59, 32, 120]
def knownT : List Tok := [⟨1, [40], 0⟩, ⟨3, [97], 1⟩, ⟨3, [98, 32, 99], 3⟩, ⟨4, [49, 48], 9⟩, ⟨2, [41], 11⟩]
theorem lex_known : lexB knownB = (knownT, 16, 0) := by kernel_rfl

theorem bys_row (w : World) (l : List UInt8) (C : Array Value) (t : TypeId) (fr : Nat × Nat) (h : ∀ j, ∀ h : j < l.length, C[j]? = some (.int .u8 (bi l[j]))) : Bys (w.alloc (.cells C t fr)) (some ⟨w.heap.size, 0, none⟩) l := ⟨fun j hj => by
  refine ⟨_, rfl, ?_⟩
  have h2 := World.cell?_alloc_mark w C t fr j
  rw [h j hj] at h2
  cases j with
  | zero => exact h2
  | succ j => rw [add_succ, Nat.zero_add]; exact h2⟩

theorem known_row : ∀ j, ∀ h : j < knownB.length, (#[Value.int IntKind.u8 40, Value.int IntKind.u8 97, Value.int IntKind.u8 32, Value.int IntKind.u8 124,
          Value.int IntKind.u8 98, Value.int IntKind.u8 32, Value.int IntKind.u8 99, Value.int IntKind.u8 124,
          Value.int IntKind.u8 32, Value.int IntKind.u8 49, Value.int IntKind.u8 48, Value.int IntKind.u8 41,
          Value.int IntKind.u8 32, Value.int IntKind.u8 59, Value.int IntKind.u8 32, Value.int IntKind.u8 120] : Array Value)[j]? = some (.int .u8 (bi knownB[j])) := by
  intro j h
  have : j < 16 := h
  match j with
  | 0 | 1 | 2 | 3 | 4 | 5 | 6 | 7 | 8 | 9 | 10 | 11 | 12 | 13 | 14 | 15 => rfl
  | n + 16 => omega

set_option maxHeartbeats 1000000 in
theorem known_calls (w : World) : Calls Tryd.prog 8 #[] w fun e w' => e = .returned (.bool true) ∧ Below w.heap.size w w' := by
  have kc := fun (w : World) (C : Array Value) (n c : Nat) => Lib.run_convert_bytes_const (P := Tryd.prog) w 22 5 C n c Tryd.underlying22 Tryd.underlying5
  go_enter Tryd.func8, Tryd.ntmps8
  go_wp2_with fail
  refine (tokens_calls _ 16 knownB _ (bys_row w knownB _ 5 _ known_row) (by decide) (by decide)).mono ?_
  rw [lex_known]
  have hB : Below w.heap.size w (w.alloc (Obj.cells
        #[Value.int IntKind.u8 40, Value.int IntKind.u8 97, Value.int IntKind.u8 32, Value.int IntKind.u8 124,
          Value.int IntKind.u8 98, Value.int IntKind.u8 32, Value.int IntKind.u8 99, Value.int IntKind.u8 124,
          Value.int IntKind.u8 32, Value.int IntKind.u8 49, Value.int IntKind.u8 48, Value.int IntKind.u8 41,
          Value.int IntKind.u8 32, Value.int IntKind.u8 59, Value.int IntKind.u8 32, Value.int IntKind.u8 120]
        5 (16, 17))) := (Below.refl _ w).alloc (Nat.le_refl _) _
  generalize w.alloc (Obj.cells
        #[Value.int IntKind.u8 40, Value.int IntKind.u8 97, Value.int IntKind.u8 32, Value.int IntKind.u8 124,
          Value.int IntKind.u8 98, Value.int IntKind.u8 32, Value.int IntKind.u8 99, Value.int IntKind.u8 124,
          Value.int IntKind.u8 32, Value.int IntKind.u8 49, Value.int IntKind.u8 48, Value.int IntKind.u8 41,
          Value.int IntKind.u8 32, Value.int IntKind.u8 59, Value.int IntKind.u8 32, Value.int IntKind.u8 120]
        5 (16, 17)) = W at hB ⊢
  rintro e w2 ⟨v, rfl, hown, hbel⟩
  have hB2 : Below w.heap.size w w2 := gb_none (gb_trans (gb_below hB none) (gb_below hbel none))
  obtain ⟨A, c, rfl, hT, _⟩ := own_tks hown rfl
  obtain ⟨g, o, rfl, a0, a1, a2⟩ := hT.out 2 (by decide)
  obtain ⟨g', o', e, b0, b1, b2⟩ := hT.out 3 (by decide)
  cases e
  have hb2 := Lib.hid hB2
  have hlen : knownT.length = 5 := rfl
  replace a0 : w2.cell? ⟨g, o + 6, none⟩ = some (.int .u8 3) := a0
  replace a1 : w2.cell? ⟨g, o + 7, none⟩ = some (.string ⟨#[98, 32, 99]⟩) := a1
  replace a2 : w2.cell? ⟨g, o + 8, none⟩ = some (.int .i64 3) := a2
  replace b0 : w2.cell? ⟨g, o + 9, none⟩ = some (.int .u8 4) := b0
  clear hown hbel hB hT b1 b2 hB2
  rw [hlen]
  go_wp2
  go_ret
  exact ⟨rfl, hb2.out⟩
end Go.Proofs.YtibbmoeifpfgjaaDoor

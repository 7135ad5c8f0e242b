/- known, of the law on package tree: it answers true. -/
import Derived.Test.YtppbijbgnhmdaaaDoorTreeAll
import Derived.Test.YtppbijbgnhmdaaaDoorTreeText
import Derived.Test.YtppbijbgnhmdaaaDoorRefTokens
import Derived.Lib.SlBytesConst
namespace Go.Proofs.YtppbijbgnhmdaaaDoor
open Go.RowKit Forest

def knownB : List UInt8 := [40, 97, 32, 124, 98, 32, 99, 124, 41]
def knownT : List Tok := [⟨1, [40], 0⟩, ⟨3, [97], 1⟩, ⟨3, [98, 32, 99], 3⟩, ⟨2, [41], 8⟩]
def knownF : Forest := .cons false 3 [97] 1 .nil (.cons false 3 [98, 32, 99] 3 .nil .nil)
theorem lex_known : lexB knownB = (knownT, 9, 0) := by kernel_rfl
theorem next_known : nextS (knownT.map Tok.i) 0 = (⟨true, 1, [40], 0, knownF⟩, 4, 0) := by kernel_rfl
theorem text_known : textS true 1 [40] knownF (decide (200 < depT true 0 knownF)) = ([40, 97, 32, 124, 98, 32, 99, 124, 41], 0) := by kernel_rfl
theorem dep_known : depT true 0 knownF = 1 := by kernel_rfl
theorem parts_known : (partsT true 1 [40] 0 knownF true 0).length ≤ 1000000 := by
  have : (partsT true 1 [40] 0 knownF true 0).length = 4 := by kernel_rfl
  omega
theorem known_row : ∀ j, ∀ h : j < knownB.length, (#[Value.int IntKind.u8 40, Value.int IntKind.u8 97, Value.int IntKind.u8 32, Value.int IntKind.u8 124,
          Value.int IntKind.u8 98, Value.int IntKind.u8 32, Value.int IntKind.u8 99, Value.int IntKind.u8 124,
          Value.int IntKind.u8 41] : Array Value)[j]? = some (.int .u8 (bi knownB[j])) := by
  intro j h
  have : j < 9 := h
  match j with
  | 0 | 1 | 2 | 3 | 4 | 5 | 6 | 7 | 8 => rfl
  | n + 9 => omega

theorem own_bounds {w : World} {base n sz : Nat} {e : TypeId} {A : Option Addr} {c : Nat} {vs : List Value} (h : w.ownsRow base e sz (.slice A n c) n vs) : n ≤ c ∧ c ≤ maxLen := by
  rcases h.2 with ⟨e1, h0⟩ | ⟨g, cap, cur, e1, hbg, hg, hc, hs, hz, ht⟩
  · cases e1; exact ⟨Nat.le_refl _, Nat.zero_le _⟩
  · cases e1; exact ⟨hc, hs⟩
set_option maxHeartbeats 4000000 in
set_option maxRecDepth 100000 in
theorem known_calls (w : World) (hv : Var0 w) : Calls Tryd.prog 9 #[] w fun e w' => e = .returned (.bool true) ∧ Below w.heap.size w w' := by
  have kc := fun (w : World) (C : Array Value) (n c : Nat) => Lib.run_convert_bytes_const (P := Tryd.prog) w 43 5 C n c Tryd.underlying43 Tryd.underlying5
  go_enter Tryd.func9, Tryd.ntmps9
  go_wp2_with fail
  refine (rtokens_calls _ 9 knownB _ (bys_row w knownB _ 5 _ known_row) (by decide) (by decide)).mono ?_
  rw [lex_known]
  have hB : Below w.heap.size w (w.alloc (Obj.cells
        #[Value.int IntKind.u8 40, Value.int IntKind.u8 97, Value.int IntKind.u8 32, Value.int IntKind.u8 124,
          Value.int IntKind.u8 98, Value.int IntKind.u8 32, Value.int IntKind.u8 99, Value.int IntKind.u8 124,
          Value.int IntKind.u8 41]
        5 (9, 10))) := (Below.refl _ w).alloc (Nat.le_refl _) _
  generalize w.alloc (Obj.cells
        #[Value.int IntKind.u8 40, Value.int IntKind.u8 97, Value.int IntKind.u8 32, Value.int IntKind.u8 124,
          Value.int IntKind.u8 98, Value.int IntKind.u8 32, Value.int IntKind.u8 99, Value.int IntKind.u8 124,
          Value.int IntKind.u8 41]
        5 (9, 10)) = W at hB ⊢
  rintro e w2 ⟨v, rfl, hown, hbel⟩
  have hB2 : Below w.heap.size w w2 := gb_none (gb_trans (gb_below hB none) (gb_below hbel none))
  obtain ⟨A, c, rfl, hT, hAA⟩ := own_tks hown rfl
  obtain ⟨hcc, hcm⟩ := own_bounds hown
  have hTi := hT.i
  have hv2 := hv.below hB2
  have hlen : knownT.length = (knownT.map Tok.i).length := rfl
  dsimp only
  rw [hlen] at hcc ⊢
  obtain ⟨L, hL⟩ : ∃ L, L = knownT.map Tok.i := ⟨_, rfl⟩
  rw [← hL] at hcc hTi ⊢
  have HL := Lib.hid hL
  clear hlen hL
  have HB2 := Lib.hid hB2
  clear hB2 hbel hB hown hT hAA
  go_wp2_with fail
  refine (tnext_calls L A c 0 w2 hTi hcc hcm (by rw [HL.out]; decide)).mono ?_
  rw [show nextS L 0 = (⟨true, 1, [40], 0, knownF⟩, 4, 0) from by rw [HL.out]; exact next_known]
  rintro e w3 ⟨A3, c3, rfl, h1, h2, hF3, hb3⟩
  unfold Tr.v
  dsimp only at h1 h2 hF3 ⊢
  have hF3' := hF3.lies
  have hv3 := hv2.below hb3
  have hBX : Hid (∀ W, Below (w3.alloc (.cells #[.bool true, .int .u8 1, .string (bstr [40]), .int .i64 0, .slice A3 knownF.len c3] 27)).heap.size (w3.alloc (.cells #[.bool true, .int .u8 1, .string (bstr [40]), .int .i64 0, .slice A3 knownF.len c3] 27)) W →
      Lies W knownF A3 0 ∧ Var0 W ∧ Below w.heap.size w W ∧ (∀ j, W.cell? ⟨w3.heap.size, j, none⟩ = (#[Value.bool true, .int .u8 1, .string (bstr [40]), .int .i64 0, .slice A3 knownF.len c3] : Array Value)[j]?)) := fun W hW => by
    have hb4 := bel_trans ((Below.refl _ w3).alloc (Nat.le_refl _) (.cells #[.bool true, .int .u8 1, .string (bstr [40]), .int .i64 0, .slice A3 knownF.len c3] 27)) hW
    exact ⟨hF3'.below hb4, hv3.below hb4, bel_trans HB2.out (bel_trans hb3 hb4), fun j => (hW.cell (by rw [World.size_alloc]; exact Nat.lt_succ_self _)).trans (World.cell?_alloc_mark w3 _ _ (0, 0) j)⟩
  have hb0 := hBX.out _ (Below.refl _ _)
  obtain ⟨hL0, hv0, hbw0, hc0⟩ := hb0
  have c0 := hc0 0
  have c1 := hc0 1
  have c2 := hc0 2
  have c3' := hc0 3
  have c4 := hc0 4
  have hfit : FitsT knownF := ⟨by decide, trivial, by decide, trivial, trivial⟩
  have hhg : hgt knownF + 1 ≤ 1000000 := by decide
  have ht1 : (bstr [40, 97, 32, 124, 98, 32, 99, 124, 41]).toList = [40, 97, 32, 124, 98, 32, 99, 124, 41] := bstr_list' _
  go_wp2_with (first | (go_at_call 11; refine (ttext_calls true 1 [40] 0 A3 knownF c3 _ hv0 (by decide) h1 h2 hfit hhg hL0 parts_known).mono ?_; rw [text_known]; rintro e W5 ⟨rfl, hb5⟩; obtain ⟨hL5, hv5, hbw5, hc5⟩ := hBX.out _ hb5; have d0 := hc5 0; have d1 := hc5 1; have d2 := hc5 2; have d3 := hc5 3; have d4 := hc5 4) | (go_at_call 13; refine (tdepth_calls true 1 [40] 0 A3 knownF c3 _ (by decide) h1 h2 hfit hhg hL5).mono ?_; rw [dep_known]; rintro e W6 ⟨rfl, hb6⟩; have hbw6 := bel_trans hbw5 hb6))
  go_ret
  exact ⟨rfl, hbw6⟩
end Go.Proofs.YtppbijbgnhmdaaaDoor

/- The law on texts of trees: it answers true for every two trees. -/
import Derived.Test.YtppbijbgnhmdaaaDoorTreeKnown
import Derived.Test.YtppbijbgnhmdaaaDoorTreeFacts
import Derived.Test.YtppbijbgnhmdaaaDoorTreeEqual
import Derived.Test.YtppbijbgnhmdaaaDoorRefWriteL
import Derived.Deep.RegionHeld3
namespace Go.Proofs.YtppbijbgnhmdaaaDoor
open Go.RowKit Forest

theorem eqF_refl : ∀ F : Forest, eqF F F = true
  | .nil => rfl
  | .cons l k x a kids rest => by
    unfold eqF
    rw [eqF_refl kids, eqF_refl rest]; simp
theorem eqT_refl (l : Bool) (k : Int) (x : List UInt8) (F : Forest) : eqT l k x F l k x F = true := by
  unfold eqT; rw [eqF_refl]; simp
/-- A box that holds a tree. -/
def TBox (b : Nat) (T : Tr) (A : Option Addr) (c : Nat) (W : World) : Prop := ∀ j, W.cell? ⟨b, j, none⟩ = (#[Value.bool T.l, .int .u8 T.k, .string (bstr T.x), .int .i64 T.a, .slice A T.F.len c] : Array Value)[j]?
theorem TBox.below {b : Nat} {T : Tr} {A : Option Addr} {c : Nat} {w W : World} (h : TBox b T A c w) (hb : Below w.heap.size w W) : TBox b T A c W := fun j => by
  have h0 : w.cell? ⟨b, 0, none⟩ = some (.bool T.l) := h 0
  have hlt : b < w.heap.size := World.block_lt_of_cell? w _ h0
  exact (hb.cell hlt).trans (h j)
theorem TBox.new (w : World) (T : Tr) (A : Option Addr) (c : Nat) : TBox w.heap.size T A c (w.alloc (.cells #[.bool T.l, .int .u8 T.k, .string (bstr T.x), .int .i64 T.a, .slice A T.F.len c] 27)) := fun j => World.cell?_alloc_mark w _ _ (0, 0) j
/-- A tree that may be handed to all. -/
structure TIn (T : Tr) (A : Option Addr) (c : Nat) (W : World) : Prop where
  lies : Lies W T.F A 0
  len : T.F.len ≤ c
  cap : c ≤ maxLen
theorem TIn.below {T : Tr} {A : Option Addr} {c : Nat} {w W : World} (h : TIn T A c w) (hb : Below w.heap.size w W) : TIn T A c W := ⟨h.lies.below hb, h.len, h.cap⟩
/-- What stands all through. -/
structure TGood (w : World) (b0 b1 b2 : Nat) (T U : Tr) (A B D : Option Addr) (c d e : Nat) (W : World) : Prop where
  v : Var0 W
  t : TIn T A c W
  u : TIn U B d W
  i : TIn T D e W
  bt : TBox b0 T A c W
  bu : TBox b1 U B d W
  bi : TBox b2 T D e W
  bel : Below w.heap.size w W
theorem TGood.below {w : World} {b0 b1 b2 : Nat} {T U : Tr} {A B D : Option Addr} {c d e : Nat} {W W2 : World} (h : TGood w b0 b1 b2 T U A B D c d e W) (hb : Below W.heap.size W W2) : TGood w b0 b1 b2 T U A B D c d e W2 :=
  ⟨h.v.below hb, h.t.below hb, h.u.below hb, h.i.below hb, h.bt.below hb, h.bu.below hb, h.bi.below hb, bel_trans h.bel hb⟩
/-- The cells that the last region loads. -/
def Cells3 (b0 b1 b2 : Nat) (T U : Tr) (A B D : Option Addr) (c d e : Nat) (W : World) : Prop :=
  W.cell? ⟨b0, 0, none⟩ = some (.bool T.l) ∧ W.cell? ⟨b0, 1, none⟩ = some (.int .u8 T.k) ∧ W.cell? ⟨b0, 2, none⟩ = some (.string (bstr T.x)) ∧ W.cell? ⟨b0, 3, none⟩ = some (.int .i64 T.a) ∧ W.cell? ⟨b0, 4, none⟩ = some (.slice A T.F.len c) ∧
  W.cell? ⟨b1, 0, none⟩ = some (.bool U.l) ∧ W.cell? ⟨b1, 1, none⟩ = some (.int .u8 U.k) ∧ W.cell? ⟨b1, 2, none⟩ = some (.string (bstr U.x)) ∧ W.cell? ⟨b1, 3, none⟩ = some (.int .i64 U.a) ∧ W.cell? ⟨b1, 4, none⟩ = some (.slice B U.F.len d) ∧
  W.cell? ⟨b2, 0, none⟩ = some (.bool T.l) ∧ W.cell? ⟨b2, 1, none⟩ = some (.int .u8 T.k) ∧ W.cell? ⟨b2, 2, none⟩ = some (.string (bstr T.x)) ∧ W.cell? ⟨b2, 3, none⟩ = some (.int .i64 T.a) ∧ W.cell? ⟨b2, 4, none⟩ = some (.slice D T.F.len e)
theorem TGood.cells {w : World} {b0 b1 b2 : Nat} {T U : Tr} {A B D : Option Addr} {c d e : Nat} {W : World} (h : TGood w b0 b1 b2 T U A B D c d e W) : Cells3 b0 b1 b2 T U A B D c d e W :=
  ⟨h.bt 0, h.bt 1, h.bt 2, h.bt 3, h.bt 4, h.bu 0, h.bu 1, h.bu 2, h.bu 3, h.bu 4, h.bi 0, h.bi 1, h.bi 2, h.bi 3, h.bi 4⟩
theorem TGood.drew {w : World} {b0 b1 b2 : Nat} {T U : Tr} {A B D : Option Addr} {c d e : Nat} {W : World} (h : TGood w b0 b1 b2 T U A B D c d e W) : TGood w b0 b1 b2 T U A B D c d e W.drew := h.below (Below.refl _ W).drew
theorem TGood.all {w : World} {b0 b1 b2 : Nat} {T U : Tr} {A B D : Option Addr} {c d e : Nat} {W : World} (h : TGood w b0 b1 b2 T U A B D c d e W) : TGood w b0 b1 b2 T U A B D c d e W ∧ Cells3 b0 b1 b2 T U A B D c d e W := ⟨h, h.cells⟩
/-- What comes in. -/
structure TArg (T : Tr) (A : Option Addr) (c : Nat) (W : World) : Prop where
  inn : TIn T A c W
  x : T.x.length ≤ 140737488351232
  fits : Fits T.F

set_option maxHeartbeats 8000000 in
set_option maxRecDepth 100000 in
theorem law_texts (T U : Tr) (A B : Option Addr) (c d : Nat) (w : World) (hv : Var0 w) (hT : TArg T A c w) (hU : TArg U B d w) :
    Calls Tryd.prog 3 #[.agg #[.bool T.l, .int .u8 T.k, .string (bstr T.x), .int .i64 T.a, .slice A T.F.len c], .agg #[.bool U.l, .int .u8 U.k, .string (bstr U.x), .int .i64 U.a, .slice B U.F.len d]] w fun e w' => e = .returned (.bool true) ∧ Below w.heap.size w w' := by
  obtain ⟨w1, hw1⟩ : ∃ w1, w1 = w.alloc (.cells #[.bool T.l, .int .u8 T.k, .string (bstr T.x), .int .i64 T.a, .slice A T.F.len c] 27) := ⟨_, rfl⟩
  obtain ⟨w2, hw2⟩ : ∃ w2, w2 = w1.alloc (.cells #[.bool U.l, .int .u8 U.k, .string (bstr U.x), .int .i64 U.a, .slice B U.F.len d] 27) := ⟨_, rfl⟩
  have hs1 : w1.heap.size = w.heap.size + 1 := by rw [hw1, World.size_alloc]
  have hb1 : Below w.heap.size w w1 := by rw [hw1]; exact (Below.refl _ w).alloc (Nat.le_refl _) _
  have hb2 : Below w1.heap.size w1 w2 := by rw [hw2]; exact (Below.refl _ w1).alloc (Nat.le_refl _) _
  have hb02 := bel_trans hb1 hb2
  have hbt : TBox w.heap.size T A c w2 := TBox.below (by rw [hw1]; exact TBox.new w T A c) hb2
  have hbu : TBox (w.heap.size + 1) U B d w2 := by rw [hw2, ← hs1]; exact TBox.new w1 U B d
  have HF : Hid (∀ W, Below w2.heap.size w2 W → Lies W T.F A 0 ∧ Lies W U.F B 0 ∧ Var0 W ∧ TBox w.heap.size T A c W ∧ TBox (w.heap.size + 1) U B d W ∧ Below w.heap.size w W) := fun W hW =>
    ⟨hT.inn.lies.below (bel_trans hb02 hW), hU.inn.lies.below (bel_trans hb02 hW), hv.below (bel_trans hb02 hW), hbt.below hW, hbu.below hW, bel_trans hb02 hW⟩
  obtain ⟨hL0, hM0, hv0, ht0, hu0, -⟩ := HF.out w2 (Below.refl _ _)
  have a0 := ht0 0
  have a1 := ht0 1
  have a2 := ht0 2
  have a3 := ht0 3
  have a4 := ht0 4
  have b0 := hu0 0
  have b1 := hu0 1
  have b2 := hu0 2
  have b3 := hu0 3
  have b4 := hu0 4
  have HW : Hid (w2 = w1.alloc (.cells #[.bool U.l, .int .u8 U.k, .string (bstr U.x), .int .i64 U.a, .slice B U.F.len d] 27) ∧ w1 = w.alloc (.cells #[.bool T.l, .int .u8 T.k, .string (bstr T.x), .int .i64 T.a, .slice A T.F.len c] 27)) := ⟨hw2, hw1⟩
  rw [hw2, hw1] at a0 a1 a2 a3 a4
  clear hw1 hw2
  have gt := great_calls T.F T.l T.k T.x T.a A c w2 hL0 hT.inn.len hT.inn.cap hT.x hT.fits
  have GT := Lib.hid gt
  clear gt
  go_enter Tryd.func3, Tryd.ntmps3
  go_wp2_with fail
  rw [← HW.out.2, ← HW.out.1]
  refine GT.out.mono ?_
  have kn : ∀ W, Below w2.heap.size w2 W → Calls Tryd.prog 9 #[] W fun e w' => e = .returned (.bool true) ∧ Below W.heap.size W w' := fun W hW => known_calls W (HF.out W hW).2.2.1
  have KN := Lib.hid kn
  clear kn a0 a1 a2 a3 a4 b0 b1 b2 b3 b4
  cases hgt : greatT T.F T.x with
  | true =>
    rintro e w3 ⟨rfl, hb3⟩
    have hbw3 := (HF.out w3 hb3).2.2.2.2.2
    go_wp2_with (go_at_call 9; refine (KN.out w3 hb3).mono ?_; rintro e w4 ⟨rfl, hb4⟩; have hbw4 := bel_trans hbw3 hb4)
    go_ret
    exact ⟨rfl, hbw4⟩
  | false =>
    rintro e w3 ⟨rfl, hb3⟩
    obtain ⟨hL3, hM3, hv3, ht3, hu3, hbw3⟩ := HF.out w3 hb3
    have b0 := hu3 0
    have b1 := hu3 1
    have b2 := hu3 2
    have b3 := hu3 3
    have b4 := hu3 4
    have gu := great_calls U.F U.l U.k U.x U.a B d w3 hM3 hU.inn.len hU.inn.cap hU.x hU.fits
    have GU := Lib.hid gu
    clear gu
    cases hgu : greatT U.F U.x with
    | true =>
      rw [hgu] at GU
      go_wp2_with (first | (go_at_call 8; refine GU.out.mono ?_; rintro e w4 ⟨rfl, hb4⟩; have hb24 := bel_trans hb3 hb4) | (go_at_call 9; refine (KN.out _ hb24).mono ?_; rintro e w5 ⟨rfl, hb5⟩; have hbw5 := bel_trans (bel_trans hbw3 hb4) hb5))
      go_ret
      exact ⟨rfl, hbw5⟩
    | false =>
      rw [hgu] at GU
      have fT := great_fine hgt
      have fU := great_fine hgu
      go_wp2_with (first | (go_at_call 8; refine GU.out.mono ?_; rintro e w4 ⟨rfl, hb4⟩; obtain ⟨hL4, hM4, hv4, ht4, hu4, hbw4⟩ := HF.out w4 (bel_trans hb3 hb4); have a0 := ht4 0; have a1 := ht4 1; have a2 := ht4 2; have a3 := ht4 3; have a4 := ht4 4))
      refine (copy_calls T.F T.l T.k T.x T.a A c w4 hL4 hT.inn.len hT.inn.cap (by have := fT.len; omega) fT.small).mono ?_
      rintro e w5 ⟨D, e5, rfl, hDl, hDc, hD5, hb5⟩
      have hb25 := bel_trans (bel_trans hb3 hb4) hb5
      obtain ⟨w6, hw6⟩ : ∃ w6, w6 = w5.alloc (.cells #[.bool T.l, .int .u8 T.k, .string (bstr T.x), .int .i64 T.a, .slice D T.F.len e5] 27) := ⟨_, rfl⟩
      have hb6 : Below w5.heap.size w5 w6 := by rw [hw6]; exact (Below.refl _ w5).alloc (Nat.le_refl _) _
      have hG : TGood w w.heap.size (w.heap.size + 1) w5.heap.size T U A B D c d e5 w6 := by
        obtain ⟨g1, g2, g3, g4, g5, g6⟩ := HF.out w6 (bel_trans hb25 hb6)
        exact ⟨g3, ⟨g1, hT.inn.len, hT.inn.cap⟩, ⟨g2, hU.inn.len, hU.inn.cap⟩, ⟨hD5.lies.below hb6, hDl, hDc⟩, g4, g5, by rw [hw6]; exact TBox.new w5 T D e5, g6⟩
      have hbi := hG.bi
      rw [hw6] at hbi
      have i0 := hbi 0
      have i1 := hbi 1
      have i2 := hbi 2
      have i3 := hbi 3
      have i4 := hbi 4
      have HW6 := Lib.hid hw6
      clear hw6 hbi a0 a1 a2 a3 a4 b0 b1 b2 b3 b4
      go_wp2_with fail
      rw [← HW6.out]
      clear i0 i1 i2 i3 i4
      refine (ttext_calls T.l T.k T.x T.a D T.F e5 w6 hG.v fT.hx hDl hDc fT.fit fT.hgt hG.i.lies (fT.parts _ _ _ _ _)).mono ?_
      rintro e w7 ⟨rfl, hb7⟩
      have hG7 := hG.below hb7
      obtain ⟨c0, c1, c2, c3, c4, -⟩ := hG7.cells
      obtain ⟨S, hS⟩ : ∃ S, S = textS T.l T.k T.x T.F (decide (200 < depT T.l 0 T.F)) := ⟨_, rfl⟩
      rw [← hS]
      have rt := rtext_calls T.F T.l T.k T.x T.a A c w7 hG7.t.lies hT.inn.len hT.inn.cap fT.hx fT.texts fT.wgt
      rw [← hS] at rt
      have RT := Lib.hid rt
      clear rt hS
      go_wp2_with (first | (go_at_call 12; refine RT.out.mono ?_; rintro e w8 ⟨rfl, hb8⟩; have hG8 := hG7.below hb8))
      clear c0 c1 c2 c3 c4
      have hG8 := hG8
      go_region_held3 (fun wx => TGood w w.heap.size (w.heap.size + 1) w5.heap.size T U A B D c d e5 wx ∧ wx.cell? ⟨w.heap.size, 0, none⟩ = some (.bool T.l) ∧ wx.cell? ⟨w.heap.size, 1, none⟩ = some (.int .u8 T.k) ∧ wx.cell? ⟨w.heap.size, 2, none⟩ = some (.string (bstr T.x)) ∧ wx.cell? ⟨w.heap.size, 3, none⟩ = some (.int .i64 T.a) ∧ wx.cell? ⟨w.heap.size, 4, none⟩ = some (.slice A T.F.len c) ∧ wx.cell? ⟨(w.heap.size + 1), 0, none⟩ = some (.bool U.l) ∧ wx.cell? ⟨(w.heap.size + 1), 1, none⟩ = some (.int .u8 U.k) ∧ wx.cell? ⟨(w.heap.size + 1), 2, none⟩ = some (.string (bstr U.x)) ∧ wx.cell? ⟨(w.heap.size + 1), 3, none⟩ = some (.int .i64 U.a) ∧ wx.cell? ⟨(w.heap.size + 1), 4, none⟩ = some (.slice B U.F.len d) ∧ wx.cell? ⟨w5.heap.size, 0, none⟩ = some (.bool T.l) ∧ wx.cell? ⟨w5.heap.size, 1, none⟩ = some (.int .u8 T.k) ∧ wx.cell? ⟨w5.heap.size, 2, none⟩ = some (.string (bstr T.x)) ∧ wx.cell? ⟨w5.heap.size, 3, none⟩ = some (.int .i64 T.a) ∧ wx.cell? ⟨w5.heap.size, 4, none⟩ = some (.slice D T.F.len e5)) (first | exact (TGood.drew hG8).all | exact (TGood.below (And.left ‹TGood w w.heap.size (w.heap.size + 1) w5.heap.size T U A B D c d e5 _ ∧ _›) ‹Below _ _ _›).all) (first | (go_at_call 13; refine (tdepth_calls T.l T.k T.x T.a A T.F c _ fT.hx hT.inn.len hT.inn.cap fT.fit fT.hgt ?_).mono ?_; exact (And.left ‹TGood w w.heap.size (w.heap.size + 1) w5.heap.size T U A B D c d e5 _ ∧ _›).t.lies; rintro e wx ⟨rfl, hbx⟩) | (go_at_call 14; refine (rdepth_calls T.F T.l T.k T.x T.a A c _ ?_ hT.inn.len hT.inn.cap).mono ?_; exact (And.left ‹TGood w w.heap.size (w.heap.size + 1) w5.heap.size T U A B D c d e5 _ ∧ _›).t.lies; rintro e wx ⟨rfl, hbx⟩) | (go_at_call_of 15 B; refine (tsame_calls T.F U.F T.l U.l T.k U.k T.x U.x T.a U.a A B c d _ ?_ ?_ hT.inn.len hT.inn.cap hU.inn.len hU.inn.cap).mono ?_; exact (And.left ‹TGood w w.heap.size (w.heap.size + 1) w5.heap.size T U A B D c d e5 _ ∧ _›).t.lies; exact (And.left ‹TGood w w.heap.size (w.heap.size + 1) w5.heap.size T U A B D c d e5 _ ∧ _›).u.lies; rintro e wx ⟨rfl, hbx⟩) | (go_at_call_of 16 B; refine (rsame_calls T.F U.F T.l U.l T.k U.k T.x U.x T.a U.a A B c d _ ?_ ?_ hT.inn.len hT.inn.cap hU.inn.len hU.inn.cap).mono ?_; exact (And.left ‹TGood w w.heap.size (w.heap.size + 1) w5.heap.size T U A B D c d e5 _ ∧ _›).t.lies; exact (And.left ‹TGood w w.heap.size (w.heap.size + 1) w5.heap.size T U A B D c d e5 _ ∧ _›).u.lies; rintro e wx ⟨rfl, hbx⟩) | (go_at_call_of 15 D; refine (tsame_calls T.F T.F T.l T.l T.k T.k T.x T.x T.a T.a D A e5 c _ ?_ ?_ hDl hDc hT.inn.len hT.inn.cap).mono ?_; exact (And.left ‹TGood w w.heap.size (w.heap.size + 1) w5.heap.size T U A B D c d e5 _ ∧ _›).i.lies; exact (And.left ‹TGood w w.heap.size (w.heap.size + 1) w5.heap.size T U A B D c d e5 _ ∧ _›).t.lies; rw [eqT_refl]; rintro e wx ⟨rfl, hbx⟩) | (go_at_call_of 16 D; refine (rsame_calls T.F T.F T.l T.l T.k T.k T.x T.x T.a T.a D A e5 c _ ?_ ?_ hDl hDc hT.inn.len hT.inn.cap).mono ?_; exact (And.left ‹TGood w w.heap.size (w.heap.size + 1) w5.heap.size T U A B D c d e5 _ ∧ _›).i.lies; exact (And.left ‹TGood w w.heap.size (w.heap.size + 1) w5.heap.size T U A B D c d e5 _ ∧ _›).t.lies; rw [eqT_refl]; rintro e wx ⟨rfl, hbx⟩) | (go_at_call 9; refine (known_calls _ ?_).mono ?_; exact (And.left ‹TGood w w.heap.size (w.heap.size + 1) w5.heap.size T U A B D c d e5 _ ∧ _›).v; rintro e wx ⟨rfl, hbx⟩))
      go_wp2
      go_ret
      exact ⟨rfl, (And.left ‹TGood w w.heap.size (w.heap.size + 1) w5.heap.size T U A B D c d e5 _ ∧ _›).bel⟩
end Go.Proofs.YtppbijbgnhmdaaaDoor

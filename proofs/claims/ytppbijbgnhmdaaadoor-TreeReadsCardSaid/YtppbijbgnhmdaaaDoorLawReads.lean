/- The law on trees that are read: it answers true for every row of tokens and every place. -/
import Derived.Test.YtppbijbgnhmdaaaDoorTokRows
import Derived.Test.YtppbijbgnhmdaaaDoorTreeSameAll
import Derived.Test.YtppbijbgnhmdaaaDoorLawTexts
import Derived.Laws.StructEq
namespace Go.Proofs.YtppbijbgnhmdaaaDoor
open Go.RowKit Forest

/-- The tokens of the copy from the place m on. -/
structure Left (l : List TokI) (A : Option Addr) (g m : Nat) (w : World) : Prop where
  out : m < l.length → A = some ⟨g, 0, none⟩ ∧ ∃ cur, w.heap[g]? = some (.cells cur 24 (0, 0)) ∧ ∀ i, m ≤ i → ∀ h : i < l.length, cur[i * 3]? = some (.int .u8 l[i].kind) ∧ cur[i * 3 + 1]? = some (.string (bstr l[i].text)) ∧ cur[i * 3 + 2]? = some (.int .i64 l[i].at_)
theorem Left.at_ {l : List TokI} {A : Option Addr} {g m : Nat} {w : World} (h : Left l A g m w) (hm : m < l.length) :
    w.cell? ⟨g, m * 3, none⟩ = some (.int .u8 l[m].kind) ∧ w.cell? ⟨g, m * 3 + 1, none⟩ = some (.string (bstr l[m].text)) ∧ w.cell? ⟨g, m * 3 + 2, none⟩ = some (.int .i64 l[m].at_) := by
  obtain ⟨_, cur, hb, hc⟩ := h.out hm
  obtain ⟨c0, c1, c2⟩ := hc m (Nat.le_refl _) hm
  refine ⟨?_, ?_, ?_⟩
  · rw [cell_of_row w g _ cur _ _ hb]; exact c0
  · rw [cell_of_row w g _ cur _ _ hb]; exact c1
  · rw [cell_of_row w g _ cur _ _ hb]; exact c2
theorem Left.set {l : List TokI} {A : Option Addr} {g m : Nat} {w : World} (h : Left l A g m w) (n : Nat) (u : Value) : Left l A g (m + 1) ((w.drewN n).setCell ⟨g, m * 3 + 1, none⟩ u) := ⟨fun hm => by
  obtain ⟨e, cur, hb, hc⟩ := h.out (by omega)
  refine ⟨e, _, heap_setCell_at (w := w.drewN n) hb, fun i hi hil => ?_⟩
  obtain ⟨c0, c1, c2⟩ := hc i (by omega) hil
  refine ⟨?_, ?_, ?_⟩
  · rw [Array.getElem?_setIfInBounds_ne (by omega)]; exact c0
  · rw [Array.getElem?_setIfInBounds_ne (by omega)]; exact c1
  · rw [Array.getElem?_setIfInBounds_ne (by omega)]; exact c2⟩
theorem Left.kept {l : List TokI} {A : Option Addr} {g m : Nat} {w W : World} (h : Left l A g m w) (hb : Below w.heap.size w W) : Left l A g m W := ⟨fun hm => by
  obtain ⟨e, cur, h1, hc⟩ := h.out hm
  exact ⟨e, cur, (hb.block g (lt_of_block h1)).trans h1, hc⟩⟩
/-- The copy that append has made. -/
theorem copied {w w1 : World} {v : Value} {l : List TokI} (h : w1.ownsRow w.heap.size 24 3 v l.length (tiCells l)) (hs : w.heap.size < w1.heap.size) : ∃ A c g, v = .slice A l.length c ∧ l.length ≤ c ∧ c ≤ maxLen ∧ TksI w1 A l ∧ Left l A g 0 w1 ∧ w.heap.size ≤ g ∧ g < w1.heap.size := by
  obtain ⟨A, c, e, hc, hcm, hT, hA⟩ := own_tksi h rfl
  rcases h.2 with ⟨_, h0⟩ | ⟨g, cap, cur, e2, hb, hg, h3, h4, hz, ht⟩
  · refine ⟨A, c, w.heap.size, e, hc, hcm, hT, ⟨fun hm => by omega⟩, Nat.le_refl _, hs⟩
  · rw [e] at e2
    injection e2 with e3 e4 e5
    refine ⟨A, c, g, e, hc, hcm, hT, ⟨fun _ => ⟨e3, cur, hg, fun i _ hi => ?_⟩⟩, hb, lt_of_block hg⟩
    obtain ⟨t0, t1, t2⟩ := tiCells_at l i hi
    have hcur : ∀ k, k < l.length * 3 → cur[k]? = (tiCells l)[k]? := fun k hk => by
      rw [← ht, List.getElem?_take, if_pos hk]; simp
    exact ⟨(hcur _ (by omega)).trans t0, (hcur _ (by omega)).trans t1, (hcur _ (by omega)).trans t2⟩
theorem tksi_other {w W : World} {A : Option Addr} {l : List TokI} {g : Nat} (h : TksI w A l) (hg : w.grownBy W (some g)) (hne : ∀ g' o, A = some ⟨g', o, none⟩ → l ≠ [] → g' ≠ g) : TksI W A l := ⟨fun i hi => by
  obtain ⟨g', o, e, h0, h1, h2⟩ := h.out i hi
  have hlt := World.block_lt_of_cell? w _ h0
  have hn := hne g' o e (by rintro rfl; simp at hi)
  have hc : ∀ k, W.cell? ⟨g', k, none⟩ = w.cell? ⟨g', k, none⟩ := fun k => World.cell?_of_block (hg.block g' hlt (fun e => hn (by injection e)))
  exact ⟨g', o, e, (hc _).trans h0, (hc _).trans h1, (hc _).trans h2⟩⟩
theorem tbox_other {b : Nat} {T : Tr} {A : Option Addr} {c : Nat} {w W : World} {g : Nat} (h : TBox b T A c w) (hg : w.grownBy W (some g)) (hne : b ≠ g) : TBox b T A c W := fun j => by
  have h0 : w.cell? ⟨b, 0, none⟩ = some (.bool T.l) := h 0
  have hlt : b < w.heap.size := World.block_lt_of_cell? w _ h0
  exact (World.cell?_of_block (hg.block b hlt (fun e => hne (by injection e)))).trans (h j)
theorem var0_other {w W : World} {g : Nat} (h : Var0 w) (hg : w.grownBy W (some g)) (hne : g ≠ 0) : Var0 W := by
  obtain ⟨m, hm⟩ := h
  exact ⟨m, (World.cell?_of_block (hg.block 0 (World.block_lt_of_cell? w _ hm) (fun e => hne (by injection e with e; exact e.symm)))).trans hm⟩
theorem lies_other {w W : World} {B : Nat → Prop} {F : Forest} {A : Option Addr} {g : Nat} (h : LiesB B w F A 0) (hg : w.grownBy W (some g)) (hne : ∀ b, B b → b ≠ g) : Lies W F A 0 :=
  (h.kept (kept_grown hg fun b hb e => hne b hb (by injection e with e; exact e.symm))).lies

/-- Two tokens that are one. -/
theorem run_neq_tok (W : World) (k : Int) (x : ByteArray) (a : Int) : (binOp .neq 24 (.agg #[.int .u8 k, .string x, .int .i64 a]) (.agg #[.int .u8 k, .string x, .int .i64 a])).run Tryd.prog W = .ok (.bool false) W := by
  have u0 := Tryd.underlying22
  have u1 := Tryd.underlying9
  have u2 := Tryd.underlying3
  have hS : Tryd.prog.underlying 24 = some (.struct (Tryd.prog.fieldsOf 24)) := by kernel_rfl
  have hp : Tryd.prog.stoodInHeld 24 = false := by kernel_rfl
  rw [run_neq_struct, show (10000 : Nat) = 9999 + 1 from rfl, run_equalIn_agg W 9999 24 _ _ hS hp]
  simp only [Program.fieldsOf, Tryd.underlying24]
  go_simp
theorem run_guard_tok (W : World) (x y : Operand) (xs ys : Array Value) : (eqGuard .neq 24 x y (.agg xs) (.agg ys)).run Tryd.prog W = .ok () W := run_eqGuard_agg W .neq _ x y xs ys (by kernel_rfl)

/-- What stands all through. -/
structure RGood (w : World) (l : List TokI) (A A1 : Option Addr) (g b1 b2 : Nat) (T : Tr) (A2 A4 : Option Addr) (c2 c4 : Nat) (W : World) : Prop where
  v : Var0 W
  t : TksI W A l
  i : TksI W A1 l
  left : Left l A1 g 0 W
  f1 : LiesB (fun b => g < b) W T.F A2 0
  f2 : LiesB (fun b => g < b) W T.F A4 0
  x1 : TBox b1 T A2 c2 W
  x2 : TBox b2 T A4 c4 W
  bel : Below w.heap.size w W
theorem RGood.below {w : World} {l : List TokI} {A A1 : Option Addr} {g b1 b2 : Nat} {T : Tr} {A2 A4 : Option Addr} {c2 c4 : Nat} {W W2 : World} (h : RGood w l A A1 g b1 b2 T A2 A4 c2 c4 W) (hb : Below W.heap.size W W2) : RGood w l A A1 g b1 b2 T A2 A4 c2 c4 W2 :=
  ⟨h.v.below hb, h.t.below hb, h.i.below hb, h.left.kept hb, h.f1.kept (kept_below hb), h.f2.kept (kept_below hb), h.x1.below hb, h.x2.below hb, bel_trans h.bel hb⟩

set_option maxHeartbeats 2000000 in
set_option maxRecDepth 100000 in
theorem law_reads (l : List TokI) (A : Option Addr) (c : Nat) (z : Int) (w : World) (hv : Var0 w) (hT : TksI w A l) (hc : l.length ≤ c) (hcm : c ≤ maxLen) (hn : A = none → l = [] ∧ c = 0) :
    Calls Tryd.prog 5 #[.slice A l.length c, .int .i64 z] w fun e w' => e = .returned (.bool true) ∧ Below w.heap.size w w' := by
  have hl9 : l.length ≤ 9223372036854775807 := Nat.le_trans hc hcm
  by_cases h3000 : 3000 < l.length
  · have d0 : decide ((3000 : Int) < (l.length : Int)) = true := by simp; omega
    have KN := Lib.hid (known_calls w hv)
    clear h3000
    go_enter Tryd.func5, Tryd.ntmps5
    go_wp2_with (go_at_call 9; refine KN.out.mono ?_; rintro e w1 ⟨rfl, hb1⟩)
    go_ret
    exact ⟨rfl, hb1⟩
  · have d0 : decide ((3000 : Int) < (l.length : Int)) = false := by simp; omega
    have hll : l.length ≤ 1048576 := by omega
    have HN := Lib.hid hn
    have hT0 := hT.below ((Below.refl _ w).alloc (Nat.le_refl _) (.cells #[] 24))
    have HT0 := Lib.hid hT0
    have h0w : 0 < w.heap.size := by
      obtain ⟨m, hm⟩ := hv
      exact World.block_lt_of_cell? w _ hm
    obtain ⟨R, hR⟩ : ∃ R, R = nextS l z := ⟨_, rfl⟩
    obtain ⟨T, n, er⟩ := R
    obtain ⟨RA, hRA⟩ : ∃ R, R = allL l 0 := ⟨_, rfl⟩
    obtain ⟨F, at_, ea⟩ := RA
    have HR := Lib.hid hR
    have HRA := Lib.hid hRA
    clear hn h3000 hT0 hR hRA
    go_enter Tryd.func5, Tryd.ntmps5
    go_wp2_with (at_builtin; (refine append_toks w.heap.size rfl _ _ rfl _ rfl (own_empty_toks w) A c l rfl HT0.out HN.out (by simp) hll ?_); intro v1 w1 ho1 hg1; (replace hg1 : (w.alloc (.cells #[] 24)).grownBy w1 (some w.heap.size) := hg1); (have hs1 : w.heap.size < w1.heap.size := by have := hg1.size; rw [World.size_alloc] at this; omega); (obtain ⟨A1, c1, g, rfl, hc1, hcm1, hT1, hL1, hg0, hgl⟩ := copied ho1 hs1))
    have hb1 : Below w.heap.size w w1 := ((Below.refl _ w).alloc (Nat.le_refl _) _).grown hg1 (by simp) (fun k hk => by injection hk; omega)
    clear ho1 hg1
    refine (tnext_calls l A1 c1 z w1 hT1 hc1 hcm1 hll).mono ?_
    rw [← HR.out]
    rintro e w2 ⟨A2, c2, rfl, q1, q2, q3, hb2⟩
    simp only [Tr.v]
    dsimp only at q1 q3
    go_wp2_with fail
    obtain ⟨w3, hw3⟩ : ∃ w3, w3 = w2.alloc (.cells #[.bool T.l, .int .u8 T.k, .string (bstr T.x), .int .i64 T.a, .slice A2 T.F.len c2] 27) := ⟨_, rfl⟩
    have hb3 : Below w2.heap.size w2 w3 := by rw [hw3]; exact (Below.refl _ w2).alloc (Nat.le_refl _) _
    have hx3 : TBox w2.heap.size T A2 c2 w3 := by rw [hw3]; exact TBox.new w2 T A2 c2
    rw [← hw3]
    have hb03 : Below w.heap.size w w3 := bel_trans hb1 (bel_trans hb2 hb3)
    refine (rnext_calls l A c z w3 (hT.below hb03) hc hcm hll).mono ?_
    rw [← HR.out]
    rintro e w4 ⟨A4, c4, rfl, r1, r2, r3, hb4⟩
    simp only [Tr.v]
    dsimp only at r1 r3
    obtain ⟨w5, hw5⟩ : ∃ w5, w5 = w4.alloc (.cells #[.bool T.l, .int .u8 T.k, .string (bstr T.x), .int .i64 T.a, .slice A4 T.F.len c4] 27) := ⟨_, rfl⟩
    have hb5 : Below w4.heap.size w4 w5 := by rw [hw5]; exact (Below.refl _ w4).alloc (Nat.le_refl _) _
    have hb35 : Below w3.heap.size w3 w5 := bel_trans hb4 hb5
    have hb15 : Below w1.heap.size w1 w5 := bel_trans (bel_trans hb2 hb3) hb35
    have hgw2 : g < w2.heap.size := Nat.lt_of_lt_of_le hgl hb2.size
    have hgw4 : g < w4.heap.size := Nat.lt_of_lt_of_le hgw2 (Nat.le_trans hb3.size hb4.size)
    have hgw3 : g < w3.heap.size := Nat.lt_of_lt_of_le hgw2 hb3.size
    have hG : RGood w l A A1 g w2.heap.size w4.heap.size T A2 A4 c2 c4 w5 :=
      ⟨hv.below (bel_trans hb1 hb15), hT.below (bel_trans hb1 hb15), hT1.below hb15, hL1.kept hb15, (q3.imp (fun b hb => Nat.lt_of_lt_of_le hgl hb)).kept (kept_below (bel_trans hb3 hb35)),
        (r3.imp (fun b hb => Nat.lt_of_lt_of_le hgw3 hb)).kept (kept_below hb5), hx3.below hb35, by rw [hw5]; exact TBox.new w4 T A4 c4, bel_trans hb1 hb15⟩
    have hx1 := hG.x1
    have hx2 := hG.x2
    rw [hw5] at hx1 hx2
    have i0 := hx1 0
    have i1 := hx1 1
    have i2 := hx1 2
    have i3 := hx1 3
    have i4 := hx1 4
    have j0 := hx2 0
    have j1 := hx2 1
    have j2 := hx2 2
    have j3 := hx2 3
    have j4 := hx2 4
    have HW5 := Lib.hid hw5
    clear hx1 hx2 hw5 hw3 hx3 q3 r3 hT1 hL1 hb1 hb2 hb3 hb03 hb4 hb5 hb35 hb15
    go_wp2_with fail
    rw [← HW5.out]
    clear i0 i1 i2 i3 i4 j0 j1 j2 j3 j4
    refine (rsame_calls T.F T.F T.l T.l T.k T.k T.x T.x T.a T.a A2 A4 c2 c4 w5 hG.f1.lies hG.f2.lies q1 q2 r1 r2).mono ?_
    rw [eqT_refl]
    rintro e w6 ⟨rfl, hb6⟩
    have hG6 := hG.below hb6
    clear hG hb6 HW5
    go_wp2_with fail
    refine (tall_calls l A1 c1 w6 hG6.i hc1 hcm1 hll).mono ?_
    rw [← HRA.out]
    rintro e w7 ⟨B1, d1, rfl, p1, p2, p3, hb7⟩
    dsimp only at p1 p3 ⊢
    have hG7 := hG6.below hb7
    have hg6 : g < w6.heap.size := by
      have := World.block_lt_of_cell? w6 ⟨w2.heap.size, 0, none⟩ (hG6.x1 0)
      dsimp only at this
      omega
    clear hG6
    go_wp2_with fail
    refine (rall_calls l A c w7 hG7.t hc hcm hll).mono ?_
    rw [← HRA.out]
    rintro e w8 ⟨B2, d2, rfl, s1, s2, s3, hb8⟩
    dsimp only at s1 s3 ⊢
    have hG8 := hG7.below hb8
    have hF1 : LiesB (fun b => g < b) w8 F B1 0 := (p3.imp (fun b hb => Nat.lt_of_lt_of_le hg6 hb)).kept (kept_below hb8)
    have hF2 : LiesB (fun b => g < b) w8 F B2 0 := s3.imp (fun b hb => Nat.lt_of_lt_of_le (Nat.lt_of_lt_of_le hg6 hb7.size) hb)
    have HALL : Hid (∀ W, w8.grownBy W (some g) → Var0 W ∧ TksI W A l ∧ Lies W T.F A2 0 ∧ Lies W T.F A4 0 ∧ TBox w2.heap.size T A2 c2 W ∧ TBox w4.heap.size T A4 c4 W ∧ Lies W F B1 0 ∧ Lies W F B2 0 ∧ Below w.heap.size w W) := fun W hW =>
      ⟨var0_other hG8.v hW (by omega), tksi_other hG8.t hW (fun g' o e hne => by
          obtain ⟨g2, o2, e2, h0, _⟩ := hT.out 0 (List.length_pos_iff.2 hne)
          rw [e] at e2; cases e2
          have := World.block_lt_of_cell? w _ h0
          dsimp only at this
          omega),
        lies_other hG8.f1 hW (fun b hb => by omega), lies_other hG8.f2 hW (fun b hb => by omega), tbox_other hG8.x1 hW (by omega), tbox_other hG8.x2 hW (by omega),
        lies_other hF1 hW (fun b hb => by omega), lies_other hF2 hW (fun b hb => by omega), hG8.bel.grown hW hG8.bel.size (fun k hk => by injection hk; omega)⟩
    have HLF := Lib.hid hG8.left
    clear hG7 hG8 hF1 hF2 p3 s3 hb7 hb8
    go_wp2
    go_loopw [18] (fun v wr => ∃ m : Nat, v = .int .i64 (m : Int) ∧ m ≤ l.length ∧ Hid (w8.grownBy wr (some g)) ∧ Hid (Left l A1 g m wr)) (fun v _ => l.length - (intOf v).toNat)
    case atStart => exact ⟨0, rfl, Nat.zero_le _, World.grownBy.refl _ _, HLF.out⟩
    case round =>
      obtain ⟨m, rfl, hm, hgr, hlf⟩ := hrel
      obtain ⟨hv9, ht9, f1, f2, x1, x2, g1, g2, hb9⟩ := HALL.out wr hgr.out
      by_cases hlt : m < l.length
      · obtain ⟨rfl, cur, hblk, -⟩ := hlf.out.out hlt
        obtain ⟨z0, z1, z2⟩ := hlf.out.at_ hlt
        obtain ⟨g', o', rfl, y0, y1, y2⟩ := ht9.out m hlt
        have dd1 : decide ((m : Int) < (l.length : Int)) = true := by simp; omega
        have HS : Hid (∀ k u, Hid (w8.grownBy ((wr.drewN k).setCell ⟨g, m * 3 + 1, none⟩ u) (some g)) ∧ Hid (Left l (some ⟨g, 0, none⟩) g (m + 1) ((wr.drewN k).setCell ⟨g, m * 3 + 1, none⟩ u))) := fun k u => ⟨gb_set (gb_drewN hgr.out k) _ _, hlf.out.set k u⟩
        have hfr : wr.frozen? ⟨g, m * 3 + 1, none⟩ = false := by simp [World.frozen?, hblk]
        have hne := run_neq_tok
        have hgd := run_guard_tok
        clear hv9 ht9 f1 f2 x1 x2 g1 g2 hb9 hblk hgr hlf
        generalize l[m].kind = k at *
        generalize l[m].text = x at *
        generalize l[m].at_ = a at *
        go_wp2
        go_quiet (fail)
        go_wp2
        go_round
        case rel => exact ⟨m + 1, by go_num, hlt, (HS.out _ _).1, (HS.out _ _).2⟩
        case measure => simp [intOf]; omega
      · obtain rfl : m = l.length := by omega
        have dd1 : decide ((l.length : Int) < (l.length : Int)) = false := by simp
        have HG9 : Hid (∀ W, Below wr.heap.size wr W → Var0 W ∧ Lies W T.F A2 0 ∧ Lies W T.F A4 0 ∧ TBox w2.heap.size T A2 c2 W ∧ TBox w4.heap.size T A4 c4 W ∧ Below w.heap.size w W) := fun W hW => ⟨hv9.below hW, f1.below hW, f2.below hW, x1.below hW, x2.below hW, bel_trans hb9 hW⟩
        have hsa := sameAll_calls F F B1 B2 d1 d2 wr g1 g2 p1 p2 s1 s2
        rw [eqF_refl] at hsa
        have HSA := Lib.hid hsa
        clear hsa hv9 ht9 f1 f2 x1 x2 g1 g2 hb9 hgr hlf
        go_wp2_with (first | (go_at_call 21; refine HSA.out.mono ?_; rintro e w9 ⟨rfl, hb9⟩; obtain ⟨v9, l1, l2, x1, x2, bw9⟩ := HG9.out w9 hb9; have i0 := x1 0; have i1 := x1 1; have i2 := x1 2; have i3 := x1 3; have i4 := x1 4; have j0 := x2 0; have j1 := x2 1; have j2 := x2 2; have j3 := x2 3; have j4 := x2 4) | (go_at_call 16; refine (rsame_calls T.F T.F T.l T.l T.k T.k T.x T.x T.a T.a A2 A4 c2 c4 w9 l1 l2 q1 q2 r1 r2).mono ?_; rw [eqT_refl]; rintro e w10 ⟨rfl, hb10⟩; have bw10 := bel_trans bw9 hb10) | (go_at_call 9; refine (known_calls w10 (v9.below hb10)).mono ?_; rintro e w11 ⟨rfl, hb11⟩; have bw11 := bel_trans bw10 hb11))
        go_ret
        exact ⟨rfl, bw11⟩
end Go.Proofs.YtppbijbgnhmdaaaDoor

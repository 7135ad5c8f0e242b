/- The reference's Copy. -/
import Derived.Test.YtppbijbgnhmdaaaDoorTreeOwn
import Derived.Deep.RegionHeld3
import Derived.Deep.RegionLaw
import Derived.Deep.DrawnRows
namespace Go.Proofs.YtppbijbgnhmdaaaDoor
open Go.RowKit Forest
attribute [local go_sem ↓] Go.wp_at_zero Go.wp_at_succ

theorem info_tree : (Tryd.prog.info? 27).map (fun i => (i.zero, i.size, i.bytes)) = some (some (.agg #[.bool false, .int .u8 0, .string ⟨#[]⟩, .int .i64 0, .slice none 0 0]), 5, 64) := by kernel_rfl

/-- A tree's box, written anew. -/
theorem set5 {W : World} {H : Nat} {cs : Array Value} {t : TypeId} (h : W.heap[H]? = some (.cells cs t (0, 0))) (hs : cs.size = 5) (v0 v1 v2 v3 v4 : Value) :
    (((((W.setCell ⟨H, 0, none⟩ v0).setCell ⟨H, 1, none⟩ v1).setCell ⟨H, 2, none⟩ v2).setCell ⟨H, 3, none⟩ v3).setCell ⟨H, 4, none⟩ v4).heap[H]? = some (.cells #[v0, v1, v2, v3, v4] t (0, 0)) :=
  setCells_row h #[v0, v1, v2, v3, v4] hs.symm
theorem below_set5 {B : Nat} {w W : World} (h : Below B w W) {H : Nat} (hH : B ≤ H) (v0 v1 v2 v3 v4 : Value) :
    Below B w (((((W.setCell ⟨H, 0, none⟩ v0).setCell ⟨H, 1, none⟩ v1).setCell ⟨H, 2, none⟩ v2).setCell ⟨H, 3, none⟩ v3).setCell ⟨H, 4, none⟩ v4) :=
  ((((h.setCell (p := ⟨H, 0, none⟩) hH _).setCell (p := ⟨H, 1, none⟩) hH _).setCell (p := ⟨H, 2, none⟩) hH _).setCell (p := ⟨H, 3, none⟩) hH _).setCell (p := ⟨H, 4, none⟩) hH _
theorem kept_set {B : Nat → Prop} {w W : World} (h : KeptB B w W) {H : Nat} (hH : ¬ B H) (o : Nat) (v : Value) : KeptB B w (W.setCell ⟨H, o, none⟩ v) := fun i hi c t fr hc =>
  (Below.heap_setCell _ _ _ i (fun e => hH (by rw [show H = i from e.symm]; exact hi))).trans (h i hi c t fr hc)
theorem kept_set5 {B : Nat → Prop} {W : World} {H : Nat} (hH : ¬ B H) (v0 v1 v2 v3 v4 : Value) :
    KeptB B W (((((W.setCell ⟨H, 0, none⟩ v0).setCell ⟨H, 1, none⟩ v1).setCell ⟨H, 2, none⟩ v2).setCell ⟨H, 3, none⟩ v3).setCell ⟨H, 4, none⟩ v4) :=
  kept_set (kept_set (kept_set (kept_set (kept_set (KeptB.refl _ W) hH _ _) hH _ _) hH _ _) hH _ _) hH _ _

/-- Few trees, of short texts. -/
def SmallF : Forest → Prop
  | .nil => True
  | .cons _ _ x _ kids rest => x.length ≤ 100000 ∧ kids.len ≤ 10000 ∧ SmallF kids ∧ SmallF rest

def CopyDoes (F : Forest) : Prop := ∀ (l : Bool) (k : Int) (x : List UInt8) (a : Int) (A : Option Addr) (c : Nat) (w : World), Lies w F A 0 → F.len ≤ c → c ≤ maxLen → F.len ≤ 10000 → SmallF F →
  Calls Tryd.prog 10 #[.agg #[.bool l, .int .u8 k, .string (bstr x), .int .i64 a, .slice A F.len c]] w fun e w' =>
    ∃ A' c', e = .returned (.agg #[.bool l, .int .u8 k, .string (bstr x), .int .i64 a, .slice A' F.len c']) ∧ F.len ≤ c' ∧ c' ≤ maxLen ∧ LiesB (fun b => w.heap.size ≤ b) w' F A' 0 ∧ Below w.heap.size w w'

/-- The boxes of a call of Copy, and what has been copied. -/
structure CopyAt (w : World) (l : Bool) (k : Int) (x : List UInt8) (a : Int) (A : Option Addr) (n c : Nat) (D : Forest) (v : Value) (W : World) : Prop where
  bel : Below w.heap.size w W
  t : W.cell? ⟨w.heap.size, 4, none⟩ = some (.slice A n c)
  r : W.heap[w.heap.size + 1]? = some (.cells #[.bool false, .int .u8 0, .string ⟨#[]⟩, .int .i64 0, .slice none 0 0] 27 (0, 0))
  c : W.heap[w.heap.size + 2]? = some (.cells #[.bool l, .int .u8 k, .string (bstr x), .int .i64 a, v] 27 (0, 0))
  own : Own W (w.heap.size + 3) v D
  size : w.heap.size + 3 ≤ W.heap.size
theorem copyAt_start (w : World) (l : Bool) (k : Int) (x : List UInt8) (a : Int) (A : Option Addr) (n c : Nat) : CopyAt w l k x a A n c .nil (.slice none 0 0)
    (((w.alloc (.cells #[.bool l, .int .u8 k, .string (bstr x), .int .i64 a, .slice A n c] 27)).alloc (.cells #[.bool false, .int .u8 0, .string ⟨#[]⟩, .int .i64 0, .slice none 0 0] 27)).alloc (.cells #[.bool l, .int .u8 k, .string (bstr x), .int .i64 a, .slice none 0 0] 27)) := by
  have h1 := World.alloc_heap_new w (.cells #[.bool l, .int .u8 k, .string (bstr x), .int .i64 a, .slice A n c] 27)
  have h2 := World.alloc_heap_new (w.alloc (.cells #[.bool l, .int .u8 k, .string (bstr x), .int .i64 a, .slice A n c] 27)) (.cells #[.bool false, .int .u8 0, .string ⟨#[]⟩, .int .i64 0, .slice none 0 0] 27)
  have h3 := World.alloc_heap_new ((w.alloc (.cells #[.bool l, .int .u8 k, .string (bstr x), .int .i64 a, .slice A n c] 27)).alloc (.cells #[.bool false, .int .u8 0, .string ⟨#[]⟩, .int .i64 0, .slice none 0 0] 27)) (.cells #[.bool l, .int .u8 k, .string (bstr x), .int .i64 a, .slice none 0 0] 27)
  rw [World.size_alloc] at h2 h3
  rw [World.size_alloc] at h3
  refine ⟨bel_trans (below_two w _ _) ((Below.refl _ _).alloc (Nat.le_refl _) _), ?_, ?_, h3, Own.nil _ _, by simp [World.size_alloc]⟩
  · exact cell_alloc (cell_alloc (World.cell?_alloc_mark w _ _ (0, 0) 4) _) _
  · exact (Below.heap_alloc _ _ _ (by simp [World.size_alloc])).trans h2
section
variable {w W W2 : World} {l : Bool} {k : Int} {x : List UInt8} {a : Int} {A : Option Addr} {n c : Nat} {D : Forest} {v : Value}
theorem CopyAt.below (h : CopyAt w l k x a A n c D v W) (hb : Below W.heap.size W W2) : CopyAt w l k x a A n c D v W2 :=
  ⟨bel_trans h.bel hb, (hb.cell (World.block_lt_of_cell? W _ h.t)).trans h.t, (hb.block _ (lt_of_block h.r)).trans h.r, (hb.block _ (lt_of_block h.c)).trans h.c, h.own.below hb, Nat.le_trans h.size hb.size⟩
/-- Behind an append of a copy and a store. -/
theorem CopyAt.snoc {T : Tr} {A' : Option Addr} {c' : Nat} {v' : Value} (h : CopyAt w l k x a A n c D v W) (h1 : T.F.len ≤ c') (h2 : c' ≤ maxLen) (h3 : LiesB (fun b => w.heap.size + 3 ≤ b ∧ v.ownBlock ≠ some b) W T.F A' 0)
    (hown : ∀ vs, W.ownsRow (w.heap.size + 3) 27 5 v D.len vs → ElRow (fun b => w.heap.size + 3 ≤ b ∧ v.ownBlock ≠ some b) W D vs → W2.ownsRow (w.heap.size + 3) 27 5 v' (D.len + 1) (vs ++ T.cells A' c')) (hg : W.grownBy W2 v.ownBlock)
    (hat : v'.ownBlock = v.ownBlock ∨ ∃ b, v'.ownBlock = some b ∧ W.heap.size ≤ b) : CopyAt w l k x a A n c (D.app T.f) v' (W2.setCell ⟨w.heap.size + 2, 4, none⟩ v') := by
  have hlt : ∀ g, v.ownBlock = some g → w.heap.size + 3 ≤ g := fun g hg => by obtain ⟨vs, o, _⟩ := h.own.out; exact (o.lt g hg).1
  have hne : ∀ i, i < w.heap.size + 3 → some i ≠ v.ownBlock := fun i hi e => by have := hlt i e.symm; omega
  have hB : Below w.heap.size w W2 := h.bel.grown hg h.bel.size (fun g e => by have := hlt g e; omega)
  have hr := (hg.block _ (lt_of_block h.r) (hne _ (by omega))).trans h.r
  have hc := (hg.block _ (lt_of_block h.c) (hne _ (by omega))).trans h.c
  refine ⟨hB.setCell (p := ⟨w.heap.size + 2, 4, none⟩) (by simp) _, ?_, (Below.heap_setCell _ _ _ _ (by simp)).trans hr, ?_, (h.own.snoc h.size h1 h2 h3 hown hg hat).set (by omega) _ _, by simpa [World.setCell] using Nat.le_trans h.size hg.size⟩
  · have := (hg.cell_far ⟨w.heap.size, 4, none⟩ (World.block_lt_of_cell? W _ h.t) (hne _ (by simp))).trans h.t
    rw [← this]
    exact World.cell?_of_block (Below.heap_setCell _ _ _ _ (by simp))
  · have := heap_setCell_at (o := 4) (v := v') hc
    exact this
end

set_option maxHeartbeats 4000000 in
set_option maxRecDepth 100000 in
theorem copy_walk (F : Forest) (ih : AllKids CopyDoes F) : CopyDoes F := by
  intro l k x a A c w hF hn hc h10 hsm
  have hn9 : F.len ≤ 9223372036854775807 := Nat.le_trans hn hc
  obtain ⟨i0, hi, hz0, hz1, hz2⟩ := info_parts info_tree
  have hst := copyAt_start w l k x a A F.len c
  have hF0 := hF.old.kept (kept_below hst.bel)
  go_enter Tryd.func10, Tryd.ntmps10
  go_wp2
  generalize ((w.alloc (.cells #[.bool l, .int .u8 k, .string (bstr x), .int .i64 a, .slice A F.len c] 27)).alloc (.cells #[.bool false, .int .u8 0, .string ⟨#[]⟩, .int .i64 0, .slice none 0 0] 27)).alloc (.cells #[.bool l, .int .u8 k, .string (bstr x), .int .i64 a, .slice none 0 0] 27) = W0 at *
  go_loopw [4] (fun u wr => ∃ (i : Nat) (D G : Forest) (v : Value), u = .int .i64 (i : Int) ∧ D.len = i ∧ i + G.len = F.len ∧ D.app G = F ∧ LiesB (· < w.heap.size) wr G A i ∧ AllKids CopyDoes G ∧ SmallF G ∧ CopyAt w l k x a A F.len c D v wr) (fun u _ => F.len - (intOf u).toNat)
  case atStart => exact ⟨0, .nil, F, _, rfl, rfl, Nat.zero_add _, rfl, hF0, ih, hsm, hst⟩
  case round =>
    obtain ⟨i, D, G, v, rfl, hD, hlen, happ, hG, hK, hsG, hat⟩ := hrel
    have c4 := hat.t
    have HD := Lib.hid hD
    have HAPP := Lib.hid happ
    clear hD happ
    cases G with
    | nil =>
      have hil : i = F.len := by simpa [Forest.len] using hlen
      subst hil
      obtain rfl : D = F := by have := HAPP.out; rwa [Forest.app_nil] at this
      obtain ⟨A', c', rfl, e1, e2, e3⟩ := hat.own.trees
      have e4 := Lib.hid e3
      have HC := hat.c
      have HR := hat.r
      have cc : ∀ j u, (#[Value.bool l, .int .u8 k, .string (bstr x), .int .i64 a, .slice A' D.len c'] : Array Value)[j]? = some u → wr.cell? ⟨w.heap.size + 1 + 1, j, none⟩ = some u := fun j u hj => by
        rw [cell_of_row wr (w.heap.size + 2) j _ _ _ hat.c]; exact hj
      have d0 := cc 0 _ rfl
      have d1 := cc 1 _ rfl
      have d2 := cc 2 _ rfl
      have d3 := cc 3 _ rfl
      have d4 := cc 4 _ rfl
      have cq : ∀ j u, (#[.bool false, .int .u8 0, .string ⟨#[]⟩, .int .i64 0, .slice none 0 0] : Array Value)[j]? = some u → wr.cell? ⟨w.heap.size + 1, j, none⟩ = some u := fun j u hj => by
        rw [cell_of_row wr (w.heap.size + 1) j _ _ _ hat.r]; exact hj
      have q0 := cq 0 _ rfl
      have q1 := cq 1 _ rfl
      have q2 := cq 2 _ rfl
      have q3 := cq 3 _ rfl
      have q4 := cq 4 _ rfl
      have r0 := frozen_of_row wr (w.heap.size + 1) 0 _ _ hat.r
      have r1 := frozen_of_row wr (w.heap.size + 1) 1 _ _ hat.r
      have r2 := frozen_of_row wr (w.heap.size + 1) 2 _ _ hat.r
      have r3 := frozen_of_row wr (w.heap.size + 1) 3 _ _ hat.r
      have r4 := frozen_of_row wr (w.heap.size + 1) 4 _ _ hat.r
      have HAT := Lib.hid hat
      clear hG hK hsG hlen e3 HC HR cc cq hat
      go_wp2
      refine bodyPost_ret (results_cell_row rfl _ _ (w.heap.size + 1) 27 _ (0, 0) _ rfl (set5 HAT.out.r rfl _ _ _ _ _) Tryd.underlying27 rfl (by kernel_rfl)) rfl ⟨A', c', rfl, e1, e2, ?_, below_set5 HAT.out.bel (by omega) _ _ _ _ _⟩
      exact (e4.out.kept (kept_set5 (by omega) _ _ _ _ _)).imp (fun b hb => by omega)
    | cons l' k' x' a' kids rest =>
      have hlt : i < F.len := by simp [Forest.len] at hlen; omega
      obtain ⟨⟨g, o, rfl, hgw, h0, h1, h2, h3, A', c', h4, h5, h6, h7⟩, hr⟩ := hG
      obtain ⟨f1, f2, f3, f4⟩ := hsG
      have hcall : ∀ W, Below wr.heap.size wr W → _ := fun W hb => hK.1 l' k' x' a' A' c' W (h7.lies.below hb) h5 h6 f2 f3
      have HC := Lib.hid hcall
      have d4 : wr.cell? ⟨w.heap.size + 1 + 1, 4, none⟩ = some v := by rw [cell_of_row wr (w.heap.size + 2) 4 _ _ _ hat.c]; rfl
      have hth := there_row hat.c
      have fr4 : wr.frozen? ⟨w.heap.size + 1 + 1, 4, none⟩ = false := (hth 4 (by simp)).2
      clear hth
      have HR := Lib.hid hr
      have HK := Lib.hid hK.2
      have HAT := Lib.hid hat
      have hsz := hat.size
      have hg := World.block_lt_of_cell? wr _ h0
      have HG : Hid (g < w.heap.size) := hgw
      have hD10 : D.len ≤ 10000 := by have := HD.out; omega
      have hown2 : ∀ W, Below wr.heap.size wr W → ∀ vs, wr.ownsRow (w.heap.size + 3) 27 5 v D.len vs → W.ownsRow (w.heap.size + 3) 27 5 v D.len vs := fun W hb vs ho => ho.kept (gb_below hb none) (by cases v.ownBlock with | none => exact .inl rfl | some g => exact .inr (by simp))
      have HOWN2 := Lib.hid hown2
      clear hown2
      have hi0 : (0 : Int) ≤ (i : Int) := Int.natCast_nonneg _
      have hi1 : (i : Int) < (F.len : Int) := by omega
      clear hcall hat hr hK h7
      obtain ⟨vs, HOWN, HEL⟩ : ∃ vs, Hid (wr.ownsRow (w.heap.size + 3) 27 5 v D.len vs) ∧ Hid (ElRow (fun b => w.heap.size + 3 ≤ b ∧ v.ownBlock ≠ some b) wr D vs) := HAT.out.own.out
      have hvb : ∀ b, b < w.heap.size + 3 → v.ownBlock ≠ some b := fun b hb e => by have := (HOWN.out.lt b e).1; omega
      have hgv : v.ownBlock ≠ some g := fun e => by
        have h9 := HG.out
        have := (HOWN.out.lt g e).1
        omega
      have HS : Hid (∀ W, wr.grownBy W v.ownBlock → W.cell? ⟨w.heap.size + 1 + 1, 4, none⟩ = some v ∧ W.frozen? ⟨w.heap.size + 1 + 1, 4, none⟩ = false ∧ W.cell? ⟨w.heap.size, 4, none⟩ = some (.slice (some ⟨g, o, none⟩) F.len c) ∧
          W.cell? ⟨g, o + i * 5, none⟩ = some (.bool l') ∧ W.cell? ⟨g, o + i * 5 + 1, none⟩ = some (.int .u8 k') ∧ W.cell? ⟨g, o + i * 5 + 2, none⟩ = some (.string (bstr x')) ∧ W.cell? ⟨g, o + i * 5 + 3, none⟩ = some (.int .i64 a') ∧ W.cell? ⟨g, o + i * 5 + 4, none⟩ = some (.slice A' kids.len c')) := fun W hW =>
        ⟨(hW.cell_far ⟨w.heap.size + 1 + 1, 4, none⟩ (show w.heap.size + 1 + 1 < wr.heap.size by omega) (fun e => hvb _ (by simp) e.symm)).trans d4, (hW.frozen_far ⟨w.heap.size + 1 + 1, 4, none⟩ (show w.heap.size + 1 + 1 < wr.heap.size by omega) (fun e => hvb _ (by simp) e.symm)).trans fr4, (hW.cell_far ⟨w.heap.size, 4, none⟩ (show w.heap.size < wr.heap.size by omega) (fun e => hvb _ (by simp) e.symm)).trans c4,
          (hW.cell_far ⟨g, o + i * 5, none⟩ hg (fun e => hgv e.symm)).trans h0, (hW.cell_far ⟨g, o + i * 5 + 1, none⟩ hg (fun e => hgv e.symm)).trans h1, (hW.cell_far ⟨g, o + i * 5 + 2, none⟩ hg (fun e => hgv e.symm)).trans h2, (hW.cell_far ⟨g, o + i * 5 + 3, none⟩ hg (fun e => hgv e.symm)).trans h3, (hW.cell_far ⟨g, o + i * 5 + 4, none⟩ hg (fun e => hgv e.symm)).trans h4⟩
      clear hvb hgv
      go_wp2
      go_region_law
        (first
          | (refine step_append_lies _ (by rfl) _ _ _ (by rfl) (w.heap.size + 3) 27 i0 _ 5 64 Tryd.underlying25 hi hz0 hz1 hz2 rfl (by omega) v D.len vs (by rfl) ((HOWN2.out _ hb2 _ HOWN.out).alloc _) ⟨w2.heap.size, 0, none⟩ 1 1 ((Tr.mk l' k' x' a' kids).cells A2 c2) (by rfl) (by rfl) (World.news_of_block (cs := #[Value.bool l', Value.int .u8 k', Value.string (bstr x'), Value.int .i64 a', Value.slice A2 kids.len c2]) (t := 27) (fr := (0, 0)) (heap_alloc_new w2 _)) (by simp [Tr.cells, Value.oneCell']) (by omega) (by simp only [maxLen]; omega) (by omega) (by have := hb2.size; simp; omega) (w2.heap.size + 1) (by simp) ?_; intro g3 cap3 w3 hown3 hgrow3 hat3 hlt3; (obtain ⟨p1, p2, _, _⟩ := HS.out _ (gb_trans (gb_below (hb2.alloc hb2.size _) _) hgrow3)))
          | (go_simp; go_at_call 10; refine (HC.out _ (by first | exact .refl _ _ | exact (Below.refl _ _).drew)).mono ?_; rintro e w2 ⟨A2, c2, rfl, e1, e2, e3, hb2⟩; (replace hb2 : Below wr.heap.size wr w2 := bel_trans (Below.refl _ wr).drew hb2); (replace e3 : LiesB (fun b => wr.heap.size ≤ b) w2 kids A2 0 := e3); (obtain ⟨p1, p2, _, _⟩ := HS.out _ (gb_below hb2 _)); (have p3 := (HS.out (w2.alloc (.cells #[Value.bool l', Value.int .u8 k', Value.string (bstr x'), Value.int .i64 a', Value.slice A2 kids.len c2] 27)) (gb_below (hb2.alloc hb2.size _) _)).1)))
      all_goals
        have hg2 : (w2.alloc (.cells #[Value.bool l', Value.int .u8 k', Value.string (bstr x'), Value.int .i64 a', Value.slice A2 kids.len c2] 27)).grownBy w3 v.ownBlock := hgrow3
        have hat2 := (HAT.out.below hb2).below ((Below.refl _ w2).alloc (Nat.le_refl _) (.cells #[Value.bool l', Value.int .u8 k', Value.string (bstr x'), Value.int .i64 a', Value.slice A2 kids.len c2] 27))
        have hkO : KeptB (fun _ => True) w2 (w2.alloc (.cells #[Value.bool l', Value.int .u8 k', Value.string (bstr x'), Value.int .i64 a', Value.slice A2 kids.len c2] 27)) := (KeptB.refl _ _).alloc _
        have hag : CopyAt w l k x a (some ⟨g, o, none⟩) F.len c (D.app (Tr.mk l' k' x' a' kids).f) (.slice (some ⟨g3, 0, none⟩) (D.len + 1) cap3) (w3.setCell ⟨w.heap.size + 2, 4, none⟩ (.slice (some ⟨g3, 0, none⟩) (D.len + 1) cap3)) := by
          refine hat2.snoc (T := Tr.mk l' k' x' a' kids) (A' := A2) (c' := c2) e1 e2 ?_ ?_ hg2 (hat3.imp (fun e => e.symm) (fun e => ⟨_, rfl, by rw [e]; simp⟩))
          · refine (e3.kept (hkO.mono (fun _ _ => trivial))).imp fun b hb => ⟨by omega, fun e => ?_⟩
            have := (HOWN.out.lt b e).2
            omega
          · intro vs' ho _
            obtain rfl := ownsRow_one ho ((HOWN2.out _ hb2 _ HOWN.out).alloc _)
            exact hown3
        have HAG := Lib.hid hag
        have HR3 : Hid (LiesB (· < w.heap.size) (w3.setCell ⟨w.heap.size + 2, 4, none⟩ (.slice (some ⟨g3, 0, none⟩) (D.len + 1) cap3)) rest (some ⟨g, o, none⟩) (i + 1)) :=
          HR.out.kept (kept_set (((kept_below (hb2.alloc hb2.size _)).trans (kept_grown hg2 (fun b hb e => by have := (HOWN.out.lt b e).1; omega)))) (by omega) _ _)
        clear hag hown3 hgrow3 hat3 hlt3 e1 e2 e3 hg2 hat2 hkO
        go_wp2
        go_round
        case rel => exact ⟨i + 1, D.app (Tr.mk l' k' x' a' kids).f, rest, _, by go_num, by rw [Forest.len_app, HD.out]; rfl, by simp [Forest.len] at hlen; omega, by rw [Forest.app_assoc]; exact HAPP.out, HR3.out, HK.out, f4, HAG.out⟩
        case measure => simp [intOf]; omega
theorem copy_calls : ∀ F, CopyDoes F := kids_induct copy_walk
end Go.Proofs.YtppbijbgnhmdaaaDoor

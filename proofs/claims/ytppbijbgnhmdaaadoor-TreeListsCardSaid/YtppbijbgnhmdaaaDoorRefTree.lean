/- The reference's tree. -/
import Derived.Test.YtppbijbgnhmdaaaDoorNextSpec
import Derived.Test.YtppbijbgnhmdaaaDoorRefCopy
namespace Go.Proofs.YtppbijbgnhmdaaaDoor
open Go.RowKit Forest
attribute [local go_sem ↓] Go.wp_at_zero Go.wp_at_succ

theorem run_subT (W : World) (g o n cap p q : Nat) (hpq : p < q) (hqc : q ≤ cap) :
    (Instr.slice 37 (.slice (some ⟨g, o, none⟩) n cap) (some (.int .i64 ((p : Nat) : Int))) (some (.int .i64 ((q : Nat) : Int))) none).run Tryd.prog W = .ok (.slice (some ⟨g, o + p * 3, none⟩) (q - p) (cap - p)) W := by
  have hs : (sizeOf (Tryd.prog.elem 37)).run Tryd.prog W = .ok 3 W := by kernel_rfl
  have hne : ¬ cap = p := by omega
  rw [run_slice_lh W 37 (some ⟨g, o, none⟩) n cap (by kernel_rfl) .i64 .i64 p q (by omega) (by omega) (by omega), hs]
  simp [Result.andThen, sliced, hne, Addr.add_mid]
theorem TksI.sub {w : World} {g o : Nat} {l : List TokI} (h : TksI w (some ⟨g, o, none⟩) l) (p n : Nat) : TksI w (some ⟨g, o + p * 3, none⟩) ((l.drop p).take n) := ⟨fun i hi => by
  have hi2 : p + i < l.length := by simp at hi; omega
  obtain ⟨g', o', e, h0, h1, h2⟩ := h.out (p + i) hi2
  cases e
  have e3 : o + p * 3 + i * 3 = o + (p + i) * 3 := by omega
  refine ⟨g, o + p * 3, rfl, ?_, ?_, ?_⟩
  · rw [e3]; simpa using h0
  · rw [e3]; simpa using h1
  · rw [e3]; simpa using h2⟩

/-- The result's box, the list's box, and its trees so far. -/
structure TreeAt (w : World) (kd : Int) (tx : List UInt8) (a : Int) (D : Forest) (v : Value) (W : World) : Prop where
  bel : Below w.heap.size w W
  r : W.heap[w.heap.size]? = some (.cells #[.bool false, .int .u8 0, .string ⟨#[]⟩, .int .i64 0, .slice none 0 0] 27 (0, 0))
  c : W.heap[w.heap.size + 1]? = some (.cells #[.bool true, .int .u8 kd, .string (bstr tx), .int .i64 a, v] 27 (0, 0))
  own : Own W (w.heap.size + 2) v D
  size : w.heap.size + 2 ≤ W.heap.size
theorem treeAt_start (w : World) (kd : Int) (tx : List UInt8) (a : Int) : TreeAt w kd tx a .nil (.slice none 0 0)
    ((w.alloc (.cells #[.bool false, .int .u8 0, .string ⟨#[]⟩, .int .i64 0, .slice none 0 0] 27)).alloc (.cells #[.bool true, .int .u8 kd, .string (bstr tx), .int .i64 a, .slice none 0 0] 27)) := by
  have h2 := World.alloc_heap_new w (.cells #[.bool false, .int .u8 0, .string ⟨#[]⟩, .int .i64 0, .slice none 0 0] 27)
  have h3 := World.alloc_heap_new (w.alloc (.cells #[.bool false, .int .u8 0, .string ⟨#[]⟩, .int .i64 0, .slice none 0 0] 27)) (.cells #[.bool true, .int .u8 kd, .string (bstr tx), .int .i64 a, .slice none 0 0] 27)
  rw [World.size_alloc] at h3
  exact ⟨below_two w _ _, (Below.heap_alloc _ _ _ (by simp [World.size_alloc])).trans h2, h3, Own.nil _ _, by simp [World.size_alloc]⟩
section
variable {w W W2 : World} {kd : Int} {tx : List UInt8} {a : Int} {D : Forest} {v : Value}
theorem TreeAt.below (h : TreeAt w kd tx a D v W) (hb : Below W.heap.size W W2) : TreeAt w kd tx a D v W2 :=
  ⟨bel_trans h.bel hb, (hb.block _ (lt_of_block h.r)).trans h.r, (hb.block _ (lt_of_block h.c)).trans h.c, h.own.below hb, Nat.le_trans h.size hb.size⟩
theorem TreeAt.snoc {T : Tr} {A' : Option Addr} {c' : Nat} {v' : Value} (h : TreeAt w kd tx a D v W) (h1 : T.F.len ≤ c') (h2 : c' ≤ maxLen) (h3 : LiesB (fun b => w.heap.size + 2 ≤ b ∧ v.ownBlock ≠ some b) W T.F A' 0)
    (hown : ∀ vs, W.ownsRow (w.heap.size + 2) 27 5 v D.len vs → ElRow (fun b => w.heap.size + 2 ≤ b ∧ v.ownBlock ≠ some b) W D vs → W2.ownsRow (w.heap.size + 2) 27 5 v' (D.len + 1) (vs ++ T.cells A' c')) (hg : W.grownBy W2 v.ownBlock)
    (hat : v'.ownBlock = v.ownBlock ∨ ∃ b, v'.ownBlock = some b ∧ W.heap.size ≤ b) : TreeAt w kd tx a (D.app T.f) v' (W2.setCell ⟨w.heap.size + 1, 4, none⟩ v') := by
  have hlt : ∀ g, v.ownBlock = some g → w.heap.size + 2 ≤ g := fun g hg => by obtain ⟨vs, o, _⟩ := h.own.out; exact (o.lt g hg).1
  have hne : ∀ i, i < w.heap.size + 2 → some i ≠ v.ownBlock := fun i hi e => by have := hlt i e.symm; omega
  have hB : Below w.heap.size w W2 := h.bel.grown hg h.bel.size (fun g e => by have := hlt g e; omega)
  have hr := (hg.block _ (lt_of_block h.r) (hne _ (by omega))).trans h.r
  have hc := (hg.block _ (lt_of_block h.c) (hne _ (by omega))).trans h.c
  refine ⟨hB.setCell (p := ⟨w.heap.size + 1, 4, none⟩) (Nat.le_succ _) _, (Below.heap_setCell _ _ _ _ (by simp)).trans hr, ?_, (h.own.snoc h.size h1 h2 h3 hown hg hat).set (by omega) _ _, by simpa [World.setCell] using Nat.le_trans h.size hg.size⟩
  have := heap_setCell_at (o := 4) (v := v') hc
  exact this
end

/-- What a call that hands back a tree does. -/
def GivesTree (w : World) (T : Tr) (e : Ending) (w' : World) : Prop := ∃ A c, e = .returned (T.v A c) ∧ T.F.len ≤ c ∧ c ≤ maxLen ∧ LiesB (fun b => w.heap.size ≤ b) w' T.F A 0 ∧ Below w.heap.size w w'
def RTreeDoes (n : Nat) : Prop := ∀ (l : List TokI) (T : Tr) (A : Option Addr) (c : Nat) (w : World), l.length ≤ n → oneL l = some (T, l.length) → TksI w A l → l.length ≤ c → c ≤ maxLen → l.length ≤ 1048576 →
  Calls Tryd.prog 36 #[.slice A l.length c] w (GivesTree w T)

set_option maxHeartbeats 4000000 in
set_option maxRecDepth 100000 in
theorem rtree_walk (n : Nat) (ih : RTreeDoes n) : RTreeDoes (n + 1) := by
  intro l T A c w hn hone hT hc hcm hl
  obtain ⟨i0, hi, hz0, hz1, hz2⟩ := info_parts info_tree
  cases l with
  | nil => cases hone
  | cons t r =>
    have hne : (0 : Int) < ((t :: r).length : Int) := by simp
    obtain ⟨g, o, rfl, h0, h1, h2⟩ := hT.out 0 (by simp)
    simp only [List.getElem_cons_zero, Nat.zero_mul, Nat.add_zero] at h0 h1 h2
    have n0 := cell_alloc h0 (.cells #[.bool false, .int .u8 0, .string ⟨#[]⟩, .int .i64 0, .slice none 0 0] 27)
    have n1 := cell_alloc h1 (.cells #[.bool false, .int .u8 0, .string ⟨#[]⟩, .int .i64 0, .slice none 0 0] 27)
    have n2 := cell_alloc h2 (.cells #[.bool false, .int .u8 0, .string ⟨#[]⟩, .int .i64 0, .slice none 0 0] 27)
    by_cases k1 : t.kind = 1
    · have e1 : (t.kind != 1) = false := by simp [k1]
      obtain ⟨G, rfl, hG⟩ : ∃ G, T = nodeT t G ∧ kidsL r = some (G, r.length) := by
        unfold oneL at hone
        simp only [if_pos k1] at hone
        cases hq : kidsL r with
        | none => simp [hq] at hone
        | some p =>
          obtain ⟨G, j⟩ := p
          simp only [hq, Option.some.injEq, Prod.mk.injEq] at hone
          refine ⟨G, hone.1.symm, ?_⟩
          have : j = r.length := by have := hone.2; simp at this; exact this
          rw [this]
      clear hone
      have hst := treeAt_start w 1 t.text t.at_
      have hTs : TksI w (some ⟨g, o, none⟩) (t :: r) := hT
      have hlen2 : (t :: r).length = r.length + 1 := rfl
      have hrl : ((t :: r).length : Int) - 1 = (r.length : Int) := by simp
      have hd1 : (t :: r).drop 1 = r := rfl
      have HLEN := Lib.hid hlen2
      have HG := Lib.hid hG
      have HD1 := Lib.hid hd1
      have hN2 : (t :: r).length ≤ r.length + 1 := Nat.le_of_eq hlen2
      have hN3 : r.length + 1 ≤ (t :: r).length := Nat.le_of_eq hlen2.symm
      rw [k1] at h0 n0
      have HK1 := Lib.hid k1
      clear hlen2 hG hd1 hrl k1
      generalize hL : t :: r = L at *
      have HL := Lib.hid hL
      clear hL
      have hTs2 := hTs.below hst.bel
      go_enter Tryd.func36, Tryd.ntmps36
      go_wp2
      generalize ((w.alloc (.cells #[.bool false, .int .u8 0, .string ⟨#[]⟩, .int .i64 0, .slice none 0 0] 27)).alloc (.cells #[.bool true, .int .u8 1, .string (bstr t.text), .int .i64 t.at_, .slice none 0 0] 27)) = W0 at *
      go_loopw [4] (fun u wr => ∃ (p : Nat) (D H : Forest) (v : Value), u = .int .i64 (p : Int) ∧ 1 ≤ p ∧ p + 1 ≤ L.length ∧ kidsL (L.drop p) = some (H, L.length - p) ∧ D.app H = G ∧ D.len ≤ p ∧ TreeAt w 1 t.text t.at_ D v wr) (fun u _ => L.length - (intOf u).toNat)
      case atStart => exact ⟨1, .nil, G, _, rfl, Nat.le_refl _, by have := kidsL_le HG.out; omega, by rw [HD1.out, HG.out]; congr 2; omega, rfl, Nat.zero_le _, hst⟩
      case round =>
        obtain ⟨p, D, H, v, rfl, hp1, hp2, hk, happ, hDp, hat⟩ := hrel
        have hlt : p < L.length := by omega
        have hTr : TksI wr (some ⟨g, o, none⟩) L := hT.below hat.bel
        have hdr := drop_at L p hlt
        by_cases k2 : L[p].kind = 2
        · rw [hdr, kidsL_close _ _ k2] at hk
          obtain ⟨rfl, hpl⟩ : H = .nil ∧ p + 1 = L.length := by
            simp only [Option.some.injEq, Prod.mk.injEq] at hk
            exact ⟨hk.1.symm, by omega⟩
          obtain rfl : D = G := by rwa [Forest.app_nil] at happ
          obtain ⟨A', c', rfl, q1, q2, q3⟩ := hat.own.trees
          have q4 := Lib.hid q3
          have cc : ∀ j u, (#[Value.bool true, .int .u8 1, .string (bstr t.text), .int .i64 t.at_, .slice A' D.len c'] : Array Value)[j]? = some u → wr.cell? ⟨w.heap.size + 1, j, none⟩ = some u := fun j u hj => by
            rw [cell_of_row wr (w.heap.size + 1) j _ _ _ hat.c]; exact hj
          have d0 := cc 0 _ rfl
          have d1 := cc 1 _ rfl
          have d2 := cc 2 _ rfl
          have d3 := cc 3 _ rfl
          have d4 := cc 4 _ rfl
          have cq : ∀ j u, (#[.bool false, .int .u8 0, .string ⟨#[]⟩, .int .i64 0, .slice none 0 0] : Array Value)[j]? = some u → wr.cell? ⟨w.heap.size, j, none⟩ = some u := fun j u hj => by
            rw [cell_of_row wr w.heap.size j _ _ _ hat.r]; exact hj
          have z0 := cq 0 _ rfl
          have z1 := cq 1 _ rfl
          have z2 := cq 2 _ rfl
          have z3 := cq 3 _ rfl
          have z4 := cq 4 _ rfl
          have r0 := frozen_of_row wr w.heap.size 0 _ _ hat.r
          have r1 := frozen_of_row wr w.heap.size 1 _ _ hat.r
          have r2 := frozen_of_row wr w.heap.size 2 _ _ hat.r
          have r3 := frozen_of_row wr w.heap.size 3 _ _ hat.r
          have r4 := frozen_of_row wr w.heap.size 4 _ _ hat.r
          have HAT := Lib.hid hat
          have dlt : decide ((p : Int) < (L.length : Int) - 1) = false := by simp; omega
          have HPL := Lib.hid hpl
          clear cc cq hat q3 hdr hk happ hpl hTr
          go_wp2
          refine bodyPost_ret (results_cell_row rfl _ _ w.heap.size 27 _ (0, 0) _ rfl (set5 HAT.out.r rfl _ _ _ _ _) Tryd.underlying27 rfl (by kernel_rfl)) rfl ⟨A', c', ?_, q1, q2, ?_, below_set5 HAT.out.bel (Nat.le_refl _) _ _ _ _ _⟩
          · show _ = Ending.returned (.agg #[.bool true, .int .u8 t.kind, .string (bstr t.text), .int .i64 t.at_, .slice A' D.len c'])
            rw [HK1.out]
          · exact (q4.out.kept (kept_set5 (by omega) _ _ _ _ _)).imp (fun b hb => by omega)
        · rw [hdr] at hk
          obtain ⟨T1, i, H1, hone, hij, hk1, hH⟩ := kidsL_step _ _ k2 hk
          rw [← hdr] at hone hk1
          rw [List.drop_drop] at hk1
          have hi1 := oneL_le hone
          have hend : endV (endR (L.drop p) 0 p) = ((p + i : Nat) : Int) := by
            rw [hdr] at hone ⊢
            rw [endR_one _ _ _ k2, hone]; rfl
          have hpi : p + i ≤ L.length := by have := hi1.2; simp at this; omega
          have hcallE := end_calls (some ⟨g, o, none⟩) c L p wr hTr (by omega) (by omega)
          rw [hend] at hcallE
          have hcallT : ∀ W, Below wr.heap.size wr W → Calls Tryd.prog 36 #[.slice (some ⟨g, o + p * 3, none⟩) i (c - p)] W (GivesTree W T1) := fun W hb => by
            have hlt2 : ((L.drop p).take i).length = i := by simp; omega
            have := ih ((L.drop p).take i) T1 (some ⟨g, o + p * 3, none⟩) (c - p) W (by rw [hlt2]; omega) (by rw [hlt2]; exact oneL_take hone) ((hTr.below hb).sub p i) (by rw [hlt2]; omega) (by omega) (by rw [hlt2]; omega)
            rwa [hlt2] at this
          have hsl := fun W => run_subT W g o L.length c p (p + i) (by omega) (by omega)
          simp only [Nat.add_sub_cancel_left] at hsl
          have HCT := Lib.hid hcallT
          have HK := Lib.hid hk1
          have HH := Lib.hid hH
          have HAPP := Lib.hid happ
          have HAT := Lib.hid hat
          have hsz := hat.size
          have dlt : decide ((p : Int) < (L.length : Int) - 1) = true := by simp; omega
          have d4 : wr.cell? ⟨w.heap.size + 1, 4, none⟩ = some v := by rw [cell_of_row wr (w.heap.size + 1) 4 _ _ _ hat.c]; rfl
          have fr4 : wr.frozen? ⟨w.heap.size + 1, 4, none⟩ = false := frozen_of_row wr (w.heap.size + 1) 4 _ _ hat.c
          obtain ⟨vs, HOWN, HEL⟩ : ∃ vs, Hid (wr.ownsRow (w.heap.size + 2) 27 5 v D.len vs) ∧ Hid (ElRow (fun b => w.heap.size + 2 ≤ b ∧ v.ownBlock ≠ some b) wr D vs) := HAT.out.own.out
          have HS : Hid (∀ W, wr.grownBy W v.ownBlock → W.cell? ⟨w.heap.size + 1, 4, none⟩ = some v ∧ W.frozen? ⟨w.heap.size + 1, 4, none⟩ = false) := fun W hW =>
            have hvb : some (w.heap.size + 1) ≠ v.ownBlock := fun e => by have := (HOWN.out.lt _ e.symm).1; omega
            ⟨(hW.cell_far ⟨w.heap.size + 1, 4, none⟩ (show w.heap.size + 1 < wr.heap.size by omega) hvb).trans d4, (hW.frozen_far ⟨w.heap.size + 1, 4, none⟩ (show w.heap.size + 1 < wr.heap.size by omega) hvb).trans fr4⟩
          have HOWN2 : Hid (∀ W, Below wr.heap.size wr W → ∀ vs, wr.ownsRow (w.heap.size + 2) 27 5 v D.len vs → W.ownsRow (w.heap.size + 2) 27 5 v D.len vs) := fun W hb vs ho => ho.kept (gb_below hb none) (by cases v.ownBlock with | none => exact .inl rfl | some g => exact .inr (by simp))
          clear hcallT hk1 hH happ hat hone hend hk hdr hTr
          go_wp2_with fail
          refine hcallE.mono ?_
          clear hcallE
          rintro e w1 ⟨rfl, rfl⟩
          simp only [Int.natCast_add] at hsl
          go_wp2
          go_region_law
            (first
              | (refine step_append_lies _ (by rfl) _ _ _ (by rfl) (w.heap.size + 2) 27 i0 _ 5 64 Tryd.underlying25 hi hz0 hz1 hz2 rfl (by omega) v D.len vs (by rfl) ((HOWN2.out _ hb2 _ HOWN.out).alloc _) ⟨w2.heap.size, 0, none⟩ 1 1 (T1.cells A2 c2) (by rfl) (by rfl) (World.news_of_block (cs := #[Value.bool T1.l, Value.int .u8 T1.k, Value.string (bstr T1.x), Value.int .i64 T1.a, Value.slice A2 T1.F.len c2]) (t := 27) (fr := (0, 0)) (heap_alloc_new w2 _)) (by simp [Tr.cells, Value.oneCell']) (by omega) (by simp only [maxLen]; omega) (by omega) (by have := hb2.size; simp; omega) (w2.heap.size + 1) (by simp) ?_; intro g3 cap3 w3 hown3 hgrow3 hat3 hlt3; (obtain ⟨p1, p2⟩ := HS.out _ (gb_trans (gb_below (hb2.alloc hb2.size _) _) hgrow3)))
              | (go_simp; go_at_call 36; refine (HCT.out _ (by first | exact .refl _ _ | exact (Below.refl _ _).drew)).mono ?_; rintro e w2 ⟨A2, c2, rfl, q1, q2, q3, hb2⟩; (replace hb2 : Below wr.heap.size wr w2 := bel_trans (Below.refl _ wr).drew hb2); (replace q3 : LiesB (fun b => wr.heap.size ≤ b) w2 T1.F A2 0 := q3); (simp only [Tr.v]); (obtain ⟨p1, p2⟩ := HS.out _ (gb_below hb2 _)); (have p3 := (HS.out (w2.alloc (.cells #[Value.bool T1.l, Value.int .u8 T1.k, Value.string (bstr T1.x), Value.int .i64 T1.a, Value.slice A2 T1.F.len c2] 27)) (gb_below (hb2.alloc hb2.size _) _)).1)))
          all_goals
            have hg2 : (w2.alloc (.cells #[Value.bool T1.l, Value.int .u8 T1.k, Value.string (bstr T1.x), Value.int .i64 T1.a, Value.slice A2 T1.F.len c2] 27)).grownBy w3 v.ownBlock := hgrow3
            have hat2 := (HAT.out.below hb2).below ((Below.refl _ w2).alloc (Nat.le_refl _) (.cells #[Value.bool T1.l, Value.int .u8 T1.k, Value.string (bstr T1.x), Value.int .i64 T1.a, Value.slice A2 T1.F.len c2] 27))
            have hkO : KeptB (fun _ => True) w2 (w2.alloc (.cells #[Value.bool T1.l, Value.int .u8 T1.k, Value.string (bstr T1.x), Value.int .i64 T1.a, Value.slice A2 T1.F.len c2] 27)) := (KeptB.refl _ _).alloc _
            have hag : TreeAt w 1 t.text t.at_ (D.app T1.f) (.slice (some ⟨g3, 0, none⟩) (D.len + 1) cap3) (w3.setCell ⟨w.heap.size + 1, 4, none⟩ (.slice (some ⟨g3, 0, none⟩) (D.len + 1) cap3)) := by
              refine hat2.snoc (T := T1) (A' := A2) (c' := c2) q1 q2 ?_ ?_ hg2 (hat3.imp (fun e => e.symm) (fun e => ⟨_, rfl, by rw [e]; simp⟩))
              · refine (q3.kept (hkO.mono (fun _ _ => trivial))).imp fun b hb => ⟨by omega, fun e => ?_⟩
                have := (HOWN.out.lt b e).2
                omega
              · intro vs' ho _
                obtain rfl := ownsRow_one ho ((HOWN2.out _ hb2 _ HOWN.out).alloc _)
                exact hown3
            have HAG := Lib.hid hag
            clear hag hown3 hgrow3 hat3 hlt3 q1 q2 q3 hg2 hat2 hkO
            go_wp2
            go_round
            case rel => exact ⟨p + i, D.app T1.f, H1, _, by go_num, by omega, by have := kidsL_le HK.out; simp at this; omega, by rw [HK.out]; congr 2; omega, by rw [Forest.app_assoc, ← HH.out]; exact HAPP.out, by rw [Forest.len_app, Tr.len_f]; omega, HAG.out⟩
            case measure => simp [intOf]; omega
    · have e1 : (t.kind != 1) = true := by simpa using k1
      have hTT : T = leafT t := by
        unfold oneL at hone
        simp only [if_neg k1, Option.some.injEq, Prod.mk.injEq] at hone
        exact hone.1.symm
      subst hTT
      clear hone
      generalize (t :: r).length = N at *
      go_enter Tryd.func36, Tryd.ntmps36
      go_wp2
      refine bodyPost_ret (results_cell_row rfl _ _ w.heap.size 27 _ (0, 0) _ rfl (heap_alloc_new w _) Tryd.underlying27 rfl (by kernel_rfl)) rfl ⟨none, 0, rfl, Nat.le_refl _, Nat.zero_le _, trivial, (Below.refl _ w).alloc (Nat.le_refl _) _⟩
theorem rtree_calls : ∀ n, RTreeDoes n
  | 0 => fun l T A c w hn h _ _ _ _ => by
    obtain rfl : l = [] := List.eq_nil_of_length_eq_zero (by omega)
    cases h
  | n + 1 => rtree_walk n (rtree_calls n)
end Go.Proofs.YtppbijbgnhmdaaaDoor

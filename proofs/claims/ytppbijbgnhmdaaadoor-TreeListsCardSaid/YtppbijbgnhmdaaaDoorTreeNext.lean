/- tree.Next. -/
import Derived.Test.YtppbijbgnhmdaaaDoorTreeStack
import Derived.Deep.RegionLaw
import Derived.Deep.DrawnRows
import Derived.Deep.DeepCutAuto
import Derived.Deep.CutBlock
namespace Go.Proofs.YtppbijbgnhmdaaaDoor
open Go.RowKit Forest
attribute [local go_sem ↓] Go.wp_at_zero Go.wp_at_succ

theorem NxAt.len {w : World} {l : List TokI} {p i : Nat} {d : Bool} {fs : List Frm} {st : List (TokI × Forest)} {g c : Nat} {W : World} (h : NxAt w l p i d fs st g c W) : fs.length = st.length + 1 := by
  have := congrArg List.length h.same
  simpa using this
theorem nxAt_start (w : World) (l : List TokI) (p : Nat) (hp : p ≤ l.length) : NxAt w l p p false [⟨zeroTr, none, 0⟩] [] (w.heap.size + 1) 1
    ((w.alloc (.cells #[.bool false, .int .u8 0, .string ⟨#[]⟩, .int .i64 0, .slice none 0 0] 27)).alloc (.cells #[.bool false, .int .u8 0, .string ⟨#[]⟩, .int .i64 0, .slice none 0 0] 27)) := by
  have h2 := World.alloc_heap_new w (.cells #[.bool false, .int .u8 0, .string ⟨#[]⟩, .int .i64 0, .slice none 0 0] 27)
  have h3 := World.alloc_heap_new (w.alloc (.cells #[.bool false, .int .u8 0, .string ⟨#[]⟩, .int .i64 0, .slice none 0 0] 27)) (.cells #[.bool false, .int .u8 0, .string ⟨#[]⟩, .int .i64 0, .slice none 0 0] 27)
  rw [World.size_alloc] at h3
  refine ⟨Nat.le_refl _, hp, below_two w _ _, (Below.heap_alloc _ _ _ (by simp [World.size_alloc])).trans h2, ⟨?_, ?_, ?_, ?_⟩, by simp [World.size_alloc], rfl, rfl, by simp, ?_, fun _ => rfl⟩
  · exact ⟨rfl, .inr ⟨w.heap.size + 1, 1, _, rfl, Nat.le_refl _, h3, Nat.le_refl _, by simp [maxLen], rfl, rfl⟩⟩
  · intro f hf
    obtain rfl : f = ⟨zeroTr, none, 0⟩ := by simpa using hf
    exact ⟨[], World.ownsRow_nil _ _ _ _, rfl⟩
  · intro f hf
    obtain rfl : f = ⟨zeroTr, none, 0⟩ := by simpa using hf
    exact .inl rfl
  · exact List.pairwise_singleton _ _
  · intro f hf
    obtain rfl : f = ⟨zeroTr, none, 0⟩ := by simpa using hf
    exact Nat.zero_le _
/-- append(stack, list) of a list that opens: behind at_builtin; the goal's world is the list's box over W. -/
theorem append_open {ops : Array Oper} {rest : List Oper} {o : Oper} {a : Act} {Q : Exit → Act → World → Prop} {W : World} (base : Nat) (hgd : o.guard = none) (s x : Operand)
    (ho : o.op = .call { callee := .builtin .append, args := #[s, x], argTypes := #[25, 25] })
    (g n c : Nat) (fs : List Frm) (hn : n = fs.length) (HO : StkAt W base (.slice (some ⟨g, 0, none⟩) n c) fs) (T : Tr) (hT : T.F = .nil)
    (hs : a.eval s = .slice (some ⟨g, 0, none⟩) n c) (H : Nat) (hx : a.eval x = .slice (some ⟨H, 0, none⟩) 1 1) (hH : H = W.heap.size) (hbase : base ≤ W.heap.size) (hl : n + 1 ≤ 2199023255552)
    (h : ∀ g1 c1 w1, StkAt w1 base (.slice (some ⟨g1, 0, none⟩) (n + 1) c1) (⟨T, none, 0⟩ :: fs) → W.grownBy w1 (some g) → wpList Tryd.prog ops Q rest (a.put o.dst (.slice (some ⟨g1, 0, none⟩) (n + 1) c1)) w1) :
    wpList Tryd.prog ops Q (o :: rest) a (W.alloc (.cells #[.bool T.l, .int .u8 T.k, .string (bstr T.x), .int .i64 T.a, .slice none 0 0] 27)) := by
  subst hn
  have e1 : T.cells none 0 = [.bool T.l, .int .u8 T.k, .string (bstr T.x), .int .i64 T.a, .slice none 0 0] := by simp [Tr.cells, hT, Forest.len]
  refine append_one base hgd s x 25 27 _ 5 64 ho Tryd.underlying25 info_tree rfl (by omega) (by omega) (.slice (some ⟨g, 0, none⟩) fs.length c) fs.length (stCells fs) #[.bool T.l, .int .u8 T.k, .string (bstr T.x), .int .i64 T.a, .slice none 0 0] rfl hs H hx hH (by simp [Value.oneCell']) HO.row hbase (by omega) ?_
  intro v1 w1 hown hg hat _
  have hst := HO.push T hT (by rw [e1]; exact hown) hg hat
  rcases hown.2 with ⟨_, hz⟩ | ⟨g1, c1, cur, rfl, _⟩
  · omega
  · exact h g1 c1 w1 hst hg
theorem NxAt.opened {w : World} {l : List TokI} {p i : Nat} {d d' : Bool} {fs : List Frm} {st : List (TokI × Forest)} {g c g1 c1 : Nat} {W w1 : World} (h : NxAt w l p i d fs st g c W) (hlt : i < l.length) (hk : l[i].kind = 1) (hd : d' = (d || decide (200 ≤ st.length)))
    (hs : StkAt w1 (w.heap.size + 1) (.slice (some ⟨g1, 0, none⟩) (fs.length + 1) c1) (⟨nodeT l[i] .nil, none, 0⟩ :: fs)) (hg : W.grownBy w1 (some g)) : NxAt w l p (i + 1) d' (⟨nodeT l[i] .nil, none, 0⟩ :: fs) ((l[i], .nil) :: st) g1 c1 w1 := by
  have hgl := h.stk.row_lt g rfl
  have hrun := h.run
  rw [drop_at l i hlt] at hrun
  rw [runM_open _ _ _ _ _ hk, ← hd] at hrun
  refine ⟨by have := h.pi; omega, hlt, h.bel.grown hg h.bel.size (fun k e => by injection e with e; omega), (hg.block _ (lt_of_block h.r) (fun e => by injection e with e; omega)).trans h.r, hs, Nat.le_trans h.size hg.size, by rw [List.map_cons, h.same]; rfl, hrun, ?_, ?_, fun e => by cases e⟩
  · have := h.few
    have := h.pi
    simp only [List.length_cons]; omega
  · intro f hf
    rcases List.mem_cons.1 hf with rfl | hf
    · exact Nat.zero_le _
    · have := h.small f hf
      omega

set_option maxHeartbeats 40000000 in
set_option maxRecDepth 100000 in
theorem tnext_calls (l : List TokI) (A : Option Addr) (c : Nat) (frm : Int) (w : World) (hT : TksI w A l) (_hc : l.length ≤ c) (_hcm : c ≤ maxLen) (hl : l.length ≤ 1048576) :
    Calls Tryd.prog 17 #[.slice A l.length c, .int .i64 frm] w (NextPost w (nextS l frm)) := by
  obtain ⟨i0, hi, hz0, hz1, hz2⟩ := info_parts info_tree
  have hf : Tryd.f17.results = #[.cell 4 27, .tmp 5, .tmp 6] := rfl
  by_cases hneg : frm < 0
  · have HN : Hid (nextS l frm = (zeroTr, frm, 2)) := by show _ = _; unfold nextS; rw [if_pos (.inl hneg)]
    rw [HN.out]
    have d0 : decide (frm < 0) = true := by simpa using hneg
    go_enter Tryd.func17, Tryd.ntmps17
    go_wp2
    exact fin3 hf rfl rfl rfl rfl (heap_alloc_new w _) rfl (zero_post w _ _)
  · have d0 : decide (frm < 0) = false := by simpa using hneg
    by_cases hgt : (l.length : Int) < frm
    · have HN : Hid (nextS l frm = (zeroTr, frm, 2)) := by show _ = _; unfold nextS; rw [if_pos (.inr hgt)]
      rw [HN.out]
      have d1 : decide ((l.length : Int) < frm) = true := by simpa using hgt
      go_enter Tryd.func17, Tryd.ntmps17
      go_wp2
      exact fin3 hf rfl rfl rfl rfl (heap_alloc_new w _) rfl (zero_post w _ _)
    · obtain ⟨p, rfl⟩ := Int.eq_ofNat_of_zero_le (show 0 ≤ frm by omega)
      have d1 : decide ((l.length : Int) < (p : Int)) = false := by simpa using hgt
      have hp : p ≤ l.length := by omega
      have hS0 := nextS_nat l p hp
      by_cases hfirst : ∃ h : p < l.length, l[p].kind = 2
      · obtain ⟨hlt, k2⟩ := hfirst
        have hdr := drop_at l p hlt
        rw [hdr, nextT_close _ _ _ _ k2] at hS0
        rw [hS0]
        obtain ⟨g, o, rfl, h0, h1, h2⟩ := hT.out p hlt
        have n0 := cell_alloc h0 (.cells #[.bool false, .int .u8 0, .string ⟨#[]⟩, .int .i64 0, .slice none 0 0] 27)
        have hi0 : (0 : Int) ≤ (p : Int) := Int.natCast_nonneg _
        have hi1 : (p : Int) < (l.length : Int) := by omega
        have d2 : decide ((p : Int) < (l.length : Int)) = true := by simp; omega
        clear hS0 hdr hT
        generalize l[p].kind = k at *
        subst k2
        go_enter Tryd.func17, Tryd.ntmps17
        go_wp2
        exact fin3 hf rfl rfl rfl rfl (heap_alloc_new w _) rfl (zero_post w _ _)
      · have hst := nxAt_start w l p hp
        have HF := Lib.hid hfirst
        have hTs := hT.below hst.bel
        have HS0 := Lib.hid hS0
        have hT0 := hT
        -- the test ahead of the loop, both ways
        have hcase : (p = l.length) ∨ (∃ h : p < l.length, ∃ k : Int, l[p].kind = k ∧ (k == 2) = false) := by
          by_cases h : p < l.length
          · exact .inr ⟨h, _, rfl, by have := fun e => hfirst ⟨h, e⟩; simpa using this⟩
          · exact .inl (by omega)
        clear hfirst hS0
        rcases hcase with rfl | ⟨hlt, k, hk, e2⟩
        · have d2 : decide ((l.length : Int) < (l.length : Int)) = false := by simp
          have hr9 := hst.r
          have HR9 := Lib.hid hr9
          have HB9 := Lib.hid hst.bel
          have HNX : Hid (nextS l (l.length : Int) = (zeroTr, (l.length : Int), 4)) := by
            show _ = _
            have := HS0.out
            rwa [List.drop_eq_nil_of_le (Nat.le_refl _)] at this
          have cq : ∀ j u, (#[.bool false, .int .u8 0, .string ⟨#[]⟩, .int .i64 0, .slice none 0 0] : Array Value)[j]? = some u → ((w.alloc (.cells #[.bool false, .int .u8 0, .string ⟨#[]⟩, .int .i64 0, .slice none 0 0] 27)).alloc (.cells #[.bool false, .int .u8 0, .string ⟨#[]⟩, .int .i64 0, .slice none 0 0] 27)).cell? ⟨w.heap.size, j, none⟩ = some u := fun j u hj => by
            rw [cell_of_row _ w.heap.size j _ _ _ hr9]; exact hj
          have z0 := cq 0 _ rfl
          have z1 := cq 1 _ rfl
          have z2 := cq 2 _ rfl
          have z3 := cq 3 _ rfl
          have z4 := cq 4 _ rfl
          have r0 := frozen_of_row _ w.heap.size 0 _ _ hr9
          have r1 := frozen_of_row _ w.heap.size 1 _ _ hr9
          have r2 := frozen_of_row _ w.heap.size 2 _ _ hr9
          have r3 := frozen_of_row _ w.heap.size 3 _ _ hr9
          have r4 := frozen_of_row _ w.heap.size 4 _ _ hr9
          clear cq hr9 hst HS0
          go_enter Tryd.func17, Tryd.ntmps17
          go_wp2
          generalize ((w.alloc (.cells #[.bool false, .int .u8 0, .string ⟨#[]⟩, .int .i64 0, .slice none 0 0] 27)).alloc (.cells #[.bool false, .int .u8 0, .string ⟨#[]⟩, .int .i64 0, .slice none 0 0] 27)) = W0 at *
          go_loopw [9] (fun x wr => x = .int .i64 (l.length : Int) ∧ wr = W0) (fun _ _ => 0)
          case atStart => exact ⟨rfl, rfl⟩
          case round =>
            obtain ⟨rfl, rfl⟩ := hrel
            go_wp2
            exact fin3 hf rfl rfl rfl rfl (set5 HR9.out rfl _ _ _ _ _) rfl (by rw [HNX.out]; exact ⟨none, 0, rfl, Nat.le_refl _, Nat.zero_le _, trivial, below_set5 HB9.out (Nat.le_refl _) _ _ _ _ _⟩)
        · have HK2 : Hid (l[p].kind ≠ 2) := fun e => HF.out ⟨hlt, e⟩
          obtain ⟨g, o, rfl, h0, h1, h2⟩ := hT.out p hlt
          rw [hk] at h0
          have n0 := cell_alloc h0 (.cells #[.bool false, .int .u8 0, .string ⟨#[]⟩, .int .i64 0, .slice none 0 0] 27)
          have hi0 : (0 : Int) ≤ (p : Int) := Int.natCast_nonneg _
          have hi1 : (p : Int) < (l.length : Int) := by omega
          have d2 : decide ((p : Int) < (l.length : Int)) = true := by simp; omega
          clear hk
          go_enter Tryd.func17, Tryd.ntmps17
          go_wp2
          clear h0 n0 h1 h2
          generalize ((w.alloc (.cells #[.bool false, .int .u8 0, .string ⟨#[]⟩, .int .i64 0, .slice none 0 0] 27)).alloc (.cells #[.bool false, .int .u8 0, .string ⟨#[]⟩, .int .i64 0, .slice none 0 0] 27)) = W0 at *
          go_loopw [7, 8, 9] (fun v u x wr => ∃ (i m g3 c3 : Nat) (d : Bool) (fs : List Frm) (st : List (TokI × Forest)), v = .slice (some ⟨g3, 0, none⟩) (m + 1) c3 ∧ u = .bool d ∧ x = .int .i64 (i : Int) ∧ m = st.length ∧ NxAt w l p i d fs st g3 c3 wr) (fun _ _ x _ => l.length - (intOf x).toNat)
          case atStart => exact ⟨p, 0, _, _, _, _, _, rfl, rfl, rfl, rfl, hst⟩
          case round =>
            obtain ⟨i, m, g3, c3, d, fs, st, rfl, rfl, rfl, hm, hat⟩ := hrel
            have hii := hat.il
            by_cases hlt2 : i < l.length
            · obtain ⟨g', o', e', h0, h1, h2⟩ := (hT0.below hat.bel).out i hlt2
              cases e'
              have hj0 : (0 : Int) ≤ (i : Int) := Int.natCast_nonneg _
              have hj1 : (i : Int) < (l.length : Int) := by omega
              have d3 : decide ((i : Int) < (l.length : Int)) = true := by simp; omega
              have hdr := drop_at l i hlt2
              have hrun := hat.run
              rw [hdr] at hrun
              have HM := Lib.hid hm
              have HAT := Lib.hid hat
              have HDR := Lib.hid hdr
              have hfl : m + 1 = fs.length := by rw [hat.len, hm]
              have HFL := Lib.hid hfl
              have hstk : StkAt wr (w.heap.size + 1) (.slice (some ⟨g3, 0, none⟩) (m + 1) c3) fs := by have := hat.stk; rwa [← hfl] at this
              have hsz := hat.size
              have hfew : m + 1 ≤ 1048578 := by have := hat.few; omega
              by_cases k1 : l[i].kind = 1
              · rw [k1] at h0
                have HK := Lib.hid k1
                have HO : Hid (∀ g1 c1 w1 d', d' = (d || decide (200 ≤ m)) → StkAt w1 (w.heap.size + 1) (.slice (some ⟨g1, 0, none⟩) (m + 1 + 1) c1) (⟨nodeT l[i] .nil, none, 0⟩ :: fs) → wr.grownBy w1 (some g3) → NxAt w l p (i + 1) d' (⟨nodeT l[i] .nil, none, 0⟩ :: fs) ((l[i], .nil) :: st) g1 c1 w1) := fun g1 c1 w1 d' hd' hs hg => hat.opened hlt2 k1 (by rw [hd', hm]) (by rw [← hfl]; exact hs) hg
                have hTe : nodeT l[i] .nil = ⟨true, 1, l[i].text, l[i].at_, .nil⟩ := by unfold nodeT; rw [k1]
                have HTE := Lib.hid hTe
                have hdd : (d = true) ∨ (d = false ∧ decide ((200 : Int) ≤ (m : Int)) = true ∧ 200 ≤ m) ∨ (d = false ∧ decide ((200 : Int) ≤ (m : Int)) = false ∧ ¬ 200 ≤ m) := by
                  cases d with
                  | true => exact .inl rfl
                  | false =>
                    by_cases h200 : 200 ≤ m
                    · exact .inr (.inl ⟨rfl, by simp; omega, h200⟩)
                    · exact .inr (.inr ⟨rfl, by simp; omega, h200⟩)
                clear hm hat hdr hrun k1 hTe hfl
                rcases hdd with rfl | ⟨rfl, d4, hd5⟩ | ⟨rfl, d4, hd5⟩
                all_goals
                  go_wp2_with (at_builtin; (refine append_open (w.heap.size + 1) rfl _ _ rfl g3 (m + 1) c3 fs HFL.out hstk ⟨true, 1, l[i].text, l[i].at_, .nil⟩ rfl rfl wr.heap.size rfl rfl hsz (by omega) ?_; intro g4 c4 w1 hs1 hg1))
                  go_round
                  case rel => exact ⟨i + 1, m + 1, g4, c4, _, ⟨nodeT l[i] .nil, none, 0⟩ :: fs, (l[i], .nil) :: st, by go_num, rfl, by go_num, by rw [List.length_cons, HM.out], HO.out g4 c4 w1 _ (by simp; try omega) (by rw [HTE.out]; exact hs1) hg1⟩
                  case measure => simp [intOf]; omega
              · have e1 : (l[i].kind == 1) = false := by simpa using k1
                cases hfs : fs with
                | nil => rw [hfs] at hfl; simp at hfl
                | cons f fs' =>
                  subst hfs
                  have hml : fs'.length = m := by simpa using hfl.symm
                  by_cases k2 : l[i].kind = 2
                  · cases hstv : st with
                    | nil =>
                      exfalso
                      have := hat.first hstv
                      subst this
                      exact HK2.out k2
                    | cons q st1 =>
                      obtain ⟨o1, F1⟩ := q
                      subst hstv
                      obtain ⟨m1, rfl⟩ : ∃ m1, m = m1 + 1 := ⟨st1.length, by rw [hm]; rfl⟩
                      have hm1 : m1 = st1.length := by simpa using hm
                      cases hfs' : fs' with
                      | nil => rw [hfs'] at hml; simp at hml
                      | cons f1 fs1 =>
                        subst hfs'
                        have hml1 : fs1.length = m1 := by simpa using hml
                        have hsame := hat.same
                        simp only [List.map_cons, List.cons_append, List.cons.injEq] at hsame
                        have hfT := hsame.1
                        have hstk0 : StkAt wr (w.heap.size + 1) (.slice (some ⟨g3, 0, none⟩) ((f1 :: fs1).length + 1) c3) (f :: f1 :: fs1) := hat.stk
                        have hpop := hstk0.pop
                        have hbA : Below wr.heap.size wr (wr.alloc (.cells #[Value.bool f.T.l, Value.int .u8 f.T.k, Value.string (bstr f.T.x), Value.int .i64 f.T.a, Value.slice f.A f.T.F.len f.c] 27)) := (Below.refl _ wr).alloc (Nat.le_refl _) _
                        have hmid : NxMid w l p i d f1 fs1 st1 f.T g3 c3 (wr.alloc (.cells #[Value.bool f.T.l, Value.int .u8 f.T.k, Value.string (bstr f.T.x), Value.int .i64 f.T.a, Value.slice f.A f.T.F.len f.c] 27)) := by
                          have h1 := hat.run
                          rw [drop_at l i hlt2, runM_close _ _ _ _ _ _ _ k2] at h1
                          rw [← hfT] at h1
                          have hfew9 := hat.few
                          simp only [List.length_cons] at hfew9
                          exact ⟨hat.pi, hlt2, bel_trans hat.bel hbA, (hbA.block _ (lt_of_block hat.r)).trans hat.r, hpop.1.below hbA, Nat.le_trans hat.size hbA.size, hsame.2, h1, by omega, fun k hk => hat.small k (List.mem_cons_of_mem _ hk)⟩
                        have d0c := (hstk0.cell 0 _ rfl).1
                        have d1c := (hstk0.cell 1 _ rfl).1
                        have d2c := (hstk0.cell 2 _ rfl).1
                        have d3c := (hstk0.cell 3 _ rfl).1
                        have d4c := (hstk0.cell 4 _ rfl).1
                        have hc4 := hpop.1.cell 4 f1.v rfl
                        rw [hml] at d0c d1c d2c d3c d4c
                        rw [hml1] at hc4
                        simp only [Nat.add_zero] at d0c
                        obtain ⟨c40, fr40⟩ := hc4
                        have hsl := fun W => run_headT W g3 c3 (m1 + 1 + 1) (m1 + 1) (by have := hstk0.cap_le; simp only [List.length_cons] at this; omega)
                        simp only [Int.natCast_add, Int.natCast_one] at hsl
                        have hob := hpop.1.row_lt g3 rfl
                        have hfo := hpop.1.apart f1 List.mem_cons_self
                        obtain ⟨vs, hko, hke⟩ := hmid.stk.kids f1 List.mem_cons_self
                        simp only [Frm.v] at hko
                        have hvl := hko.1
                        have hbound := hmid.small f1 List.mem_cons_self
                        have hm0 : (0 : Int) ≤ (m1 : Int) := Int.natCast_nonneg _
                        have hm1' : (m1 : Int) < (m1 : Int) + 1 := by omega
                        have hm2' : (m1 : Int) + 1 < (m1 : Int) + 1 + 1 := by omega
                        have hn0 : (0 : Int) ≤ (f1.T.F.len : Int) := Int.natCast_nonneg _
                        have hn1 : (f1.T.F.len : Int) < (f1.T.F.len : Int) + 1 := by omega
                        have hfn : f1.T.F.len ≤ 1048576 := by omega
                        have hfob : ∀ b, f1.own = some b → w.heap.size + 1 ≤ b ∧ b < wr.heap.size := fun b hb => hpop.1.own_lt List.mem_cons_self b hb
                        have hoe : f1.own = (Value.slice f1.A f1.T.F.len f1.c).ownBlock := rfl
                        have hfo2 : (Value.slice f1.A f1.T.F.len f1.c).ownBlock = none ∨ (Value.slice f1.A f1.T.F.len f1.c).ownBlock ≠ some g3 := hfo
                        have hgo : (Value.slice f1.A f1.T.F.len f1.c).ownBlock ≠ some wr.heap.size := fun e => by have := (hfob _ (hoe.trans e)).2; omega
                        have hbx := fun j => World.cell?_alloc_mark wr #[Value.bool f.T.l, Value.int .u8 f.T.k, Value.string (bstr f.T.x), Value.int .i64 f.T.a, Value.slice f.A f.T.F.len f.c] 27 (0, 0) j
                        have e0 : (wr.alloc (.cells #[Value.bool f.T.l, Value.int .u8 f.T.k, Value.string (bstr f.T.x), Value.int .i64 f.T.a, Value.slice f.A f.T.F.len f.c] 27)).cell? ⟨wr.heap.size, 0, none⟩ = some (.bool f.T.l) := hbx 0
                        have e1' : (wr.alloc (.cells #[Value.bool f.T.l, Value.int .u8 f.T.k, Value.string (bstr f.T.x), Value.int .i64 f.T.a, Value.slice f.A f.T.F.len f.c] 27)).cell? ⟨wr.heap.size, 1, none⟩ = some (.int .u8 f.T.k) := hbx 1
                        have e2' : (wr.alloc (.cells #[Value.bool f.T.l, Value.int .u8 f.T.k, Value.string (bstr f.T.x), Value.int .i64 f.T.a, Value.slice f.A f.T.F.len f.c] 27)).cell? ⟨wr.heap.size, 2, none⟩ = some (.string (bstr f.T.x)) := hbx 2
                        have e3 : (wr.alloc (.cells #[Value.bool f.T.l, Value.int .u8 f.T.k, Value.string (bstr f.T.x), Value.int .i64 f.T.a, Value.slice f.A f.T.F.len f.c] 27)).cell? ⟨wr.heap.size, 3, none⟩ = some (.int .i64 f.T.a) := hbx 3
                        have e4 : (wr.alloc (.cells #[Value.bool f.T.l, Value.int .u8 f.T.k, Value.string (bstr f.T.x), Value.int .i64 f.T.a, Value.slice f.A f.T.F.len f.c] 27)).cell? ⟨wr.heap.size, 4, none⟩ = some (.slice f.A f.T.F.len f.c) := hbx 4
                        have E0 := Lib.hid e0
                        have E1 := Lib.hid e1'
                        have E2 := Lib.hid e2'
                        have E3 := Lib.hid e3
                        have E4 := Lib.hid e4
                        have HADD : Hid (∀ (w3 : World) (g5 cap5 : Nat), w3.ownsRow (w.heap.size + 1) 27 5 (.slice (some ⟨g5, 0, none⟩) (f1.T.F.len + 1) cap5) (f1.T.F.len + 1) (vs ++ [.bool false, .int .u8 0, .string ⟨#[]⟩, .int .i64 0, .slice none 0 0]) → ((wr.alloc (.cells #[Value.bool f.T.l, Value.int .u8 f.T.k, Value.string (bstr f.T.x), Value.int .i64 f.T.a, Value.slice f.A f.T.F.len f.c] 27)).alloc (.cells #[.bool false, .int .u8 0, .string ⟨#[]⟩, .int .i64 0, .slice none 0 0] 27)).grownBy w3 (Value.slice f1.A f1.T.F.len f1.c).ownBlock → ((Value.slice f1.A f1.T.F.len f1.c).ownBlock = some g5 ∨ g5 = (wr.alloc (.cells #[Value.bool f.T.l, Value.int .u8 f.T.k, Value.string (bstr f.T.x), Value.int .i64 f.T.a, Value.slice f.A f.T.F.len f.c] 27)).heap.size + 1) →
                            StkAt ((((((w3.setCell ⟨g5, f1.T.F.len * 5, none⟩ (.bool f.T.l)).setCell ⟨g5, f1.T.F.len * 5 + 1, none⟩ (.int .u8 f.T.k)).setCell ⟨g5, f1.T.F.len * 5 + 2, none⟩ (.string (bstr f.T.x))).setCell ⟨g5, f1.T.F.len * 5 + 3, none⟩ (.int .i64 f.T.a)).setCell ⟨g5, f1.T.F.len * 5 + 4, none⟩ (.slice f.A f.T.F.len f.c)).setCell ⟨g3, m1 * 5 + 4, none⟩ (.slice (some ⟨g5, 0, none⟩) (f1.T.F.len + 1) cap5)) (w.heap.size + 1) (.slice (some ⟨g3, 0, none⟩) (fs1.length + 1) c3) (f1.plus f.T g5 cap5 :: fs1) ∧ Added (wr.alloc (.cells #[Value.bool f.T.l, Value.int .u8 f.T.k, Value.string (bstr f.T.x), Value.int .i64 f.T.a, Value.slice f.A f.T.F.len f.c] 27)) g3 0 f1.own g5 ((((((w3.setCell ⟨g5, f1.T.F.len * 5, none⟩ (.bool f.T.l)).setCell ⟨g5, f1.T.F.len * 5 + 1, none⟩ (.int .u8 f.T.k)).setCell ⟨g5, f1.T.F.len * 5 + 2, none⟩ (.string (bstr f.T.x))).setCell ⟨g5, f1.T.F.len * 5 + 3, none⟩ (.int .i64 f.T.a)).setCell ⟨g5, f1.T.F.len * 5 + 4, none⟩ (.slice f.A f.T.F.len f.c)).setCell ⟨g3, m1 * 5 + 4, none⟩ (.slice (some ⟨g5, 0, none⟩) (f1.T.F.len + 1) cap5))) := fun w3 g5 cap5 q1 q2 q3 =>
                          hmid.add f.A f.c hpop.2.1 hpop.2.2.1 (hpop.2.2.2.kept ((KeptB.refl _ _).alloc _)) (zs := [.bool false, .int .u8 0, .string ⟨#[]⟩, .int .i64 0, .slice none 0 0]) rfl hko q1 q2 q3 (by rw [hml1]; rfl)
                        have HMID := Lib.hid hmid
                        have HKO := Lib.hid hko
                        have HVL := Lib.hid hvl
                        have HFO := Lib.hid hfo2
                        have HM1 := Lib.hid hm1
                        have hgs : (wr.alloc (.cells #[Value.bool f.T.l, Value.int .u8 f.T.k, Value.string (bstr f.T.x), Value.int .i64 f.T.a, Value.slice f.A f.T.F.len f.c] 27)).heap.size = wr.heap.size + 1 := World.size_alloc _ _
                        have HGS := Lib.hid hgs
                        have hg3n : g3 < wr.heap.size := hob.2
                        have hg3e : g3 ≠ wr.heap.size := by omega
                        have hg3f : wr.heap.size ≠ g3 := by omega
                        have c4b := cell_alloc c40 (.cells #[Value.bool f.T.l, Value.int .u8 f.T.k, Value.string (bstr f.T.x), Value.int .i64 f.T.a, Value.slice f.A f.T.F.len f.c] 27)
                        have fr4b : (wr.alloc (.cells #[Value.bool f.T.l, Value.int .u8 f.T.k, Value.string (bstr f.T.x), Value.int .i64 f.T.a, Value.slice f.A f.T.F.len f.c] 27)).frozen? ⟨g3, m1 * 5 + 4, none⟩ = false := (hbA.frozen (p := ⟨g3, m1 * 5 + 4, none⟩) hg3n).trans fr40
                        simp only [Frm.v] at c4b
                        clear hm hat hdr hrun k1 hfl hko hke hvl hstk hfo hfo2 hbound hfob hmid hml hml1 hstk0 hpop hm1 hsame hfT hgs hoe hbx c40 fr40 hbA e0 e1' e2' e3 e4
                        go_upto_block 3 with fail
                        go_cut [7, 8, 9, 10] from 41 to 122 (fun s7 s8 s9 s10 wx => ∃ g5 cap5 : Nat, s7 = .slice (some ⟨g3, 0, none⟩) (m1 + 1) c3 ∧ s8 = .bool d ∧ s9 = .int .i64 (i : Int) ∧ s10 = .int .i64 (m1 : Int) ∧ StkAt wx (w.heap.size + 1) (.slice (some ⟨g3, 0, none⟩) (fs1.length + 1) c3) (f1.plus f.T g5 cap5 :: fs1) ∧ Added (wr.alloc (.cells #[Value.bool f.T.l, Value.int .u8 f.T.k, Value.string (bstr f.T.x), Value.int .i64 f.T.a, Value.slice f.A f.T.F.len f.c] 27)) g3 0 f1.own g5 wx)
                        case first =>
                          go_wp2
                          have e0 := E0.out
                          have e1' := E1.out
                          have e2' := E2.out
                          have e3 := E3.out
                          have e4 := E4.out
                          have hsz1 : wr.heap.size < (wr.alloc (.cells #[Value.bool f.T.l, Value.int .u8 f.T.k, Value.string (bstr f.T.x), Value.int .i64 f.T.a, Value.slice f.A f.T.F.len f.c] 27)).heap.size := by rw [HGS.out]; omega
                          have hsz2 : g3 < (wr.alloc (.cells #[Value.bool f.T.l, Value.int .u8 f.T.k, Value.string (bstr f.T.x), Value.int .i64 f.T.a, Value.slice f.A f.T.F.len f.c] 27)).heap.size := by rw [HGS.out]; omega
                          have hsz3 : w.heap.size + 1 ≤ (wr.alloc (.cells #[Value.bool f.T.l, Value.int .u8 f.T.k, Value.string (bstr f.T.x), Value.int .i64 f.T.a, Value.slice f.A f.T.F.len f.c] 27)).heap.size := by rw [HGS.out]; omega
                          clear E0 E1 E2 E3 E4
                          generalize wr.alloc (.cells #[Value.bool f.T.l, Value.int .u8 f.T.k, Value.string (bstr f.T.x), Value.int .i64 f.T.a, Value.slice f.A f.T.F.len f.c] 27) = wr1 at *
                          have ea0 := cell_alloc e0 (.cells #[.bool false, .int .u8 0, .string ⟨#[]⟩, .int .i64 0, .slice none 0 0] 27)
                          have ea1 := cell_alloc e1' (.cells #[.bool false, .int .u8 0, .string ⟨#[]⟩, .int .i64 0, .slice none 0 0] 27)
                          have ea2 := cell_alloc e2' (.cells #[.bool false, .int .u8 0, .string ⟨#[]⟩, .int .i64 0, .slice none 0 0] 27)
                          have ea3 := cell_alloc e3 (.cells #[.bool false, .int .u8 0, .string ⟨#[]⟩, .int .i64 0, .slice none 0 0] 27)
                          have ea4 := cell_alloc e4 (.cells #[.bool false, .int .u8 0, .string ⟨#[]⟩, .int .i64 0, .slice none 0 0] 27)
                          have c4c := cell_alloc c4b (.cells #[.bool false, .int .u8 0, .string ⟨#[]⟩, .int .i64 0, .slice none 0 0] 27)
                          clear d0c d1c d2c d3c d4c h0 h1 h2
                          go_region_law
                            ((refine step_append_lies _ (by rfl) _ _ _ (by rfl) (w.heap.size + 1) 27 i0 _ 5 64 Tryd.underlying25 hi hz0 hz1 hz2 rfl (by omega) (.slice f1.A f1.T.F.len f1.c) f1.T.F.len vs (by rfl) (HKO.out.alloc _) ⟨wr1.heap.size, 0, none⟩ 1 1 [.bool false, .int .u8 0, .string ⟨#[]⟩, .int .i64 0, .slice none 0 0] (by rfl) (by rfl) (World.news_of_block (cs := #[.bool false, .int .u8 0, .string ⟨#[]⟩, .int .i64 0, .slice none 0 0]) (t := 27) (fr := (0, 0)) (heap_alloc_new wr1 _)) (by simp [Value.oneCell']) (by omega) (by simp only [maxLen]; omega) (by omega) (by simp; omega) (wr1.heap.size + 1) (by simp) ?_; intro g5 cap5 w3 hown5 hgrow5 hat5 hlt5; (obtain ⟨⟨p1, p2, p3, p4⟩, pz, pf⟩ := add_facts (m := m1) hown5 HVL.out (by first | exact hgrow5 | exact undrew hgrow5) hat5 HFO.out hsz2 c4b fr4b); (obtain ⟨⟨a0, a1⟩, b0, b1⟩ := pz 0 _ rfl); (obtain ⟨⟨a2, a3⟩, b2, b3⟩ := pz 1 _ rfl); (obtain ⟨⟨a4, a5⟩, b4, b5⟩ := pz 2 _ rfl); (obtain ⟨⟨a6, a7⟩, b6, b7⟩ := pz 3 _ rfl); (obtain ⟨⟨a8, a9⟩, b8, b9⟩ := pz 4 _ rfl); (obtain ⟨x0, y0⟩ := pf _ _ _ hsz1 hgo hg3f e0); (obtain ⟨x1, y1⟩ := pf _ _ _ hsz1 hgo hg3f e1'); (obtain ⟨x2, y2⟩ := pf _ _ _ hsz1 hgo hg3f e2'); (obtain ⟨x3, y3⟩ := pf _ _ _ hsz1 hgo hg3f e3); (obtain ⟨x4, y4⟩ := pf _ _ _ hsz1 hgo hg3f e4); (simp only [Nat.add_zero] at a0 a1 b0 b1); clear pz pf))
                          all_goals
                            (try rw [set5_comm _ p2])
                            have hfin := HADD.out w3 g5 cap5 hown5 (by first | exact hgrow5 | exact undrew hgrow5) hat5
                            go_wp2
                            go_meet
                            exact ⟨g5, cap5, rfl, rfl, rfl, rfl, hfin⟩
                        case rest =>
                          obtain ⟨g5, cap5, rfl, rfl, rfl, rfl, hst9, had9⟩ := hcut
                          cases hst : st1 with
                          | cons q st' =>
                            obtain ⟨o2, F2⟩ := q
                            have HN := Lib.hid (HMID.out.cont hst ⟨hst9, had9⟩)
                            have hmm : m1 = st'.length + 1 := by rw [HM1.out, hst]; rfl
                            have dm : decide ((0 : Int) < (m1 : Int)) = true := by simp; omega
                            have dm2 : decide (0 < m1) = true := by simp; omega
                            have dm3 : 0 < m1 := by omega
                            have HMM := Lib.hid hmm
                            clear hst9 had9 hmm hst
                            go_wp2
                            go_round
                            case rel => exact ⟨i + 1, m1, g3, c3, d, _, (o2, F2.app f.T.f) :: st', by go_num, rfl, by go_num, HMM.out, HN.out⟩
                            case measure => simp [intOf]; omega
                          | nil =>
                            obtain rfl : m1 = 0 := by rw [HM1.out, hst]; rfl
                            obtain ⟨hrn, _, _⟩ := HMID.out.done hst
                            obtain ⟨hbel9, hr9⟩ := HMID.out.kept had9
                            obtain ⟨hh4, A9, c9, hxc, hq1, hq2, hq3⟩ := HMID.out.fin hst ⟨hst9, had9⟩
                            have hnx := next_of_run hlt HK2.out hrn
                            have HNX := Lib.hid hnx
                            have HR9 := Lib.hid hr9
                            have HB9 := Lib.hid hbel9
                            have HL9 := Lib.hid hq3
                            have dm : decide ((0 : Int) < ((0 : Nat) : Int)) = false := by simp
                            have cq : ∀ j u, (#[.bool false, .int .u8 0, .string ⟨#[]⟩, .int .i64 0, .slice none 0 0] : Array Value)[j]? = some u → wc.cell? ⟨w.heap.size, j, none⟩ = some u := fun j u hj => by
                              rw [cell_of_row wc w.heap.size j _ _ _ hr9]; exact hj
                            have z0 := cq 0 _ rfl
                            have z1 := cq 1 _ rfl
                            have z2 := cq 2 _ rfl
                            have z3 := cq 3 _ rfl
                            have z4 := cq 4 _ rfl
                            have r0 := frozen_of_row wc w.heap.size 0 _ _ hr9
                            have r1 := frozen_of_row wc w.heap.size 1 _ _ hr9
                            have r2 := frozen_of_row wc w.heap.size 2 _ _ hr9
                            have r3 := frozen_of_row wc w.heap.size 3 _ _ hr9
                            have r4 := frozen_of_row wc w.heap.size 4 _ _ hr9
                            have m0 := hxc 0 _ rfl
                            have m1' := hxc 1 _ rfl
                            have m2 := hxc 2 _ rfl
                            have m3 := hxc 3 _ rfl
                            have m4 := hxc 4 _ rfl
                            clear cq hr9 hbel9 hq3 hnx hrn hst9 had9 hst hxc
                            cases d with
                            | true =>
                              go_wp2
                              exact fin3 hf rfl rfl rfl rfl (set5 HR9.out rfl _ _ _ _ _) rfl (by rw [HNX.out]; exact ⟨none, 0, rfl, Nat.le_refl _, Nat.zero_le _, trivial, below_set5 HB9.out (Nat.le_refl _) _ _ _ _ _⟩)
                            | false =>
                              go_wp2
                              exact fin3 hf rfl rfl rfl rfl (set5 HR9.out rfl _ _ _ _ _) rfl (by rw [HNX.out]; exact ⟨A9, c9, rfl, hq1, hq2, (HL9.out.kept (kept_set5 (by omega) _ _ _ _ _)).imp (fun b hb => by omega), below_set5 HB9.out (Nat.le_refl _) _ _ _ _ _⟩)
                  · have e2 : (l[i].kind == 2) = false := by simpa using k2
                    have hc4 := hstk.cell 4 f.v rfl
                    have hob := hstk.row_lt g3 rfl
                    have hfo := hstk.apart f List.mem_cons_self
                    rw [hml] at hc4
                    obtain ⟨c4, fr4⟩ := hc4
                    simp only [Frm.v] at c4
                    obtain ⟨vs, hko, hke⟩ := hstk.kids f List.mem_cons_self
                    have hmid : NxMid w l p i d f fs' st (leafT l[i]) g3 c3 wr := by
                      have h1 := hat.run
                      rw [drop_at l i hlt2, runM_leaf _ _ _ _ _ k1 k2] at h1
                      exact ⟨hat.pi, hlt2, hat.bel, hat.r, hat.stk, hat.size, hat.same, h1, hat.few, hat.small⟩
                    have hsl : fs'.length = st.length := hmid.len
                    have HADD : Hid (∀ (w3 : World) (g5 cap5 : Nat), w3.ownsRow (w.heap.size + 1) 27 5 (.slice (some ⟨g5, 0, none⟩) (f.T.F.len + 1) cap5) (f.T.F.len + 1) (vs ++ [.bool false, .int .u8 0, .string ⟨#[]⟩, .int .i64 0, .slice none 0 0]) → (wr.alloc (.cells #[.bool false, .int .u8 0, .string ⟨#[]⟩, .int .i64 0, .slice none 0 0] 27)).grownBy w3 (Value.slice f.A f.T.F.len f.c).ownBlock → ((Value.slice f.A f.T.F.len f.c).ownBlock = some g5 ∨ g5 = wr.heap.size + 1) →
                        StkAt ((((((w3.setCell ⟨g5, f.T.F.len * 5, none⟩ (.bool false)).setCell ⟨g5, f.T.F.len * 5 + 1, none⟩ (.int .u8 l[i].kind)).setCell ⟨g5, f.T.F.len * 5 + 2, none⟩ (.string (bstr l[i].text))).setCell ⟨g5, f.T.F.len * 5 + 3, none⟩ (.int .i64 l[i].at_)).setCell ⟨g5, f.T.F.len * 5 + 4, none⟩ (.slice none 0 0)).setCell ⟨g3, m * 5 + 4, none⟩ (.slice (some ⟨g5, 0, none⟩) (f.T.F.len + 1) cap5)) (w.heap.size + 1) (.slice (some ⟨g3, 0, none⟩) (fs'.length + 1) c3) (f.plus (leafT l[i]) g5 cap5 :: fs') ∧ Added wr g3 0 f.own g5 ((((((w3.setCell ⟨g5, f.T.F.len * 5, none⟩ (.bool false)).setCell ⟨g5, f.T.F.len * 5 + 1, none⟩ (.int .u8 l[i].kind)).setCell ⟨g5, f.T.F.len * 5 + 2, none⟩ (.string (bstr l[i].text))).setCell ⟨g5, f.T.F.len * 5 + 3, none⟩ (.int .i64 l[i].at_)).setCell ⟨g5, f.T.F.len * 5 + 4, none⟩ (.slice none 0 0)).setCell ⟨g3, m * 5 + 4, none⟩ (.slice (some ⟨g5, 0, none⟩) (f.T.F.len + 1) cap5))) := fun w3 g5 cap5 q1 q2 q3 =>
                      hmid.add none 0 (Nat.le_refl _) (Nat.zero_le _) trivial (zs := [.bool false, .int .u8 0, .string ⟨#[]⟩, .int .i64 0, .slice none 0 0]) rfl hko q1 q2 q3 (by rw [hml]; rfl)
                    have HMID := Lib.hid hmid
                    have HML := Lib.hid hml
                    simp only [Frm.v] at hko
                    have hvl := hko.1
                    have hg0 := World.block_lt_of_cell? wr _ h0
                    have hbound := hat.small f List.mem_cons_self
                    have hgw : g < w.heap.size := World.block_lt_of_cell? w _ ((hT0.out i hlt2).elim (fun g' h => h.elim (fun o' h => by cases h.1; exact h.2.1)))
                    have hm0 : (0 : Int) ≤ (m : Int) := Int.natCast_nonneg _
                    have hm1 : (m : Int) < (m : Int) + 1 := by omega
                    have hn0 : (0 : Int) ≤ (f.T.F.len : Int) := Int.natCast_nonneg _
                    have hn1 : (f.T.F.len : Int) < (f.T.F.len : Int) + 1 := by omega
                    have HKO := Lib.hid hko
                    have HVL := Lib.hid hvl
                    have HSTK := Lib.hid hstk
                    have HT1 := Lib.hid k1
                    have HT2 := Lib.hid k2
                    have hfn : f.T.F.len ≤ 1048576 := by omega
                    have hfob : ∀ b, f.own = some b → w.heap.size + 1 ≤ b ∧ b < wr.heap.size := fun b hb => hstk.own_lt List.mem_cons_self b hb
                    have HFOB := Lib.hid hfob
                    have hoe : f.own = (Value.slice f.A f.T.F.len f.c).ownBlock := rfl
                    have hfo2 : (Value.slice f.A f.T.F.len f.c).ownBlock = none ∨ (Value.slice f.A f.T.F.len f.c).ownBlock ≠ some g3 := hfo
                    have hgo : (Value.slice f.A f.T.F.len f.c).ownBlock ≠ some g := fun e => by have := (hfob g (hoe.trans e)).1; omega
                    have hgg : g ≠ g3 := by omega
                    clear hm hat hdr hrun k1 k2 hfl hko hke hvl hstk hfo hbound hfob hmid hsl hml
                    generalize hfA : f.A = fA at *
                    generalize hfc : f.c = fc at *
                    generalize hfl : f.T.F.len = fn at *
                    generalize l[i].kind = tk at *
                    generalize l[i].text = tx at *
                    generalize l[i].at_ = ta at *
                    have HFA := Lib.hid hfA
                    have HFC := Lib.hid hfc
                    have HFN := Lib.hid hfl
                    have HFO := Lib.hid hfo2
                    have HOE := Lib.hid hoe
                    clear hfA hfc hfl hfo2 hoe
                    have t0 := cell_alloc h0 (.cells #[.bool false, .int .u8 0, .string ⟨#[]⟩, .int .i64 0, .slice none 0 0] 27)
                    have t1 := cell_alloc h1 (.cells #[.bool false, .int .u8 0, .string ⟨#[]⟩, .int .i64 0, .slice none 0 0] 27)
                    have t2 := cell_alloc h2 (.cells #[.bool false, .int .u8 0, .string ⟨#[]⟩, .int .i64 0, .slice none 0 0] 27)
                    have c4a := cell_alloc c4 (.cells #[.bool false, .int .u8 0, .string ⟨#[]⟩, .int .i64 0, .slice none 0 0] 27)
                    go_upto_block 3 with fail
                    go_cut [7, 8, 9, 10] from 41 to 122 (fun s7 s8 s9 s10 wx => ∃ g5 cap5 : Nat, s7 = .slice (some ⟨g3, 0, none⟩) (m + 1) c3 ∧ s8 = .bool d ∧ s9 = .int .i64 (i : Int) ∧ s10 = .int .i64 (m : Int) ∧ StkAt wx (w.heap.size + 1) (.slice (some ⟨g3, 0, none⟩) (fs'.length + 1) c3) (f.plus (leafT l[i]) g5 cap5 :: fs') ∧ Added wr g3 0 f.own g5 wx)
                    case first =>
                      go_wp2
                      go_region_law
                        ((refine step_append_lies _ (by rfl) _ _ _ (by rfl) (w.heap.size + 1) 27 i0 _ 5 64 Tryd.underlying25 hi hz0 hz1 hz2 rfl (by omega) (.slice fA fn fc) fn vs (by rfl) (HKO.out.alloc _) ⟨wr.heap.size, 0, none⟩ 1 1 [.bool false, .int .u8 0, .string ⟨#[]⟩, .int .i64 0, .slice none 0 0] (by rfl) (by rfl) (World.news_of_block (cs := #[.bool false, .int .u8 0, .string ⟨#[]⟩, .int .i64 0, .slice none 0 0]) (t := 27) (fr := (0, 0)) (heap_alloc_new wr _)) (by simp [Value.oneCell']) (by omega) (by simp only [maxLen]; omega) (by omega) (by simp; omega) (wr.heap.size + 1) (by simp) ?_; intro g5 cap5 w3 hown5 hgrow5 hat5 hlt5; (obtain ⟨⟨p1, p2, p3, p4⟩, pz, pf⟩ := add_facts (m := m) hown5 HVL.out (by first | exact hgrow5 | exact undrew hgrow5) hat5 HFO.out hob.2 c4 fr4); (obtain ⟨⟨a0, a1⟩, b0, b1⟩ := pz 0 _ rfl); (obtain ⟨⟨a2, a3⟩, b2, b3⟩ := pz 1 _ rfl); (obtain ⟨⟨a4, a5⟩, b4, b5⟩ := pz 2 _ rfl); (obtain ⟨⟨a6, a7⟩, b6, b7⟩ := pz 3 _ rfl); (obtain ⟨⟨a8, a9⟩, b8, b9⟩ := pz 4 _ rfl); (obtain ⟨x0, y0⟩ := pf _ _ _ hg0 hgo hgg h0); (obtain ⟨x1, y1⟩ := pf _ _ _ hg0 hgo hgg h1); (obtain ⟨x2, y2⟩ := pf _ _ _ hg0 hgo hgg h2); (simp only [Nat.add_zero] at a0 a1 b0 b1); clear pz pf))
                      all_goals
                        (try rw [set5_comm _ p2])
                        have hfin := HADD.out w3 g5 cap5 hown5 (by first | exact hgrow5 | exact undrew hgrow5) hat5
                        go_wp2
                        go_meet
                        exact ⟨g5, cap5, rfl, rfl, rfl, rfl, hfin⟩
                    case rest =>
                      obtain ⟨g5, cap5, rfl, rfl, rfl, rfl, hst9, had9⟩ := hcut
                      cases hst : st with
                      | cons q st' =>
                        obtain ⟨o1, F1⟩ := q
                        have HN := Lib.hid (HMID.out.cont hst ⟨hst9, had9⟩)
                        have hmm : m = st'.length + 1 := by rw [HM.out, hst]; rfl
                        have dm : decide ((0 : Int) < (m : Int)) = true := by simp; omega
                        have dm2 : decide (0 < m) = true := by simp; omega
                        have dm3 : 0 < m := by omega
                        have HMM := Lib.hid hmm
                        clear hst9 had9 hmm hst
                        go_wp2
                        go_round
                        case rel => exact ⟨i + 1, m, g3, c3, d, _, (o1, F1.app (leafT l[i]).f) :: st', by go_num, rfl, by go_num, HMM.out, HN.out⟩
                        case measure => simp [intOf]; omega
                      | nil =>
                        obtain rfl : m = 0 := by rw [HM.out, hst]; rfl
                        obtain ⟨hrn, _, _⟩ := HMID.out.done hst
                        obtain ⟨hbel9, hr9⟩ := HMID.out.kept had9
                        obtain ⟨hh4, A9, c9, hxc, hq1, hq2, hq3⟩ := HMID.out.fin hst ⟨hst9, had9⟩
                        have hnx := next_of_run hlt HK2.out hrn
                        have HNX := Lib.hid hnx
                        have HR9 := Lib.hid hr9
                        have HB9 := Lib.hid hbel9
                        have HL9 := Lib.hid hq3
                        have dm : decide ((0 : Int) < ((0 : Nat) : Int)) = false := by simp
                        have cq : ∀ j u, (#[.bool false, .int .u8 0, .string ⟨#[]⟩, .int .i64 0, .slice none 0 0] : Array Value)[j]? = some u → wc.cell? ⟨w.heap.size, j, none⟩ = some u := fun j u hj => by
                          rw [cell_of_row wc w.heap.size j _ _ _ hr9]; exact hj
                        have z0 := cq 0 _ rfl
                        have z1 := cq 1 _ rfl
                        have z2 := cq 2 _ rfl
                        have z3 := cq 3 _ rfl
                        have z4 := cq 4 _ rfl
                        have r0 := frozen_of_row wc w.heap.size 0 _ _ hr9
                        have r1 := frozen_of_row wc w.heap.size 1 _ _ hr9
                        have r2 := frozen_of_row wc w.heap.size 2 _ _ hr9
                        have r3 := frozen_of_row wc w.heap.size 3 _ _ hr9
                        have r4 := frozen_of_row wc w.heap.size 4 _ _ hr9
                        have m0 := hxc 0 _ rfl
                        have m1 := hxc 1 _ rfl
                        have m2 := hxc 2 _ rfl
                        have m3 := hxc 3 _ rfl
                        have m4 := hxc 4 _ rfl
                        clear cq hr9 hbel9 hq3 hnx hrn hst9 had9 hst hxc
                        cases d with
                        | true =>
                          go_wp2
                          exact fin3 hf rfl rfl rfl rfl (set5 HR9.out rfl _ _ _ _ _) rfl (by rw [HNX.out]; exact ⟨none, 0, rfl, Nat.le_refl _, Nat.zero_le _, trivial, below_set5 HB9.out (Nat.le_refl _) _ _ _ _ _⟩)
                        | false =>
                          go_wp2
                          exact fin3 hf rfl rfl rfl rfl (set5 HR9.out rfl _ _ _ _ _) rfl (by rw [HNX.out]; exact ⟨A9, c9, rfl, hq1, hq2, (HL9.out.kept (kept_set5 (by omega) _ _ _ _ _)).imp (fun b hb => by omega), below_set5 HB9.out (Nat.le_refl _) _ _ _ _ _⟩)
            · obtain rfl : i = l.length := by omega
              have hrun := hat.run
              rw [List.drop_eq_nil_of_le (Nat.le_refl _)] at hrun
              have hnx := next_of_short hlt HK2.out hrun.symm
              have HNX := Lib.hid hnx
              have hr9 := hat.r
              have HR9 := Lib.hid hr9
              have HB9 := Lib.hid hat.bel
              have cq : ∀ j u, (#[.bool false, .int .u8 0, .string ⟨#[]⟩, .int .i64 0, .slice none 0 0] : Array Value)[j]? = some u → wr.cell? ⟨w.heap.size, j, none⟩ = some u := fun j u hj => by
                rw [cell_of_row wr w.heap.size j _ _ _ hr9]; exact hj
              have z0 := cq 0 _ rfl
              have z1 := cq 1 _ rfl
              have z2 := cq 2 _ rfl
              have z3 := cq 3 _ rfl
              have z4 := cq 4 _ rfl
              have r0 := frozen_of_row wr w.heap.size 0 _ _ hr9
              have r1 := frozen_of_row wr w.heap.size 1 _ _ hr9
              have r2 := frozen_of_row wr w.heap.size 2 _ _ hr9
              have r3 := frozen_of_row wr w.heap.size 3 _ _ hr9
              have r4 := frozen_of_row wr w.heap.size 4 _ _ hr9
              have d3 : decide ((l.length : Int) < (l.length : Int)) = false := by simp
              clear cq hr9 hnx hrun hm hat
              go_wp2
              exact fin3 hf rfl rfl rfl rfl (set5 HR9.out rfl _ _ _ _ _) rfl (by rw [HNX.out]; exact ⟨none, 0, rfl, Nat.le_refl _, Nat.zero_le _, trivial, below_set5 HB9.out (Nat.le_refl _) _ _ _ _ _⟩)
end Go.Proofs.YtppbijbgnhmdaaaDoor

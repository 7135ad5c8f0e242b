/- tree.Text. -/
import Derived.Test.YtppbijbgnhmdaaaDoorTextBox
import Derived.Sort.CutIn
namespace Go.Proofs.YtppbijbgnhmdaaaDoor
open Go.RowKit Forest Go.Shelf
attribute [local go_sem] Oper.semAt_some

set_option maxHeartbeats 8000000 in
set_option maxRecDepth 100000 in
theorem text_in (l : Bool) (k : Int) (x : List UInt8) (a : Int) (A : Option Addr) (F : Forest) (c : Nat) (w : World) (hv : Var0 w) (hx : x.length ≤ 100000) (hn : F.len ≤ c) (hc : c ≤ maxLen) (hfit : FitsT F) (hd : hgt F + 1 ≤ 1000000) (hF : Lies w F A 0) (hN : (partsT l k x a F true 0).length ≤ 1000000) (m : Nat) (hm : 6 ≤ m) :
    CallsIn Fence.wide m Tryd.prog 11 #[.agg #[.bool l, .int .u8 k, .string (bstr x), .int .i64 a, .slice A F.len c]] w fun e w' =>
      e = .returned (.tuple #[.string (bstr (textP (foldP (partsT l k x a F true 0))).1), .int .i64 (textP (foldP (partsT l k x a F true 0))).2]) ∧ Below w.heap.size w w' := by
  have hdd : ∀ k : Nat, (Fence.wide.depth.isSome = true → 1 ≤ k) := fun k h => by cases h
  refine callsIn_of_wp_marks Tryd.func11 rfl trivial ?_ rfl
  simp only [Tryd.ntmps11, List.size_toArray, List.length_cons, List.length_nil, Nat.reduceAdd, Nat.reduceSub, Array.replicate_succ, Array.replicate_zero, List.push_toArray, List.append_toArray, List.nil_append, List.cons_append]
  gi_wp2_with (refine ⟨trivial, hdd _, ?_⟩; refine (parts_in l k x a A F.len c _ _).mono ?_; rintro e w' ⟨rfl, rfl⟩)
  obtain ⟨W0, hW0⟩ : ∃ W0 : World, W0 = ((((((w.alloc (.cells #[.bool l, .int .u8 k, .string (bstr x), .int .i64 a, .slice A F.len c] 27)).alloc (.cells #[.string ⟨#[]⟩] 9)).alloc (.cells #[.int .i64 0] 31)).alloc (.cells #[.pointer none, .slice none 0 0] 52)).alloc (.cells #[.bool false] 4)).alloc (.cells #[.bool l, .int .u8 k, .string (bstr x), .int .i64 a, .slice A F.len c] 27)) := ⟨_, rfl⟩
  have hs0 : W0.heap.size = w.heap.size + 6 := by rw [hW0]; simp [World.size_alloc]
  have hb0 : Below w.heap.size w W0 := by
    rw [hW0]
    exact bel_trans (below_two w _ _) (bel_trans (below_two _ _ _) (below_two _ _ _))
  have hblk : ∀ (W1 : World) (o : Obj) (W2 : World), Below (W1.alloc o).heap.size (W1.alloc o) W2 → W2.heap[W1.heap.size]? = some o := fun W1 o W2 h => (h.block _ (by rw [World.size_alloc]; exact Nat.lt_succ_self _)).trans (World.alloc_heap_new W1 o)
  have hbox0 : TxBox w.heap.size [] false W0 := by
    rw [hW0]
    refine ⟨?_, ?_, .inl ⟨Nat.le_refl _, .slice none 0 0, ?_, World.ownsRowF_nil _ _ _ _, by simp [Value.ownBlock]⟩, ?_⟩
    · have := hblk (w.alloc (.cells #[.bool l, .int .u8 k, .string (bstr x), .int .i64 a, .slice A F.len c] 27)) (.cells #[.string ⟨#[]⟩] 9) _ (bel_trans (below_two _ (.cells #[.int .i64 0] 31) (.cells #[.pointer none, .slice none 0 0] 52)) (below_two _ (.cells #[.bool false] 4) (.cells #[.bool l, .int .u8 k, .string (bstr x), .int .i64 a, .slice A F.len c] 27)))
      rw [World.size_alloc] at this
      exact this
    · have := hblk ((w.alloc (.cells #[.bool l, .int .u8 k, .string (bstr x), .int .i64 a, .slice A F.len c] 27)).alloc (.cells #[.string ⟨#[]⟩] 9)) (.cells #[.int .i64 0] 31) _ (bel_trans (below_two _ (.cells #[.pointer none, .slice none 0 0] 52) (.cells #[.bool false] 4)) ((Below.refl _ _).alloc (Nat.le_refl _) (.cells #[.bool l, .int .u8 k, .string (bstr x), .int .i64 a, .slice A F.len c] 27)))
      rw [World.size_alloc, World.size_alloc] at this
      exact this
    · have := hblk (((w.alloc (.cells #[.bool l, .int .u8 k, .string (bstr x), .int .i64 a, .slice A F.len c] 27)).alloc (.cells #[.string ⟨#[]⟩] 9)).alloc (.cells #[.int .i64 0] 31)) (.cells #[.pointer none, .slice none 0 0] 52) _ (below_two _ (.cells #[.bool false] 4) (.cells #[.bool l, .int .u8 k, .string (bstr x), .int .i64 a, .slice A F.len c] 27))
      rw [World.size_alloc, World.size_alloc, World.size_alloc] at this
      exact this
    · have := hblk ((((w.alloc (.cells #[.bool l, .int .u8 k, .string (bstr x), .int .i64 a, .slice A F.len c] 27)).alloc (.cells #[.string ⟨#[]⟩] 9)).alloc (.cells #[.int .i64 0] 31)).alloc (.cells #[.pointer none, .slice none 0 0] 52)) (.cells #[.bool false] 4) _ ((Below.refl _ _).alloc (Nat.le_refl _) (.cells #[.bool l, .int .u8 k, .string (bstr x), .int .i64 a, .slice A F.len c] 27))
      rw [World.size_alloc, World.size_alloc, World.size_alloc, World.size_alloc] at this
      exact this
  have hbt : ∀ j, W0.cell? ⟨w.heap.size + 5, j, none⟩ = (#[Value.bool l, .int .u8 k, .string (bstr x), .int .i64 a, .slice A F.len c] : Array Value)[j]? := fun j => by
    have := World.cell?_alloc_mark (((((w.alloc (.cells #[.bool l, .int .u8 k, .string (bstr x), .int .i64 a, .slice A F.len c] 27)).alloc (.cells #[.string ⟨#[]⟩] 9)).alloc (.cells #[.int .i64 0] 31)).alloc (.cells #[.pointer none, .slice none 0 0] 52)).alloc (.cells #[.bool false] 4)) #[.bool l, .int .u8 k, .string (bstr x), .int .i64 a, .slice A F.len c] 27 (0, 0) j
    rw [World.size_alloc, World.size_alloc, World.size_alloc, World.size_alloc, World.size_alloc] at this
    rw [hW0]; exact this
  have hFB : LiesB (· < w.heap.size + 1) W0 F A 0 := by
    have h3 : KeptB (· < w.heap.size) w W0 := fun i hi cc tt fr h => (hb0.block i hi).trans h
    exact (hF.old.kept h3).mono (fun i hi => Nat.lt_succ_of_lt hi)
  rw [← hW0]
  refine wpIn_rangeFunc_ownH (n := m) rfl (by omega) (gf := 40) (lb := #[.pointer (some ⟨w.heap.size + 5, 0, none⟩)]) rfl trivial (enters_of Tryd.func40 (by kernel_rfl) rfl)
    (iter_stops (m - 1) (w.heap.size + 1) (w.heap.size + 5) (w.heap.size + 5) l k x a A F c W0 hx hn hc hfit hd (by omega) (by omega) hFB (by omega) (hbt 0) (hbt 1) (hbt 2) (hbt 3) (hbt 4)) kpP_t kpP_b (Below.refl _ _) (fun _ => rfl)
    (TxI w.heap.size w W0) (TxX w.heap.size w)
    (txI_own _ _ _ _ (by omega)) (fun cc => txX_own _ _ _ _ (by omega))
    ⟨[], false, rfl, Nat.zero_le _, hbox0, hb0, Nat.le_refl _⟩
    (fun p a' W => ∃ Bx, PBox (w.heap.size + 5) p Bx W ∧ a' = { tmps := #[.agg #[.bool l, .int .u8 k, .string (bstr x), .int .i64 a, .slice A F.len c], .pointer (some ⟨w.heap.size, 0, none⟩), .pointer (some ⟨w.heap.size + 1, 0, none⟩), .pointer (some ⟨w.heap.size + 2, 0, none⟩), .pointer (some ⟨w.heap.size + 3, 0, none⟩), .pointer (some ⟨w.heap.size + 4, 0, none⟩), .pointer (some ⟨Bx, 0, none⟩), undef, undef, .agg #[.bool l, .int .u8 k, .string (bstr x), .int .i64 a, .slice A F.len c], .func (.func 40) #[] #[.pointer (some ⟨w.heap.size + 5, 0, none⟩)], .agg #[.bool p.l, .int .u8 p.k, .string (bstr p.x), .int .i64 p.a, .slice p.A p.n p.c, .bool p.ends, .bool p.first, .int .i64 ((p.depth : Nat) : Int)], undef, undef, undef, undef, undef, undef, undef, undef, undef, undef, undef, undef, undef, undef, undef, undef, undef, undef, undef, undef, undef, undef, undef, undef, undef, undef, undef, undef, undef, undef, undef, undef, undef, undef, undef, undef, undef, undef, undef, undef, undef, undef, undef, undef, undef, undef, undef, undef, undef, undef, undef, undef, undef, undef, undef, undef, undef, undef], defers := [] })
    (fun p a' => fun s W W' row hs hg hr => by obtain ⟨Bx, hB, ha⟩ := hs; exact ⟨Bx, pbox_own _ p Bx _ () W W' row hB hg hr, ha⟩) ?assign ?body ?done ?stop
  case assign =>
    rintro l0 pre p W K ⟨bs, dd, hfold, hlen, hbx, hbel, hsz⟩ hK
    unfold encP
    gi_wp2
    exact hK _ _ ((KeepsOthers.alloc _ _).from _) ⟨(KeptO.refl _ _ W).alloc _, by rw [World.size_alloc]; omega⟩ ⟨bs, dd, hfold, hlen, hbx.of ((Below.refl _ W).alloc (Nat.le_refl _) _), hbel.alloc hbel.size _, by rw [World.size_alloc]; omega⟩ ⟨W.heap.size, ⟨by omega, World.alloc_heap_new W _⟩, rfl⟩
  case body =>
    rintro l0 pre p a' W hl0 ⟨r, hr⟩ ⟨bs, dd, hfold, hlen, hbx, hbel, hsz⟩ ⟨Bx, hP, rfl⟩ hlt
    obtain ⟨p0, p1, p2, p3, p4, p5, p6, p7⟩ := hP.cells
    have hBx : w.heap.size + 5 ≤ Bx := hP.1
    have hblen : bs.length + 1 ≤ 140737488355328 := by omega
    have hsnoc : foldP ((pre ++ [p]).map Part.s) = stepP (some (bs, dd)) p.s := by
      rw [List.map_append]; show foldP (pre.map Part.s ++ [p.s]) = _; rw [foldP_snoc, hfold]
    have HSN := Lib.hid hsnoc
    clear hsnoc
    have happ : ∀ (l : List UInt8) (b : UInt8), cellsOf l ++ [.int .u8 (bi b)] = cellsOf (l ++ [b]) := fun l b => by simp [cellsOf]
    cases he : p.ends with
    | true =>
      rw [he] at p5
      have hst : Hid (foldP ((pre ++ [p]).map Part.s) = some (bs ++ [41], dd)) := by
        show _ = _
        rw [HSN.out, stepP_some]; rw [if_pos (show p.s.ends = true from he)]
      gi_wp2_with (refine ⟨trivial, hdd _, ?_⟩; refine (CallsIn.inRound l0 (callsIn_wide.2 (writeByte_k (w.heap.size + 3) (w.heap.size + 3) (cellsOf bs) 41 W hbx.bld (by simp only [cellsOf, List.length_map]; exact hblen) (by omega)))).mono ?_; rintro e W1 ⟨rfl, hb1, hbe1, ho1⟩)
      exact tx_norm (TxGo.wrote (by omega) hbx hbe1 ho1) (hbx.wrote (by rw [← happ]; exact hb1) ho1) hbel hsz hst.out (by rw [List.length_append]; simp only [List.length_cons, List.length_nil]; omega)
    | false =>
      rw [he] at p5
      obtain ⟨bs1, hbs1⟩ : ∃ bs1 : List UInt8, bs1 = (if p.first then bs else bs ++ [32]) := ⟨_, rfl⟩
      have hl1 : bs1.length ≤ bs.length + 1 := by
        rw [hbs1]; cases p.first <;> simp
      have hst : Hid (foldP ((pre ++ [p]).map Part.s) = if p.l then (if p.k = 1 ∧ p.x = [40] then some (bs1 ++ [40], dd || decide (200 ≤ p.depth)) else none) else if okTok p.k p.x = true ∧ p.n = 0 then some (bs1 ++ retext p.k p.x, dd) else none) := by
        show _ = _
        rw [HSN.out, hbs1, stepP_some]; rw [if_neg (show ¬ p.s.ends = true by rw [show p.s.ends = p.ends from rfl, he]; decide)]; rfl
      have HB1 := Lib.hid hbs1
      clear hbs1
      have HCUT : Hid (∀ W2 : World, TxGo w.heap.size (w.heap.size + 5) W0.heap.size W W2 → TxBox w.heap.size bs1 dd W2 → W0.heap.size ≤ W2.heap.size ∧ PCells p Bx W2) := fun W2 hg _ => ⟨Nat.le_trans hsz hg.kp.2, (hP.go hg).cells⟩
      obtain ⟨ff, hff⟩ : ∃ ff, ff = p.first := ⟨_, rfl⟩
      obtain ⟨ll, hll⟩ : ∃ ll, ll = p.l := ⟨_, rfl⟩
      rw [← hff] at p6
      have HFF := Lib.hid hff
      have HLL := Lib.hid hll
      clear hff hll
      gi_upto_if 17 with fail
      gi_cut [] from 15 (fun wx => TxGo w.heap.size (w.heap.size + 5) W0.heap.size W wx ∧ TxBox w.heap.size bs1 dd wx)
      case first =>
        cases ff with
        | true =>
          gi_wp2
          gi_meet
          exact ⟨.refl _ _ _ _, by rw [HB1.out, ← HFF.out]; exact hbx⟩
        | false =>
          gi_wp2_with (refine ⟨trivial, hdd _, ?_⟩; refine (CallsIn.inRound l0 (callsIn_wide.2 (writeByte_k (w.heap.size + 3) (w.heap.size + 3) (cellsOf bs) 32 W hbx.bld (by simp only [cellsOf, List.length_map]; exact hblen) (by omega)))).mono ?_; rintro e W1 ⟨rfl, hb1, hbe1, ho1⟩)
          gi_meet
          exact ⟨.wrote (by omega) hbx hbe1 ho1, by rw [HB1.out, ← HFF.out]; exact hbx.wrote (by show BAt _ _ (cellsOf (bs ++ [32])) _; rw [← happ]; exact hb1) ho1⟩
      case rest =>
        obtain ⟨hg1, hbx1⟩ := hcut
        obtain ⟨hsz1, hpc1⟩ := HCUT.out _ hg1 hbx1
        obtain ⟨q0, q1, q2, q3, q4, q5, q6, q7⟩ := hpc1
        clear p0 p1 p2 p3 p4 p5 p6 p7
        rw [← HLL.out] at q0
        have hd4 := hbx1.deep.cell
        have hf4 := hbx1.deep.frozen
        have hnn : Hid (∀ b, TxGo w.heap.size (w.heap.size + 5) W0.heap.size W (wc.setCell ⟨w.heap.size + 4, 0, none⟩ (.bool b)) ∧ TxBox w.heap.size bs1 b (wc.setCell ⟨w.heap.size + 4, 0, none⟩ (.bool b)) ∧ PCells p Bx (wc.setCell ⟨w.heap.size + 4, 0, none⟩ (.bool b)) ∧ W0.heap.size ≤ (wc.setCell ⟨w.heap.size + 4, 0, none⟩ (.bool b)).heap.size) := fun b => by
          have h1 := hg1.trans (TxGo.set (by omega) 4 ⟨by omega, by omega⟩ 0 (.bool b))
          exact ⟨h1, hbx1.setDeep b, (hP.go h1).cells, Nat.le_trans hsz h1.kp.2⟩
        gi_upto_region 9 with fail
        gi_cut [] from 18 (fun wx => wx = wc.setCell ⟨w.heap.size + 4, 0, none⟩ (.bool (dd || (ll && decide (200 ≤ p.depth)))))
        case first =>
          have hd1 : decide ((200 : Int) ≤ ((p.depth : Nat) : Int)) = decide (200 ≤ p.depth) := by rw [decide_eq_decide]; omega
          cases dd with
          | true =>
            gi_wp2
            gi_meet
            rfl
          | false =>
            cases ll with
            | false =>
              gi_wp2
              gi_meet
              rfl
            | true =>
              cases h200 : decide (200 ≤ p.depth) with
              | true =>
                rw [h200] at hd1
                have H200 := Lib.hid h200
                clear h200
                gi_wp2
                gi_meet
                rw [H200.out]; rfl
              | false =>
                rw [h200] at hd1
                have H200 := Lib.hid h200
                clear h200
                gi_wp2
                gi_meet
                rw [H200.out]; rfl
        case rest =>
          subst hcut
          clear q0 q1 q2 q3 q4 q5 q6 q7 hd4 hf4
          obtain ⟨W3, hW3⟩ : ∃ W3, W3 = wc.setCell ⟨w.heap.size + 4, 0, none⟩ (.bool (dd || (ll && decide (200 ≤ p.depth)))) := ⟨_, rfl⟩
          obtain ⟨hg2, hbx2, ⟨q0, q1, q2, q3, q4, q5, q6, q7⟩, hsz2⟩ := hnn.out (dd || (ll && decide (200 ≤ p.depth)))
          rw [← HLL.out] at q0
          rw [← hW3] at q0 q1 q2 q3 q4 q5 q6 q7 hg2 hbx2 hsz2 ⊢
          clear hnn hW3
          obtain ⟨d3, hd3⟩ : ∃ d3, d3 = (dd || (ll && decide (200 ≤ p.depth))) := ⟨_, rfl⟩
          rw [← hd3] at hbx2
          have HD3 := Lib.hid hd3
          clear hd3
          have hl1b : bs1.length + 1 ≤ 140737488355328 := by omega
          have hr1 := hbx2.r1.frozen
          have hr2 := hbx2.r2.frozen
          have hc1 := hbx2.r1.cell
          have hc2 := hbx2.r2.cell
          have HCT : Hid (∀ W3 : World, TxGo w.heap.size (w.heap.size + 5) W0.heap.size W W3 → TxBox w.heap.size bs1 d3 W3 → ∀ W4, Below W3.heap.size W3 W4 → TxGo w.heap.size (w.heap.size + 5) W0.heap.size W W4 ∧ TxBox w.heap.size bs1 d3 W4 ∧ PCells p Bx W4 ∧ W0.heap.size ≤ W4.heap.size) := fun W3 hg3 hbx3 W4 hb4 => by
            have h1 : TxGo w.heap.size (w.heap.size + 5) W0.heap.size W W4 := hg3.trans (.of (by have := hg3.kp.2; omega) hb4)
            exact ⟨h1, hbx3.of hb4, (hP.go h1).cells, Nat.le_trans hsz h1.kp.2⟩
          have HRET : Hid (foldP ((pre ++ [p]).map Part.s) = none → KeepsFrom W0.heap.size W ((W3.setCell ⟨w.heap.size + 1, 0, none⟩ (.string ⟨#[]⟩)).setCell ⟨w.heap.size + 2, 0, none⟩ (.int .i64 5)) ∧ TxX w.heap.size w .ret (pre ++ [p]) ((W3.setCell ⟨w.heap.size + 1, 0, none⟩ (.string ⟨#[]⟩)).setCell ⟨w.heap.size + 2, 0, none⟩ (.int .i64 5))) := fun h => tx_ret hg2 hbx2 hbel hs0 h
          cases ll with
          | true =>
            by_cases hk : p.k = 1
            · have e1 : (p.k != 1) = false := by simpa using hk
              by_cases hpx : p.x = [40]
              · have hst2 : Hid (foldP ((pre ++ [p]).map Part.s) = some (bs1 ++ [40], d3)) := by
                  show _ = _
                  rw [hst.out, if_pos HLL.out.symm, if_pos ⟨hk, hpx⟩, HD3.out]; rfl
                have f1 : ((bstr p.x).toList == [40]) = true := by rw [bstr_list', hpx]; rfl
                have f2 : (bstr p.x).toList = [40] := by rw [bstr_list', hpx]
                clear hpx
                gi_wp2_with (refine ⟨trivial, hdd _, ?_⟩; refine (CallsIn.inRound l0 (callsIn_wide.2 (writeByte_k (w.heap.size + 3) (w.heap.size + 3) (cellsOf bs1) 40 W3 hbx2.bld (by simp only [cellsOf, List.length_map]; exact hl1b) (by omega)))).mono ?_; rintro e W1 ⟨rfl, hb1, hbe1, ho1⟩)
                exact tx_norm (hg2.trans (.wrote (by omega) hbx2 hbe1 ho1)) (hbx2.wrote (by rw [← happ]; exact hb1) ho1) hbel hsz hst2.out (by rw [List.length_append]; simp only [List.length_cons, List.length_nil]; omega)
              · have hst2 : Hid (foldP ((pre ++ [p]).map Part.s) = none) := by
                  show _ = _
                  rw [hst.out, if_pos HLL.out.symm, if_neg (fun h => hpx h.2)]
                have f1 : ((bstr p.x).toList == [40]) = false := by rw [bstr_list']; simpa using hpx
                have f2 : ¬ (bstr p.x).toList = [40] := by rw [bstr_list']; exact hpx
                clear hpx
                gi_wp2
                exact HRET.out hst2.out
            · have hst2 : Hid (foldP ((pre ++ [p]).map Part.s) = none) := by
                show _ = _
                rw [hst.out, if_pos HLL.out.symm, if_neg (fun h => hk h.1)]
              have e1 : (p.k != 1) = true := by simpa using hk
              gi_wp2
              exact HRET.out hst2.out
          | false =>
            have hv3 : Var0 W3 := hv.below (hbel.trans (hg2.bel.mono (by omega)))
            have htok := HCT.out _ hg2 hbx2
            clear hc1 hc2 hr1 hr2
            gi_upto_region 15 with (refine ⟨trivial, hdd _, ?_⟩; refine (CallsIn.inRound l0 (callsIn_wide.2 (ttoken_calls p.k p.x p.a W3 hv3 p.hx))).mono ?_; rintro e W4 ⟨rfl, hbe4⟩)
            obtain ⟨hg4, hbx4, hpc4, hsz4⟩ := htok W4 hbe4
            clear q0 q1 q2 q3 q4 q5 q6 q7
            obtain ⟨q0, q1, q2, q3, q4, q5, q6, q7⟩ := hpc4
            rw [← HLL.out] at q0
            have hl1t : bs1.length + (bstr (retext p.k p.x)).size ≤ 140737488355328 := by
              rw [bstr_size]; have := retext_len p.k p.x; have := p.hx; omega
            have hltx : (retext p.k p.x).length ≤ 200002 := by
              have := retext_len p.k p.x; have := p.hx; omega
            have hr1 := hbx4.r1.frozen
            have hr2 := hbx4.r2.frozen
            have hc1 := hbx4.r1.cell
            have hc2 := hbx4.r2.cell
            clear HRET
            have HRET : Hid (foldP ((pre ++ [p]).map Part.s) = none → KeepsFrom W0.heap.size W ((W4.setCell ⟨w.heap.size + 1, 0, none⟩ (.string ⟨#[]⟩)).setCell ⟨w.heap.size + 2, 0, none⟩ (.int .i64 5)) ∧ TxX w.heap.size w .ret (pre ++ [p]) ((W4.setCell ⟨w.heap.size + 1, 0, none⟩ (.string ⟨#[]⟩)).setCell ⟨w.heap.size + 2, 0, none⟩ (.int .i64 5))) := fun h => tx_ret hg4 hbx4 hbel hs0 h
            obtain ⟨ok, hok⟩ : ∃ ok, ok = okTok p.k p.x := ⟨_, rfl⟩
            rw [← hok]
            have HOK := Lib.hid hok
            clear hok
            cases ok with
            | false =>
              have hst2 : Hid (foldP ((pre ++ [p]).map Part.s) = none) := by
                show _ = _
                rw [hst.out, if_neg (by rw [← HLL.out]; decide), if_neg (fun h => by rw [← HOK.out] at h; exact absurd h.1 (by decide))]
              gi_wp2
              exact HRET.out hst2.out
            | true =>
              by_cases hn0 : p.n = 0
              · have hst2 : Hid (foldP ((pre ++ [p]).map Part.s) = some (bs1 ++ retext p.k p.x, d3)) := by
                  show _ = _
                  rw [hst.out, if_neg (by rw [← HLL.out]; decide), if_pos ⟨HOK.out.symm, hn0⟩, HD3.out]; simp
                have e2 : decide ((0 : Int) < ((p.n : Nat) : Int)) = false := by simp; omega
                gi_wp2_with (refine ⟨trivial, hdd _, ?_⟩; refine (CallsIn.inRound l0 (callsIn_wide.2 (writeString_k (w.heap.size + 3) (w.heap.size + 3) (cellsOf bs1) (bstr (retext p.k p.x)) W4 hbx4.bld (by simp only [cellsOf, List.length_map]; exact hl1t) (by omega)))).mono ?_; rintro e W1 ⟨rfl, hb1, hbe1, ho1⟩)
                exact tx_norm (hg4.trans (.wrote (by omega) hbx4 hbe1 ho1)) (hbx4.wrote (by rw [cellsOf_append, ← strCells_bs (retext p.k p.x)]; exact hb1) ho1) hbel hsz hst2.out (by rw [List.length_append]; omega)
              · have hst2 : Hid (foldP ((pre ++ [p]).map Part.s) = none) := by
                  show _ = _
                  rw [hst.out, if_neg (by rw [← HLL.out]; decide), if_neg (fun h => hn0 h.2)]
                have e2 : decide ((0 : Int) < ((p.n : Nat) : Int)) = true := by simp; omega
                gi_wp2
                exact HRET.out hst2.out
  case done =>
    rintro D xs W hD hS ⟨bs, dd, hfold, hlen, hbx, hbel, hsz⟩ hK
    have hS2 : xs.map Part.s = partsT l k x a F true 0 := hS
    rw [hS2] at hfold
    have HF := Lib.hid hfold
    clear hfold
    have hd4 := hbx.deep.cell
    have hr1 := hbx.r1.frozen
    have hr2 := hbx.r2.frozen
    have hc1 := hbx.r1.cell
    have hc2 := hbx.r2.cell
    have hend : ∀ (W2 : World) (bs2 : List UInt8) (d2 : Bool) (s : ByteArray) (e : Int), TxBox w.heap.size bs2 d2 W2 → Below w.heap.size w W2 → Ending.returned (.tuple #[.string s, .int .i64 e]) = Ending.returned (.tuple #[.string (bstr (textP (foldP (partsT l k x a F true 0))).1), .int .i64 (textP (foldP (partsT l k x a F true 0))).2]) → W2.heap[D]? = some (.deferred (some [])) →
        ∀ ac : Act, ac.defers = [{ target := .collected D, args := #[] }] → ac.tmps.getD 2 undef = .pointer (some ⟨w.heap.size + 1, 0, none⟩) → ac.tmps.getD 3 undef = .pointer (some ⟨w.heap.size + 2, 0, none⟩) →
        bodyPostM Fence.wide m Tryd.prog Tryd.f11 (fun e w' => e = .returned (.tuple #[.string (bstr (textP (foldP (partsT l k x a F true 0))).1), .int .i64 (textP (foldP (partsT l k x a F true 0))).2]) ∧ Below w.heap.size w w') Exit.ret ac ((W2.setCell ⟨w.heap.size + 1, 0, none⟩ (.string s)).setCell ⟨w.heap.size + 2, 0, none⟩ (.int .i64 e)) := by
      intro W2 bs2 d2 s e hb2 hbl2 he hK2 ac hdf h2 h3
      obtain ⟨tm, df⟩ := ac
      dsimp only at hdf h2 h3
      subst hdf
      obtain ⟨r1, r2⟩ := tx_set2 hb2 s e
      refine ⟨by simp, .inl ⟨_, _, rfl, run_takeDeferred ((set2_heap w.heap.size _ _ _ D (by omega)).trans hK2), ?_⟩⟩
      obtain ⟨r1', r2'⟩ := tx_end (D := D) (o2 := .deferred none) (by omega) s e r1 r2
      exact ⟨_, results_two rfl h2 h3 r1' r2', he, (set2_below hbl2 _ _).grown (grownBy_putObj' _ D _) (set2_below hbl2 _ _).size (fun k e => by cases e; omega)⟩
    cases dd with
    | true =>
      gi_wp2
      exact hend W bs true _ 40 hbx hbel (by rw [HF.out]; rfl) hK _ rfl rfl rfl
    | false =>
      by_cases hlong : 1048576 < bs.length
      · have hll : decide ((1048576 : Int) < (((cellsOf bs).length : Nat) : Int)) = true := by simp only [cellsOf, List.length_map, decide_eq_true_eq]; omega
        gi_wp2_with (refine ⟨trivial, hdd _, ?_⟩; refine (callsIn_wide.2 (Tryd.Builder_Len_f (w.heap.size + 3) (w.heap.size + 3) (cellsOf bs) W hbx.bld)).mono ?_; rintro e W1 ⟨rfl, hW1⟩; replace hW1 := hW1.symm; subst hW1)
        exact hend _ bs false _ 3 hbx hbel (by rw [HF.out]; simp [textP, hlong]; rfl) hK _ rfl rfl rfl
      · have hll : decide ((1048576 : Int) < (((cellsOf bs).length : Nat) : Int)) = false := by simp only [cellsOf, List.length_map, decide_eq_false_iff_not]; omega
        gi_wp2_with (first | (refine ⟨trivial, hdd _, ?_⟩; refine (callsIn_wide.2 (Tryd.Builder_Len_f (w.heap.size + 3) (w.heap.size + 3) (cellsOf bs) W hbx.bld)).mono ?_; rintro e W1 ⟨rfl, hW1⟩; replace hW1 := hW1.symm; subst hW1) | (refine ⟨trivial, hdd _, ?_⟩; refine (callsIn_wide.2 (Tryd.Builder_String_any_k (w.heap.size + 3) (w.heap.size + 3) bs W (by rw [cellsOf_byte]; exact hbx.bld) (by omega))).mono ?_; rintro e W5 ⟨rfl, hb5, hbe5, ho5⟩; have hbx5 := hbx.read hb5 ho5; have hs1 := hbx5.r1.frozen; have hs2 := hbx5.r2.frozen; have ht1 := hbx5.r1.cell; have ht2 := hbx5.r2.cell))
        exact hend W5 bs false _ 0 hbx5 (hbel.trans (hbe5.mono (by omega))) (by rw [HF.out]; simp [textP, hlong]; rfl) (ho5 D _ hK (by simp; omega) (fun _ _ e => by cases e)) _ rfl rfl rfl
  case stop =>
    rintro D cc pre W hD hSp ⟨rfl, hfold, h1, h2, hbel⟩ hK
    have HF : Hid (foldP (partsT l k x a F true 0) = none) := foldP_prefix hSp hfold
    gi_wp2
    refine ⟨by simp, .inl ⟨_, _, rfl, run_takeDeferred hK, ?_⟩⟩
    obtain ⟨r1', r2'⟩ := tx_end (D := D) (o2 := .deferred none) (by omega) _ _ h1 h2
    exact ⟨_, results_two rfl rfl rfl r1' r2', by rw [HF.out]; rfl, hbel.grown (grownBy_putObj' _ D _) hbel.size (fun k e => by cases e; omega)⟩
/-- tree.Text. -/
theorem ttext_calls (l : Bool) (k : Int) (x : List UInt8) (a : Int) (A : Option Addr) (F : Forest) (c : Nat) (w : World) (hv : Var0 w) (hx : x.length ≤ 100000) (hn : F.len ≤ c) (hc : c ≤ maxLen) (hfit : FitsT F) (hd : hgt F + 1 ≤ 1000000) (hF : Lies w F A 0) (hN : (partsT l k x a F true 0).length ≤ 1000000) :
    Calls Tryd.prog 11 #[.agg #[.bool l, .int .u8 k, .string (bstr x), .int .i64 a, .slice A F.len c]] w fun e w' =>
      e = .returned (.tuple #[.string (bstr (textS l k x F (decide (200 < depT l 0 F))).1), .int .i64 (textS l k x F (decide (200 < depT l 0 F))).2]) ∧ Below w.heap.size w w' := by
  have := callsIn_wide.1 (text_in l k x a A F c w hv hx hn hc hfit hd hF hN 6 (Nat.le_refl _))
  rw [textP_tree] at this
  exact this
end Go.Proofs.YtppbijbgnhmdaaaDoor

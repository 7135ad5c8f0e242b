/- tree.Depth. -/
import Derived.Test.YtppbijbgnhmdaaaDoorTreeIter
import Derived.Test.YtppbijbgnhmdaaaDoorTreeDepth
namespace Go.Proofs.YtppbijbgnhmdaaaDoor
open Go.RowKit Forest Go.Shelf
attribute [local go_sem] Oper.semAt_some

def deepStep (t : Nat) (p : PartS) : Nat := if p.l = true ∧ p.depth ≤ 200 then max t (p.depth + 1) else t
def deepOf (ps : List PartS) : Nat := ps.foldl deepStep 0
/-- The loop variable's box. -/
def PBox (n₁ : Nat) (p : Part) (Bx : Nat) (W : World) : Prop := n₁ ≤ Bx ∧ W.heap[Bx]? = some (.cells #[.bool p.l, .int .u8 p.k, .string (bstr p.x), .int .i64 p.a, .slice p.A p.n p.c, .bool p.ends, .bool p.first, .int .i64 ((p.depth : Nat) : Int)] 57 (0, 0))
theorem pbox_own (n₁ : Nat) (p : Part) (Bx B : Nat) : OwnFrom B (fun (_ : Unit) W => PBox n₁ p Bx W) := fun _ W W' row hs hg hr => ⟨hs.1, (hg.block Bx (Array.getElem?_eq_some_iff.1 hs.2).1 (fun e => by
  obtain ⟨_, o, ho, hc⟩ := hr Bx e.symm
  rw [hs.2] at ho; cases ho; cases hc)).trans hs.2⟩

theorem LiesB.mono {B B' : Nat → Prop} {w : World} (hb : ∀ i, B i → B' i) : ∀ {F : Forest} {A : Option Addr} {i : Nat}, LiesB B w F A i → LiesB B' w F A i
  | .nil, _, _, _ => trivial
  | .cons _ _ _ _ _ _, _, _, ⟨⟨g, o, e, hg, h0, h1, h2, h3, A', c', h4, h5, h6, h7⟩, hr⟩ => ⟨⟨g, o, e, hb _ hg, h0, h1, h2, h3, A', c', h4, h5, h6, LiesB.mono hb h7⟩, LiesB.mono hb hr⟩
theorem size_own {β : Type} (B n : Nat) : OwnFrom B (fun (_ : β) W => n ≤ W.heap.size) := fun _ _ _ _ hs hg _ => Nat.le_trans hs hg.size
theorem KeptB.setCell {B : Nat → Prop} (W : World) (b : Nat) (hb : ¬ B b) (o : Nat) (v : Value) : KeptB B W (W.setCell ⟨b, o, none⟩ v) := fun i hi c t fr h => (Below.heap_setCell _ _ _ i (fun e => hb (by rw [show b = i from e.symm]; exact hi))).trans h

set_option maxHeartbeats 4000000 in
set_option maxRecDepth 100000 in
theorem deep_in (l : Bool) (k : Int) (x : List UInt8) (a : Int) (A : Option Addr) (F : Forest) (c : Nat) (w : World) (hx : x.length ≤ 100000) (hn : F.len ≤ c) (hc : c ≤ maxLen) (hfit : FitsT F) (hd : hgt F + 1 ≤ 1000000) (hF : Lies w F A 0) (m : Nat) (hm : 6 ≤ m) :
    CallsIn Fence.wide m Tryd.prog 13 #[.agg #[.bool l, .int .u8 k, .string (bstr x), .int .i64 a, .slice A F.len c]] w fun e w' => e = .returned (.int .i64 ((deepOf (partsT l k x a F true 0) : Nat) : Int)) ∧ Below w.heap.size w w' := by
  have hdd : ∀ k : Nat, (Fence.wide.depth.isSome = true → 1 ≤ k) := fun k h => by cases h
  refine callsIn_of_wp_marks Tryd.func13 rfl trivial ?_ rfl
  simp only [Tryd.ntmps13, List.size_toArray, List.length_cons, List.length_nil, Nat.reduceAdd, Nat.reduceSub, Array.replicate_succ, Array.replicate_zero, List.push_toArray, List.append_toArray, List.nil_append, List.cons_append]
  gi_wp2_with (refine ⟨trivial, hdd _, ?_⟩; refine (parts_in l k x a A F.len c _ _).mono ?_; rintro e w' ⟨rfl, rfl⟩)
  obtain ⟨W0, hW0⟩ : ∃ W0 : World, W0 = (((w.alloc (.cells #[.bool l, .int .u8 k, .string (bstr x), .int .i64 a, .slice A F.len c] 27)).alloc (.cells #[.int .i64 0] 3)).alloc (.cells #[.bool l, .int .u8 k, .string (bstr x), .int .i64 a, .slice A F.len c] 27)) := ⟨_, rfl⟩
  have hs0 : W0.heap.size = w.heap.size + 3 := by rw [hW0]; simp [World.size_alloc]
  have hb0 : Below w.heap.size w W0 := by
    rw [hW0]
    exact bel_trans (below_two w _ _) ((Below.refl _ _).alloc (Nat.le_refl _) _)
  have htop : Boxed W0 (w.heap.size + 1) 3 (.int .i64 0) := by
    rw [hW0]
    have h1 := Boxed.new (w.alloc (.cells #[.bool l, .int .u8 k, .string (bstr x), .int .i64 a, .slice A F.len c] 27)) 3 (.int .i64 0)
    rw [World.size_alloc] at h1
    exact (Below.heap_alloc _ _ _ h1.lt).trans h1
  have hbt : ∀ j, W0.cell? ⟨w.heap.size + 2, j, none⟩ = (#[Value.bool l, .int .u8 k, .string (bstr x), .int .i64 a, .slice A F.len c] : Array Value)[j]? := fun j => by
    have := World.cell?_alloc_mark ((w.alloc (.cells #[.bool l, .int .u8 k, .string (bstr x), .int .i64 a, .slice A F.len c] 27)).alloc (.cells #[.int .i64 0] 3)) #[.bool l, .int .u8 k, .string (bstr x), .int .i64 a, .slice A F.len c] 27 (0, 0) j
    rw [World.size_alloc, World.size_alloc] at this
    rw [hW0]; exact this
  have hFB : LiesB (· < w.heap.size + 1) W0 F A 0 := by
    have h3 : KeptB (· < w.heap.size) w W0 := fun i hi cc tt fr h => (hb0.block i hi).trans h
    exact (hF.old.kept h3).mono (fun i hi => Nat.lt_succ_of_lt hi)
  rw [← hW0]
  refine wpIn_rangeFunc_ownH (n := m) rfl (by omega) (gf := 40) (lb := #[.pointer (some ⟨w.heap.size + 2, 0, none⟩)]) rfl trivial (enters_of Tryd.func40 (by kernel_rfl) rfl)
    (iter_stops (m - 1) (w.heap.size + 1) (w.heap.size + 2) (w.heap.size + 2) l k x a A F c W0 hx hn hc hfit hd (by omega) (by omega) hFB (by omega) (hbt 0) (hbt 1) (hbt 2) (hbt 3) (hbt 4)) kpP_t kpP_b (Below.refl _ _) (fun _ => rfl)
    (fun pre W => Boxed W (w.heap.size + 1) 3 (.int .i64 ((deepOf (pre.map Part.s) : Nat) : Int)) ∧ Below w.heap.size w W ∧ W0.heap.size ≤ W.heap.size)
    (fun _ _ _ => False)
    (OwnFrom.and (Own.from (boxed_own _ _ _) _) (OwnFrom.and (ownFrom_below (Nat.le_refl _) (by omega)) (size_own _ _)))
    (fun _ _ _ _ _ hs _ _ => hs)
    ⟨htop, hb0, Nat.le_refl _⟩
    (fun p a' W => ∃ Bx, PBox W0.heap.size p Bx W ∧ a' = { tmps := #[.agg #[.bool l, .int .u8 k, .string (bstr x), .int .i64 a, .slice A F.len c], .pointer (some ⟨w.heap.size, 0, none⟩), .int .i64 0, .pointer (some ⟨w.heap.size + 1, 0, none⟩), .pointer (some ⟨Bx, 0, none⟩), .agg #[.bool l, .int .u8 k, .string (bstr x), .int .i64 a, .slice A F.len c], .func (.func 40) #[] #[.pointer (some ⟨w.heap.size + 2, 0, none⟩)], .agg #[.bool p.l, .int .u8 p.k, .string (bstr p.x), .int .i64 p.a, .slice p.A p.n p.c, .bool p.ends, .bool p.first, .int .i64 ((p.depth : Nat) : Int)], undef, undef, undef, undef, undef, undef, undef, undef, undef, undef, undef, undef, undef, undef], defers := [] })
    (fun p a' => fun s W W' row hs hg hr => by obtain ⟨Bx, hB, ha⟩ := hs; exact ⟨Bx, pbox_own _ p Bx _ () W W' row hB hg hr, ha⟩) ?assign ?body ?done ?stop
  case assign =>
    rintro l0 pre p W K ⟨hb, hbel, hsz⟩ hK
    unfold encP
    gi_wp2
    exact hK _ _ ((KeepsOthers.alloc _ _).from _) ⟨(KeptO.refl _ _ W).alloc _, by rw [World.size_alloc]; omega⟩ ⟨(Below.heap_alloc _ _ _ hb.lt).trans hb, hbel.alloc hbel.size _, by rw [World.size_alloc]; omega⟩ ⟨W.heap.size, ⟨hsz, World.alloc_heap_new W _⟩, rfl⟩
  case body =>
    rintro l0 pre p a' W hl0 ⟨r, hr⟩ ⟨hb, hbel, hsz⟩ ⟨Bx, ⟨hBx, hp⟩, rfl⟩ hlt
    have hc := hb.cell
    have hf := hb.frozen
    have p0 : W.cell? ⟨Bx, 0, none⟩ = some (.bool p.l) := by simp [World.cell?, hp]
    have p7 : W.cell? ⟨Bx, 7, none⟩ = some (.int .i64 ((p.depth : Nat) : Int)) := by simp [World.cell?, hp]
    have hsnoc : deepOf ((pre ++ [p]).map Part.s) = deepStep (deepOf (pre.map Part.s)) p.s := by simp [deepOf]
    have hpd := p.hd
    have hps : p.s.l = p.l ∧ p.s.depth = p.depth := ⟨rfl, rfl⟩
    have HSN := Lib.hid hsnoc
    clear hsnoc
    cases hl : p.l with
    | false =>
      rw [hl] at p0
      have hst : Hid (deepOf ((pre ++ [p]).map Part.s) = deepOf (pre.map Part.s)) := by
        show _ = _
        rw [HSN.out]; unfold deepStep; rw [if_neg (by rw [hps.1, hl]; simp)]
      generalize deepOf (pre.map Part.s) = t at *
      gi_wp2
      exact ⟨(KeepsOthers.refl W).from _, ⟨.refl _ _ _, Nat.le_refl _⟩, by rw [hst.out]; exact hb, hbel, hsz⟩
    | true =>
      rw [hl] at p0
      by_cases hd2 : p.depth ≤ 200
      · have d1 : decide (((p.depth : Nat) : Int) ≤ 200) = true := by simp; omega
        have hst : Hid (deepOf ((pre ++ [p]).map Part.s) = max (deepOf (pre.map Part.s)) (p.depth + 1)) := by
          show _ = _
          rw [HSN.out]; unfold deepStep; rw [if_pos ⟨by rw [hps.1, hl], by rw [hps.2]; exact hd2⟩, hps.2]
        generalize deepOf (pre.map Part.s) = t at *
        gi_wp2
        have hmx : max ((t : Nat) : Int) (((p.depth : Nat) : Int) + 1) = ((max t (p.depth + 1) : Nat) : Int) := by omega
        rw [hmx]
        refine ⟨(KeepsOthers.setCell _ _ _).from _, ⟨.of (KeptB.setCell W _ (by unfold Out; omega) _ _), by simp [World.setCell]⟩, ?_, hbel.setCell (p := ⟨w.heap.size + 1, 0, none⟩) (by simp) _, by simpa [World.setCell] using hsz⟩
        rw [hst.out]
        exact heap_setCell_at hb
      · have d1 : decide (((p.depth : Nat) : Int) ≤ 200) = false := by simp; omega
        have hst : Hid (deepOf ((pre ++ [p]).map Part.s) = deepOf (pre.map Part.s)) := by
          show _ = _
          rw [HSN.out]; unfold deepStep; rw [if_neg (by rw [hps.2]; omega)]
        generalize deepOf (pre.map Part.s) = t at *
        gi_wp2
        exact ⟨(KeepsOthers.refl W).from _, ⟨.refl _ _ _, Nat.le_refl _⟩, by rw [hst.out]; exact hb, hbel, hsz⟩
  case done =>
    rintro D xs W hD hS ⟨hb, hbel, hsz⟩ hK
    have hc := hb.cell
    have hS2 : xs.map Part.s = partsT l k x a F true 0 := hS
    rw [hS2] at hc
    gi_wp2
    refine ⟨by simp, .inl ⟨_, _, rfl, run_takeDeferred hK, ?_⟩⟩
    exact ⟨_, results_tmp rfl _ _ _, rfl, hbel.grown (grownBy_putObj' W D _) hbel.size (fun k e => by cases e; omega)⟩
  case stop =>
    rintro D cc pre W _ _ h _
    exact h.elim
theorem topAt_deep : ∀ (F : Forest) (d : Nat), 200 < d → topAt d F = 0
  | .nil, _, _ => rfl
  | .cons l k x a kids rest, d, h => by
    rw [topAt_cons, topAt_deep rest d h]
    unfold depT
    rw [if_neg (by omega)]; rfl
/-- The deepest of the parts, from a depth on. -/
theorem deep_parts : ∀ (F : Forest) (f : Bool) (d t : Nat), (partsF F f d).foldl deepStep t = max t (if topAt d F = 0 then 0 else d + topAt d F)
  | .nil, _, _, _ => by simp [partsF, topAt]
  | .cons l k x a kids rest, f, d, t => by
    have ihr := fun t => deep_parts rest false d t
    have ihk := fun t => deep_parts kids true (d + 1) t
    cases l with
    | false =>
      simp only [partsF, Bool.false_eq_true, if_false, List.cons_append, List.nil_append, List.foldl_cons, ihr, deepStep, false_and, topAt_cons, depT, Nat.zero_max]
    | true =>
      simp only [partsF, if_true, List.cons_append, List.append_assoc, List.nil_append, List.foldl_cons, List.foldl_append, ihr, ihk, deepStep, true_and, topAt_cons, depT]
      by_cases h : d ≤ 200
      · simp only [if_pos h]
        split <;> split <;> split <;> omega
      · have h1 := topAt_deep kids (d + 1) (by omega)
        simp only [if_neg h, h1, if_true, Nat.max_zero, Nat.zero_max]
theorem deep_tree (l : Bool) (k : Int) (x : List UInt8) (a : Int) (F : Forest) : deepOf (partsT l k x a F true 0) = depT l 0 F := by
  have h : partsT l k x a F true 0 = partsF (.cons l k x a F .nil) true 0 := by simp [partsF, partsT]
  rw [h]
  unfold deepOf
  rw [deep_parts, topAt_cons]
  have hz : topAt 0 Forest.nil = 0 := rfl
  rw [hz]
  generalize depT l 0 F = y
  by_cases h0 : max y 0 = 0
  · rw [if_pos h0]; omega
  · rw [if_neg h0]; omega
/-- tree.Depth. -/
theorem tdepth_calls (l : Bool) (k : Int) (x : List UInt8) (a : Int) (A : Option Addr) (F : Forest) (c : Nat) (w : World) (hx : x.length ≤ 100000) (hn : F.len ≤ c) (hc : c ≤ maxLen) (hfit : FitsT F) (hd : hgt F + 1 ≤ 1000000) (hF : Lies w F A 0) :
    Calls Tryd.prog 13 #[.agg #[.bool l, .int .u8 k, .string (bstr x), .int .i64 a, .slice A F.len c]] w fun e w' => e = .returned (.int .i64 ((depT l 0 F : Nat) : Int)) ∧ Below w.heap.size w w' := by
  have := callsIn_wide.1 (deep_in l k x a A F c w hx hn hc hfit hd hF 6 (Nat.le_refl _))
  rw [deep_tree] at this
  exact this
end Go.Proofs.YtppbijbgnhmdaaaDoor

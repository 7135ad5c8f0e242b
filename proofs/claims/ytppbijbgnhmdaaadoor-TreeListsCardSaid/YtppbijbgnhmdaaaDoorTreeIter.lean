/- What a tree's text is made of: the iterator's contract. -/
import Derived.Test.YtppbijbgnhmdaaaDoorTreeVisit
import Derived.Laws.EntriesVeiled
namespace Go.Proofs.YtppbijbgnhmdaaaDoor
open Go.RowKit Forest Go.Shelf
attribute [local go_sem] Oper.semAt_some

/-- What a round keeps. -/
def KpP (n₀ n₁ : Nat) (W W' : World) : Prop := KeptO n₀ n₁ W W' ∧ W.heap.size ≤ W'.heap.size
theorem kpP_t {n₀ n₁ : Nat} {A B C : World} (h : KpP n₀ n₁ A B) (k : KpP n₀ n₁ B C) : KpP n₀ n₁ A C := ⟨h.1.trans k.1, Nat.le_trans h.2 k.2⟩
theorem kpP_b {n₀ n₁ : Nat} {w : World} (W : World) (l : Nat) (o o' : Obj) (_ : w.heap.size ≤ l) (h : W.heap[l]? = some o) (hc : o.isCells = false) (_ : o.isWalk = false) : KpP n₀ n₁ W (W.putObj l o') :=
  ⟨.of (KeptB.putObj W l o o' h hc), (grownBy_putObj' W l o').size⟩

set_option maxHeartbeats 4000000 in
set_option maxRecDepth 100000 in
/-- The iterator hands on the parts of the tree in its box, in order; or a part of them. -/
theorem iter_stops (m n₀ n₁ Bt : Nat) (l : Bool) (k : Int) (x : List UInt8) (a : Int) (A : Option Addr) (F : Forest) (c : Nat) (w : World) (hx : x.length ≤ 100000) (hn : F.len ≤ c) (hc : c ≤ maxLen) (hfit : FitsT F) (hd : hgt F + 1 ≤ 1000000)
    (h01 : n₀ ≤ n₁) (h1w : n₁ ≤ w.heap.size) (hF : LiesB (· < n₀) w F A 0) (hBt : Bt < w.heap.size)
    (t0 : w.cell? ⟨Bt, 0, none⟩ = some (.bool l)) (t1 : w.cell? ⟨Bt, 1, none⟩ = some (.int .u8 k)) (t2 : w.cell? ⟨Bt, 2, none⟩ = some (.string (bstr x))) (t3 : w.cell? ⟨Bt, 3, none⟩ = some (.int .i64 a)) (t4 : w.cell? ⟨Bt, 4, none⟩ = some (.slice A F.len c)) :
    SeqStopsK Fence.wide m Tryd.prog 40 #[.pointer (some ⟨Bt, 0, none⟩)] encP (KpP n₀ n₁) (fun xs => xs.map Part.s = partsT l k x a F true 0) (fun q => q.map Part.s <+: partsT l k x a F true 0) (partsT l k x a F true 0).length w := by
  intro lr J Jx W hW hJ _ hY hJ0
  have hdd : ∀ k : Nat, (Fence.wide.depth.isSome = true → 1 ≤ k) := fun k h => by cases h
  have hsz : w.heap.size ≤ W.heap.size := hW.size
  have c0 := (hW.cell (p := ⟨Bt, 0, none⟩) hBt).trans t0
  have c1 := (hW.cell (p := ⟨Bt, 1, none⟩) hBt).trans t1
  have c2 := (hW.cell (p := ⟨Bt, 2, none⟩) hBt).trans t2
  have c3 := (hW.cell (p := ⟨Bt, 3, none⟩) hBt).trans t3
  have c4 := (hW.cell (p := ⟨Bt, 4, none⟩) hBt).trans t4
  refine callsIn_of_wp Tryd.func40 rfl trivial ?_ rfl
  simp only [Tryd.ntmps40, List.size_toArray, List.length_cons, List.length_nil, Nat.reduceAdd, Nat.reduceSub, Array.replicate_succ, Array.replicate_zero, List.push_toArray, List.append_toArray, List.nil_append, List.cons_append]
  obtain ⟨W1, hW1⟩ : ∃ W1 : World, W1 = (W.alloc (.cells #[.func (.yield lr) #[] #[]] 77)).alloc (.cells #[.func (.func 41) #[] #[.pointer (some ⟨W.heap.size, 0, none⟩), .pointer (some ⟨W.heap.size + 1, 0, none⟩)]] 78) := ⟨_, rfl⟩
  have hk1 : KeptB (Out n₀ n₁) W W1 := by rw [hW1]; exact ((KeptB.refl _ W).alloc _).alloc _
  have hs1 : W.heap.size + 2 = W1.heap.size := by rw [hW1, World.size_alloc, World.size_alloc]
  have hy0 : W1.heap[W.heap.size]? = some (.cells #[.func (.yield lr) #[] #[]] 77 (0, 0)) := by
    rw [hW1]
    exact (Below.heap_alloc _ _ _ (by rw [World.size_alloc]; exact Nat.lt_succ_self _)).trans (World.alloc_heap_new W _)
  have hv0 : W1.heap[W.heap.size + 1]? = some (.cells #[.func (.func 41) #[] #[.pointer (some ⟨W.heap.size, 0, none⟩), .pointer (some ⟨W.heap.size + 1, 0, none⟩)]] 78 (0, 0)) := by
    rw [hW1]
    have := World.alloc_heap_new (W.alloc (.cells #[.func (.yield lr) #[] #[]] 77)) (.cells #[.func (.func 41) #[] #[.pointer (some ⟨W.heap.size, 0, none⟩), .pointer (some ⟨W.heap.size + 1, 0, none⟩)]] 78)
    rw [World.size_alloc] at this
    exact this
  have hJ1 : J [] W1 := by rw [hW1]; exact hJ _ _ _ none (hJ _ _ _ none hJ0 (World.grownBy_alloc W _ none) (fun r e => by cases e)) (World.grownBy_alloc _ _ none) (fun r e => by cases e)
  have hFW : LiesB (· < n₀) W1 F A 0 := by
    have h0 : KeptB (· < n₀) w W := fun i hi cc t fr h => (hW.block i (by omega)).trans h
    exact hF.kept (h0.trans (hk1.mono (fun _ hi => .inl hi)))
  have hcall := visit_in lr n₀ n₁ (partsT l k x a F true 0).length W.heap.size (W.heap.size + 1) W.heap.size J Jx (by omega) (by omega) hJ
    (fun mm pre p WW hj hl => by
      obtain ⟨fn, tmps, assign, body, h1, h2⟩ := hY pre p WW hj hl
      have h3 : YieldAt Fence.wide mm Tryd.prog lr (encP p) WW _ := ⟨fn, tmps, assign, body, h1, ⟨h2.1, fun cc cs _ => h2.2 cc cs (fun dd h => by cases h)⟩⟩
      refine YieldAt.mono h3 (fun e W' h => ?_)
      rcases h with ⟨he, h1, h2⟩ | h
      · exact .inl ⟨he, h1, h2.1, h2.2⟩
      · exact .inr h)
    F l k x a A c true 0 (m - 1) [] W1 hx hn hc hfit (by omega) hFW (by omega) hy0 hv0 hJ1 (by simp)
  have HCALL := Lib.hid hcall
  have hW2 := hW1
  have b0 := cell_alloc (cell_alloc c0 (.cells #[.func (.yield lr) #[] #[]] 77)) (.cells #[.func (.func 41) #[] #[.pointer (some ⟨W.heap.size, 0, none⟩), .pointer (some ⟨W.heap.size + 1, 0, none⟩)]] 78)
  have b1 := cell_alloc (cell_alloc c1 (.cells #[.func (.yield lr) #[] #[]] 77)) (.cells #[.func (.func 41) #[] #[.pointer (some ⟨W.heap.size, 0, none⟩), .pointer (some ⟨W.heap.size + 1, 0, none⟩)]] 78)
  have b2 := cell_alloc (cell_alloc c2 (.cells #[.func (.yield lr) #[] #[]] 77)) (.cells #[.func (.func 41) #[] #[.pointer (some ⟨W.heap.size, 0, none⟩), .pointer (some ⟨W.heap.size + 1, 0, none⟩)]] 78)
  have b3 := cell_alloc (cell_alloc c3 (.cells #[.func (.yield lr) #[] #[]] 77)) (.cells #[.func (.func 41) #[] #[.pointer (some ⟨W.heap.size, 0, none⟩), .pointer (some ⟨W.heap.size + 1, 0, none⟩)]] 78)
  have b4 := cell_alloc (cell_alloc c4 (.cells #[.func (.yield lr) #[] #[]] 77)) (.cells #[.func (.func 41) #[] #[.pointer (some ⟨W.heap.size, 0, none⟩), .pointer (some ⟨W.heap.size + 1, 0, none⟩)]] 78)
  clear hcall hFW hJ1 hv0 hy0 hk1 hJ0 hY hJ hF t0 t1 t2 t3 t4 c0 c1 c2 c3 c4 hW1
  gi_wp2_with (refine ⟨trivial, hdd _, ?_⟩; rw [← hW2]; refine HCALL.out.mono ?_; clear HCALL; rintro e W3 (⟨rfl, xs, hxs, hJ3, _, _⟩ | ⟨rfl, q, hq, hx3⟩))
  · go_end0
    exact ⟨⟨_, rfl⟩, .inl ⟨xs, hxs, by simpa using hJ3⟩⟩
  · go_end0
    exact ⟨⟨_, rfl⟩, .inr ⟨q, hq, by simpa using hx3⟩⟩
end Go.Proofs.YtppbijbgnhmdaaaDoor

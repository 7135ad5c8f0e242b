/- What a tree's text is made of, told by tree.parts: the iterator. -/
import Derived.Test.YtppbijbgnhmdaaaDoorTks
import Derived.RangeFuncNested
import Derived.RangeFuncBound
import Derived.RangeFuncCalls
import Derived.RangeFuncLeaves
import Derived.Shelf.Abstract
import Derived.Shelf.RegionOpen
import Derived.OwnWalkIn
import Derived.TacticsInMore
import Derived.LoopNIn
import Derived.LoopIn
namespace Go.Proofs.YtppbijbgnhmdaaaDoor
open Go.RowKit Forest Go.Shelf
attribute [local go_sem] Oper.semAt_some

/-- Lies, in blocks of which B holds. -/
def LiesB (B : Nat → Prop) (w : World) : Forest → Option Addr → Nat → Prop
  | .nil, _, _ => True
  | .cons l k x a kids rest, A, i => (∃ g o, A = some ⟨g, o, none⟩ ∧ B g ∧ w.cell? ⟨g, o + i * 5, none⟩ = some (.bool l) ∧ w.cell? ⟨g, o + i * 5 + 1, none⟩ = some (.int .u8 k) ∧ w.cell? ⟨g, o + i * 5 + 2, none⟩ = some (.string (bstr x)) ∧ w.cell? ⟨g, o + i * 5 + 3, none⟩ = some (.int .i64 a) ∧
      ∃ A' c', w.cell? ⟨g, o + i * 5 + 4, none⟩ = some (.slice A' kids.len c') ∧ kids.len ≤ c' ∧ c' ≤ maxLen ∧ LiesB B w kids A' 0) ∧ LiesB B w rest A (i + 1)
theorem LiesB.lies {B : Nat → Prop} {w : World} : ∀ {F : Forest} {A : Option Addr} {i : Nat}, LiesB B w F A i → Lies w F A i
  | .nil, _, _, _ => trivial
  | .cons _ _ _ _ _ _, _, _, ⟨⟨g, o, e, _, h0, h1, h2, h3, A', c', h4, h5, h6, h7⟩, hr⟩ => ⟨⟨g, o, e, h0, h1, h2, h3, A', c', h4, h5, h6, LiesB.lies h7⟩, LiesB.lies hr⟩
theorem Lies.old {w : World} : ∀ {F : Forest} {A : Option Addr} {i : Nat}, Lies w F A i → LiesB (· < w.heap.size) w F A i
  | .nil, _, _, _ => trivial
  | .cons _ _ _ _ _ _, _, _, ⟨⟨g, o, e, h0, h1, h2, h3, A', c', h4, h5, h6, h7⟩, hr⟩ => ⟨⟨g, o, e, World.block_lt_of_cell? w _ h0, h0, h1, h2, h3, A', c', h4, h5, h6, Lies.old h7⟩, Lies.old hr⟩
/-- Cells of which B holds lie as they lay. -/
def KeptB (B : Nat → Prop) (w W : World) : Prop := ∀ i, B i → ∀ c t fr, w.heap[i]? = some (.cells c t fr) → W.heap[i]? = some (.cells c t fr)
theorem KeptB.cell {B : Nat → Prop} {w W : World} (h : KeptB B w W) {g o : Nat} {v : Value} (hg : B g) (hc : w.cell? ⟨g, o, none⟩ = some v) : W.cell? ⟨g, o, none⟩ = some v := by
  unfold World.cell? at hc ⊢
  cases hb : w.heap[g]? with
  | none => simp [hb] at hc
  | some ob =>
    cases ob with
    | cells c t fr => rw [h g hg c t fr hb]; rw [hb] at hc; exact hc
    | _ => simp [hb] at hc
theorem LiesB.kept {B : Nat → Prop} {w W : World} (hk : KeptB B w W) : ∀ {F : Forest} {A : Option Addr} {i : Nat}, LiesB B w F A i → LiesB B W F A i
  | .nil, _, _, _ => trivial
  | .cons _ _ _ _ _ _, _, _, ⟨⟨g, o, e, hg, h0, h1, h2, h3, A', c', h4, h5, h6, h7⟩, hr⟩ =>
    ⟨⟨g, o, e, hg, hk.cell hg h0, hk.cell hg h1, hk.cell hg h2, hk.cell hg h3, A', c', hk.cell hg h4, h5, h6, LiesB.kept hk h7⟩, LiesB.kept hk hr⟩
theorem KeptB.refl (B : Nat → Prop) (w : World) : KeptB B w w := fun _ _ _ _ _ h => h
theorem KeptB.trans {B : Nat → Prop} {a b c : World} (h : KeptB B a b) (k : KeptB B b c) : KeptB B a c := fun i hi x t fr hx => k i hi x t fr (h i hi x t fr hx)
theorem KeptB.mono {B B' : Nat → Prop} {a b : World} (h : KeptB B a b) (hb : ∀ i, B' i → B i) : KeptB B' a b := fun i hi => h i (hb i hi)
theorem KeptB.alloc {B : Nat → Prop} {a b : World} (h : KeptB B a b) (o : Obj) : KeptB B a (b.alloc o) := fun i hi x t fr hx => by
  have h1 := h i hi x t fr hx
  exact (Below.heap_alloc _ o i (Array.getElem?_eq_some_iff.1 h1).1).trans h1
theorem KeptB.putObj {B : Nat → Prop} (W : World) (l : Nat) (o o' : Obj) (h : W.heap[l]? = some o) (hc : o.isCells = false) : KeptB B W (W.putObj l o') := fun i _ x t fr hx => by
  have hne : i ≠ l := fun e => by
    subst e
    rw [hx] at h
    injection h with h
    subst h
    simp [Obj.isCells] at hc
  exact ((grownBy_putObj' W l o').block i (Array.getElem?_eq_some_iff.1 hx).1 (fun e => hne (by injection e))).trans hx

/-- Which blocks a round lets be. -/
def Out (n₀ n₁ : Nat) (i : Nat) : Prop := i < n₀ ∨ n₁ ≤ i
/-- The same, but for rows of bytes among those that lie behind. -/
def KeptO (n₀ n₁ : Nat) (w W : World) : Prop := ∀ i c t fr, w.heap[i]? = some (.cells c t fr) → (i < n₀ ∨ (n₁ ≤ i ∧ t ≠ 5)) → W.heap[i]? = some (.cells c t fr)
theorem KeptO.of {n₀ n₁ : Nat} {w W : World} (h : KeptB (Out n₀ n₁) w W) : KeptO n₀ n₁ w W := fun i c t fr hc hi => h i (hi.imp id (fun h => h.1)) c t fr hc
theorem KeptO.refl (n₀ n₁ : Nat) (w : World) : KeptO n₀ n₁ w w := fun _ _ _ _ h _ => h
theorem KeptO.trans {n₀ n₁ : Nat} {a b c : World} (h : KeptO n₀ n₁ a b) (k : KeptO n₀ n₁ b c) : KeptO n₀ n₁ a c := fun i x t fr hx hi => k i x t fr (h i x t fr hx hi) hi
theorem KeptO.alloc {n₀ n₁ : Nat} {a b : World} (h : KeptO n₀ n₁ a b) (o : Obj) : KeptO n₀ n₁ a (b.alloc o) := fun i x t fr hx hi => by
  have h1 := h i x t fr hx hi
  exact (Below.heap_alloc _ o i (Array.getElem?_eq_some_iff.1 h1).1).trans h1
theorem KeptO.low {n₀ n₁ : Nat} {w W : World} (h : KeptO n₀ n₁ w W) : KeptB (· < n₀) w W := fun i hi c t fr hc => h i c t fr hc (.inl hi)

/-- A part. -/
structure Part where
  l : Bool
  k : Int
  x : List UInt8
  a : Int
  A : Option Addr
  n : Nat
  c : Nat
  ends : Bool
  first : Bool
  depth : Nat
  hx : x.length ≤ 100000
  hn : n ≤ c ∧ c ≤ maxLen
  hd : depth ≤ 1000000
def encP (p : Part) : Array Value := #[.agg #[.bool p.l, .int .u8 p.k, .string (bstr p.x), .int .i64 p.a, .slice p.A p.n p.c, .bool p.ends, .bool p.first, .int .i64 ((p.depth : Nat) : Int)]]
/-- A part without its place in memory. -/
structure PartS where
  l : Bool
  k : Int
  x : List UInt8
  a : Int
  n : Nat
  ends : Bool
  first : Bool
  depth : Nat
def Part.s (p : Part) : PartS := ⟨p.l, p.k, p.x, p.a, p.n, p.ends, p.first, p.depth⟩

/-- The parts of trees at a depth; the first one is the first of its list. -/
def partsF : Forest → Bool → Nat → List PartS
  | .nil, _, _ => []
  | .cons l k x a kids rest, f, d => (⟨l, k, x, a, kids.len, false, f, d⟩ :: (if l then partsF kids true (d + 1) ++ [⟨l, k, x, a, kids.len, true, false, d⟩] else [])) ++ partsF rest false d
def partsT (l : Bool) (k : Int) (x : List UInt8) (a : Int) (kids : Forest) (f : Bool) (d : Nat) : List PartS :=
  ⟨l, k, x, a, kids.len, false, f, d⟩ :: (if l then partsF kids true (d + 1) ++ [⟨l, k, x, a, kids.len, true, false, d⟩] else [])
/-- How many lists stand within one another. -/
def hgt : Forest → Nat
  | .nil => 0
  | .cons _ _ _ _ kids rest => max (hgt kids + 1) (hgt rest)
def FitsT : Forest → Prop
  | .nil => True
  | .cons _ _ x _ kids rest => x.length ≤ 100000 ∧ FitsT kids ∧ FitsT rest

/-- tree.parts hands back the iterator; the tree lies in a box. -/
theorem parts_in (l : Bool) (k : Int) (x : List UInt8) (a : Int) (A : Option Addr) (n c : Nat) (m : Nat) (w : World) :
    CallsIn Fence.wide m Tryd.prog 25 #[.agg #[.bool l, .int .u8 k, .string (bstr x), .int .i64 a, .slice A n c]] w fun e w' => e = .returned (.func (.func 40) #[] #[.pointer (some ⟨w.heap.size, 0, none⟩)]) ∧ w' = w.alloc (.cells #[.bool l, .int .u8 k, .string (bstr x), .int .i64 a, .slice A n c] 27) := by
  refine callsIn_of_wp Tryd.func25 rfl trivial ?_ rfl
  simp only [Tryd.ntmps25, List.size_toArray, List.length_cons, List.length_nil, Nat.reduceAdd, Nat.reduceSub, Array.replicate_succ, Array.replicate_zero, List.push_toArray, List.append_toArray, List.nil_append, List.cons_append]
  gi_wp2
  go_ret
  exact ⟨rfl, rfl⟩
end Go.Proofs.YtppbijbgnhmdaaaDoor

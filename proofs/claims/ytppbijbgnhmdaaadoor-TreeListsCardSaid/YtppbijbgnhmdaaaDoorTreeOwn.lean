/- Rows of trees that a call has made itself. -/
import Derived.Test.YtppbijbgnhmdaaaDoorTreeParts
namespace Go.Proofs.YtppbijbgnhmdaaaDoor
open Go.RowKit Forest

namespace Forest
def app : Forest → Forest → Forest
  | nil, G => G
  | cons l k x a kids rest, G => cons l k x a kids (rest.app G)
theorem app_nil : ∀ F : Forest, F.app nil = F
  | nil => rfl
  | cons l k x a kids rest => by simp [app, app_nil rest]
theorem app_assoc : ∀ F G H : Forest, (F.app G).app H = F.app (G.app H)
  | nil, _, _ => rfl
  | cons l k x a kids rest, G, H => by simp [app, app_assoc rest]
theorem len_app : ∀ F G : Forest, (F.app G).len = F.len + G.len
  | nil, G => by simp [app, len]
  | cons l k x a kids rest, G => by simp [app, len, len_app rest]; omega
end Forest
/-- One tree. -/
structure Tr where
  l : Bool
  k : Int
  x : List UInt8
  a : Int
  F : Forest
def Tr.f (T : Tr) : Forest := .cons T.l T.k T.x T.a T.F .nil
def Tr.v (T : Tr) (A : Option Addr) (c : Nat) : Value := .agg #[.bool T.l, .int .u8 T.k, .string (bstr T.x), .int .i64 T.a, .slice A T.F.len c]
def Tr.cells (T : Tr) (A : Option Addr) (c : Nat) : List Value := [.bool T.l, .int .u8 T.k, .string (bstr T.x), .int .i64 T.a, .slice A T.F.len c]
def zeroTr : Tr := ⟨false, 0, [], 0, .nil⟩
theorem Tr.len_f (T : Tr) : T.f.len = 1 := rfl

theorem kept_grown {B : Nat → Prop} {w W : World} {row : Option Nat} (h : w.grownBy W row) (hb : ∀ b, B b → row ≠ some b) : KeptB B w W := fun i hi _ _ _ hc =>
  (h.block i (Array.getElem?_eq_some_iff.1 hc).1 (fun e => hb i hi e.symm)).trans hc
theorem kept_below {B : Nat → Prop} {w W : World} (h : Below w.heap.size w W) : KeptB B w W := fun i _ _ _ _ hc =>
  (h.block i (Array.getElem?_eq_some_iff.1 hc).1).trans hc
theorem LiesB.imp {B B' : Nat → Prop} {w : World} (hb : ∀ i, B i → B' i) : ∀ {F : Forest} {A : Option Addr} {i : Nat}, LiesB B w F A i → LiesB B' w F A i
  | .nil, _, _, _ => trivial
  | .cons _ _ _ _ _ _, _, _, ⟨⟨g, o, e, hg, h0, h1, h2, h3, A', c', h4, h5, h6, h7⟩, hr⟩ => ⟨⟨g, o, e, hb _ hg, h0, h1, h2, h3, A', c', h4, h5, h6, LiesB.imp hb h7⟩, LiesB.imp hb hr⟩
theorem LiesB.lt {B : Nat → Prop} {w : World} : ∀ {F : Forest} {A : Option Addr} {i : Nat}, LiesB B w F A i → LiesB (fun b => B b ∧ b < w.heap.size) w F A i
  | .nil, _, _, _ => trivial
  | .cons _ _ _ _ _ _, _, _, ⟨⟨g, o, e, hg, h0, h1, h2, h3, A', c', h4, h5, h6, h7⟩, hr⟩ => ⟨⟨g, o, e, ⟨hg, World.block_lt_of_cell? w _ h0⟩, h0, h1, h2, h3, A', c', h4, h5, h6, LiesB.lt h7⟩, LiesB.lt hr⟩

/-- A row of trees as cells; the trees' own trees lie in blocks of which B holds. -/
def ElRow (B : Nat → Prop) (w : World) : Forest → List Value → Prop
  | .nil, vs => vs = []
  | .cons l k x a kids rest, vs => ∃ A c vs', vs = (Tr.mk l k x a kids).cells A c ++ vs' ∧ kids.len ≤ c ∧ c ≤ maxLen ∧ LiesB B w kids A 0 ∧ ElRow B w rest vs'
theorem ElRow.app {B : Nat → Prop} {w : World} : ∀ {F G : Forest} {vs us : List Value}, ElRow B w F vs → ElRow B w G us → ElRow B w (F.app G) (vs ++ us)
  | .nil, _, _, _, h, k => by
    have h' : _ = [] := h
    subst h'; exact k
  | .cons _ _ _ _ _ _, _, _, _, ⟨A, c, vs', e, h1, h2, h3, h4⟩, k => ⟨A, c, vs' ++ _, by rw [e, List.append_assoc], h1, h2, h3, ElRow.app h4 k⟩
theorem ElRow.one {B : Nat → Prop} {w : World} (T : Tr) (A : Option Addr) (c : Nat) (h1 : T.F.len ≤ c) (h2 : c ≤ maxLen) (h3 : LiesB B w T.F A 0) : ElRow B w T.f (T.cells A c) :=
  ⟨A, c, [], by simp, h1, h2, h3, rfl⟩
theorem ElRow.snoc {B : Nat → Prop} {w : World} {F : Forest} {vs : List Value} (h : ElRow B w F vs) (T : Tr) (A : Option Addr) (c : Nat) (h1 : T.F.len ≤ c) (h2 : c ≤ maxLen) (h3 : LiesB B w T.F A 0) : ElRow B w (F.app T.f) (vs ++ T.cells A c) :=
  h.app (.one T A c h1 h2 h3)
theorem ElRow.length {B : Nat → Prop} {w : World} : ∀ {F : Forest} {vs : List Value}, ElRow B w F vs → vs.length = F.len * 5
  | .nil, _, h => by
    have h' : _ = [] := h
    subst h'; rfl
  | .cons _ _ _ _ _ rest, _, ⟨A, c, vs', e, _, _, _, h4⟩ => by
    rw [e, List.length_append, ElRow.length h4]; simp [Tr.cells, Forest.len]; omega
theorem ElRow.kept {B : Nat → Prop} {w W : World} (hk : KeptB B w W) : ∀ {F : Forest} {vs : List Value}, ElRow B w F vs → ElRow B W F vs
  | .nil, _, h => h
  | .cons _ _ _ _ _ _, _, ⟨A, c, vs', e, h1, h2, h3, h4⟩ => ⟨A, c, vs', e, h1, h2, h3.kept hk, ElRow.kept hk h4⟩
theorem ElRow.imp {B B' : Nat → Prop} {w : World} (hb : ∀ i, B i → B' i) : ∀ {F : Forest} {vs : List Value}, ElRow B w F vs → ElRow B' w F vs
  | .nil, _, h => h
  | .cons _ _ _ _ _ _, _, ⟨A, c, vs', e, h1, h2, h3, h4⟩ => ⟨A, c, vs', e, h1, h2, h3.imp hb, ElRow.imp hb h4⟩
theorem ElRow.lt {B : Nat → Prop} {w : World} : ∀ {F : Forest} {vs : List Value}, ElRow B w F vs → ElRow (fun b => B b ∧ b < w.heap.size) w F vs
  | .nil, _, h => h
  | .cons _ _ _ _ _ _, _, ⟨A, c, vs', e, h1, h2, h3, h4⟩ => ⟨A, c, vs', e, h1, h2, h3.lt, ElRow.lt h4⟩
theorem row_lies {B B' : Nat → Prop} {w : World} (hb : ∀ b, B b → B' b) {g : Nat} {cur : Array Value} {t : TypeId} {fr : Nat × Nat} (hg : w.heap[g]? = some (.cells cur t fr)) (hB' : B' g) :
    ∀ {F : Forest} {vs : List Value} (i : Nat), ElRow B w F vs → (∀ j u, vs[j]? = some u → cur[i * 5 + j]? = some u) → LiesB B' w F (some ⟨g, 0, none⟩) i
  | .nil, _, _, _, _ => trivial
  | .cons l k x a kids rest, _, i, ⟨A, c, vs', e, h1, h2, h3, h4⟩, hc => by
    subst e
    have hcell : ∀ j u, ((Tr.mk l k x a kids).cells A c ++ vs')[j]? = some u → w.cell? ⟨g, 0 + i * 5 + j, none⟩ = some u := fun j u hj => by
      rw [Nat.zero_add, cell_of_row w g _ cur t fr hg]; exact hc j u hj
    refine ⟨⟨g, 0, rfl, hB', hcell 0 _ rfl, hcell 1 _ rfl, hcell 2 _ rfl, hcell 3 _ rfl, A, c, hcell 4 _ rfl, h1, h2, h3.imp hb⟩, row_lies hb hg hB' (i + 1) h4 fun j u hj => ?_⟩
    have := hc (5 + j) u (by
      have e5 : ((Tr.mk l k x a kids).cells A c).length = 5 := rfl
      rw [List.getElem?_append_right (by omega), e5, Nat.add_sub_cancel_left]; exact hj)
    have e2 : i * 5 + (5 + j) = (i + 1) * 5 + j := by omega
    rwa [e2] at this
/-- A row of the call's own that holds trees is a slice of trees. -/
theorem own_trees {B B' : Nat → Prop} {w : World} {base n : Nat} {v : Value} {F : Forest} {vs : List Value} (h : w.ownsRow base 27 5 v n vs) (he : ElRow B w F vs) (hn : n = F.len) (hb : ∀ b, B b → B' b) (ho : ∀ g, v.ownBlock = some g → B' g) :
    ∃ A c, v = .slice A F.len c ∧ F.len ≤ c ∧ c ≤ maxLen ∧ LiesB B' w F A 0 := by
  subst hn
  rcases h.2 with ⟨rfl, h0⟩ | ⟨g, cap, cur, rfl, hbg, hg, hc, hs, hz, ht⟩
  · have hF : F = .nil := by
      cases F with
      | nil => rfl
      | cons _ _ _ _ _ _ => simp [Forest.len] at h0
    subst hF
    exact ⟨none, 0, rfl, Nat.le_refl _, Nat.zero_le _, trivial⟩
  · refine ⟨some ⟨g, 0, none⟩, cap, rfl, hc, hs, row_lies hb hg (ho g rfl) 0 he fun j u hj => ?_⟩
    rw [← ht, List.getElem?_take] at hj
    split at hj
    · simpa using hj
    · cases hj

theorem ownsRow_one {w : World} {base base' : Nat} {e : TypeId} {size n : Nat} {v : Value} {xs ys : List Value} (h : w.ownsRow base e size v n xs) (k : w.ownsRow base' e size v n ys) : xs = ys := by
  rcases h.2 with ⟨hv1, hv2⟩ | ⟨g1, cap1, cur1, hv1, _, hg1, _, _, _, ht1⟩
  · have a1 := h.1
    have a2 := k.1
    rw [hv2, Nat.zero_mul] at a1 a2
    rw [List.eq_nil_of_length_eq_zero a1, List.eq_nil_of_length_eq_zero a2]
  · rcases k.2 with ⟨hv3, _⟩ | ⟨g4, cap4, cur4, hv4, _, hg4, _, _, _, ht4⟩
    · rw [hv1] at hv3; cases hv3
    · rw [hv1] at hv4; cases hv4
      rw [hg1] at hg4; cases hg4
      rw [← ht1, ← ht4]
/-- The row and the trees of a call's own, at work: blocks from base on. -/
structure Own (w : World) (base : Nat) (v : Value) (F : Forest) : Prop where
  out : ∃ vs, w.ownsRow base 27 5 v F.len vs ∧ ElRow (fun b => base ≤ b ∧ v.ownBlock ≠ some b) w F vs
theorem Own.nil (w : World) (base : Nat) : Own w base (.slice none 0 0) .nil := ⟨[], World.ownsRow_nil _ _ _ _, rfl⟩
theorem Own.below {w W : World} {base : Nat} {v : Value} {F : Forest} (h : Own w base v F) (hb : Below w.heap.size w W) : Own W base v F := by
  obtain ⟨vs, h1, h2⟩ := h.out
  refine ⟨vs, h1.kept (gb_below hb none) ?_, h2.kept (kept_below hb)⟩
  cases v.ownBlock with
  | none => exact .inl rfl
  | some g => exact .inr (by simp)
theorem Own.trees {w : World} {base : Nat} {v : Value} {F : Forest} (h : Own w base v F) : ∃ A c, v = .slice A F.len c ∧ F.len ≤ c ∧ c ≤ maxLen ∧ LiesB (fun b => base ≤ b) w F A 0 := by
  obtain ⟨vs, h1, h2⟩ := h.out
  exact own_trees h1 h2 rfl (fun _ h => h.1) (fun g hg => (h1.lt g hg).1)
theorem Own.set {w : World} {base : Nat} {v : Value} {F : Forest} (h : Own w base v F) {b : Nat} (hb : b < base) (o : Nat) (u : Value) : Own (w.setCell ⟨b, o, none⟩ u) base v F := by
  obtain ⟨vs, h1, h2⟩ := h.out
  exact ⟨vs, ownsRow_setCell_below h1 hb u, h2.kept fun i hi c t fr hc => (Below.heap_setCell _ _ _ i (fun e => by have e2 : i = b := e; omega)).trans hc⟩
/-- Behind an append of one tree. -/
theorem Own.snoc {w W : World} {base : Nat} {v v' : Value} {F : Forest} {T : Tr} {A : Option Addr} {c : Nat} (h : Own w base v F) (_hbase : base ≤ w.heap.size)
    (h1 : T.F.len ≤ c) (h2 : c ≤ maxLen) (h3 : LiesB (fun b => base ≤ b ∧ v.ownBlock ≠ some b) w T.F A 0)
    (hown : ∀ vs, w.ownsRow base 27 5 v F.len vs → ElRow (fun b => base ≤ b ∧ v.ownBlock ≠ some b) w F vs → W.ownsRow base 27 5 v' (F.len + 1) (vs ++ T.cells A c)) (hg : w.grownBy W v.ownBlock)
    (hat : v'.ownBlock = v.ownBlock ∨ ∃ b, v'.ownBlock = some b ∧ w.heap.size ≤ b) : Own W base v' (F.app T.f) := by
  obtain ⟨vs, o1, o2⟩ := h.out
  have hk : KeptB (fun b => base ≤ b ∧ v.ownBlock ≠ some b) w W := kept_grown hg fun b hb e => hb.2 e
  have hnew : ∀ b, (base ≤ b ∧ v.ownBlock ≠ some b) ∧ b < w.heap.size → base ≤ b ∧ v'.ownBlock ≠ some b := fun b hb => ⟨hb.1.1, by
    rcases hat with e | ⟨b', e, hle⟩
    · rw [e]; exact hb.1.2
    · rw [e]; intro e2; injection e2 with e2; omega⟩
  refine ⟨vs ++ T.cells A c, ?_, ?_⟩
  · have := hown vs o1 o2
    rw [Forest.len_app]; exact this
  · have hr : ElRow (fun b => (base ≤ b ∧ v.ownBlock ≠ some b) ∧ b < w.heap.size) w (F.app T.f) (vs ++ T.cells A c) := (o2.snoc T A c h1 h2 h3).lt
    exact (hr.kept (fun i hi => hk i hi.1)).imp hnew
end Go.Proofs.YtppbijbgnhmdaaaDoor

/- The stack of open lists that package tree keeps. -/
import Derived.Test.YtppbijbgnhmdaaaDoorRefNext
namespace Go.Proofs.YtppbijbgnhmdaaaDoor
open Go.RowKit Forest

/-- An open list: its label and its trees so far, and where they lie. -/
structure Frm where
  T : Tr
  A : Option Addr
  c : Nat
def Frm.v (f : Frm) : Value := .slice f.A f.T.F.len f.c
def Frm.cells (f : Frm) : List Value := f.T.cells f.A f.c
def Frm.own (f : Frm) : Option Nat := f.v.ownBlock
/-- The stack's cells, the innermost list being first told. -/
def stCells : List Frm → List Value
  | [] => []
  | f :: fs => stCells fs ++ f.cells
theorem stCells_length : ∀ fs : List Frm, (stCells fs).length = fs.length * 5
  | [] => rfl
  | f :: fs => by simp [stCells, stCells_length fs, Frm.cells, Tr.cells]; omega
def Avoid (o : Option Nat) (fs : List Frm) (b : Nat) : Prop := o ≠ some b ∧ ∀ f ∈ fs, f.own ≠ some b

structure StkAt (W : World) (base : Nat) (v : Value) (fs : List Frm) : Prop where
  row : W.ownsRow base 27 5 v fs.length (stCells fs)
  kids : ∀ f ∈ fs, ∃ vs, W.ownsRow base 27 5 f.v f.T.F.len vs ∧ ElRow (fun b => base ≤ b ∧ Avoid v.ownBlock fs b) W f.T.F vs
  apart : ∀ f ∈ fs, f.own = none ∨ f.own ≠ v.ownBlock
  pair : fs.Pairwise (fun f g => f.own = none ∨ f.own ≠ g.own)
theorem own_kept {w W : World} {base size n : Nat} {e : TypeId} {v : Value} {xs : List Value} {row : Option Nat} (h : w.ownsRow base e size v n xs) (hg : w.grownBy W row) (hne : v.ownBlock = none ∨ v.ownBlock ≠ row) : W.ownsRow base e size v n xs := h.kept hg hne
section
variable {w W : World} {base : Nat} {v v1 : Value} {fs : List Frm} {f : Frm}
theorem StkAt.own_lt (h : StkAt w base v fs) (hf : f ∈ fs) : ∀ b, f.own = some b → base ≤ b ∧ b < w.heap.size := fun b hb => by
  obtain ⟨vs, o, _⟩ := h.kids f hf
  exact o.lt b hb
theorem StkAt.row_lt (h : StkAt w base v fs) : ∀ b, v.ownBlock = some b → base ≤ b ∧ b < w.heap.size := fun b hb => h.row.lt b hb
theorem StkAt.below (h : StkAt w base v fs) (hb : Below w.heap.size w W) : StkAt W base v fs :=
  have hn : ∀ u : Value, u.ownBlock = none ∨ u.ownBlock ≠ none := fun u => by cases u.ownBlock <;> simp
  ⟨own_kept h.row (gb_below hb none) (hn _), fun f hf => by
    obtain ⟨vs, o, e⟩ := h.kids f hf
    exact ⟨vs, own_kept o (gb_below hb none) (hn _), e.kept (kept_below hb)⟩, h.apart, h.pair⟩
/-- A list opens. -/
theorem StkAt.push (h : StkAt w base v fs) (T : Tr) (hT : T.F = .nil) (hown : W.ownsRow base 27 5 v1 (fs.length + 1) (stCells fs ++ T.cells none 0)) (hg : w.grownBy W v.ownBlock)
    (hat : v1.ownBlock = v.ownBlock ∨ ∃ b, v1.ownBlock = some b ∧ w.heap.size ≤ b) : StkAt W base v1 (⟨T, none, 0⟩ :: fs) := by
  have hav : ∀ b, (base ≤ b ∧ Avoid v.ownBlock fs b) ∧ b < w.heap.size → base ≤ b ∧ Avoid v1.ownBlock (⟨T, none, 0⟩ :: fs) b := fun b hb => ⟨hb.1.1, by
    rcases hat with e | ⟨b', e, hle⟩
    · rw [e]; exact hb.1.2.1
    · rw [e]; intro e2; injection e2 with e2; omega, fun f hf => by
    rcases List.mem_cons.1 hf with rfl | hf
    · intro e; cases e
    · exact hb.1.2.2 f hf⟩
  refine ⟨hown, fun f hf => ?_, fun f hf => ?_, List.pairwise_cons.2 ⟨fun g _ => .inl rfl, h.pair⟩⟩
  · rcases List.mem_cons.1 hf with rfl | hf
    · exact ⟨[], by
        have : (⟨T, none, 0⟩ : Frm).v = .slice none 0 0 := by simp [Frm.v, hT, Forest.len]
        rw [this]
        show W.ownsRow _ _ _ _ T.F.len _
        rw [hT]
        exact World.ownsRow_nil _ _ _ _, by show ElRow _ _ T.F _; rw [hT]; rfl⟩
    · obtain ⟨vs, o, e⟩ := h.kids f hf
      exact ⟨vs, own_kept o hg (h.apart f hf), (e.lt.kept (kept_grown hg (fun b hb e => hb.1.2.1 e))).imp hav⟩
  · rcases List.mem_cons.1 hf with rfl | hf
    · exact .inl rfl
    · rcases hat with e | ⟨b', e, hle⟩
      · rw [e]; exact h.apart f hf
      · rw [e]
        exact .inr fun e2 => by have := (h.own_lt hf b' e2).2; omega
/-- A list ends: what is left, and that its trees lie apart. -/
theorem StkAt.pop {A : Option Addr} {c : Nat} (h : StkAt w base (.slice A (fs.length + 1) c) (f :: fs)) : StkAt w base (.slice A fs.length c) fs ∧ f.T.F.len ≤ f.c ∧ f.c ≤ maxLen ∧ LiesB (fun b => base ≤ b ∧ Avoid (Value.slice A fs.length c).ownBlock fs b) w f.T.F f.A 0 := by
  have hob : (Value.slice A (fs.length + 1) c).ownBlock = (Value.slice A fs.length c).ownBlock := by cases A <;> rfl
  have hav : ∀ b, base ≤ b ∧ Avoid (Value.slice A (fs.length + 1) c).ownBlock (f :: fs) b → base ≤ b ∧ Avoid (Value.slice A fs.length c).ownBlock fs b := fun b hb => ⟨hb.1, by rw [← hob]; exact hb.2.1, fun g hg => hb.2.2 g (List.mem_cons_of_mem _ hg)⟩
  have hpair := List.pairwise_cons.1 h.pair
  refine ⟨⟨?_, fun g hg => ?_, fun g hg => ?_, hpair.2⟩, ?_⟩
  · rcases h.row.2 with ⟨_, hz⟩ | ⟨g, cap, cur, hv, hb, hg, hn, hm, hs, ht⟩
    · simp at hz
    · cases hv
      refine ⟨stCells_length fs, .inr ⟨g, c, cur, rfl, hb, hg, by simp at hn; omega, hm, hs, ?_⟩⟩
      have e1 : (cur.toList.take ((f :: fs).length * 5)).take (fs.length * 5) = (stCells (f :: fs)).take (fs.length * 5) := by rw [ht]
      rw [List.take_take, Nat.min_eq_left (by simp; omega)] at e1
      rw [e1, stCells]
      have := stCells_length fs
      rw [← this]
      exact List.take_left
  · obtain ⟨vs, o, e⟩ := h.kids g (List.mem_cons_of_mem _ hg)
    exact ⟨vs, o, e.imp hav⟩
  · rw [← hob]; exact h.apart g (List.mem_cons_of_mem _ hg)
  · obtain ⟨vs, o, e⟩ := h.kids f List.mem_cons_self
    obtain ⟨A', c', hv, q1, q2, q3⟩ := own_trees (B' := fun b => base ≤ b ∧ Avoid (Value.slice A fs.length c).ownBlock fs b) o e rfl hav (fun b hb => ⟨(o.lt b hb).1, by
      rw [← hob]
      intro e2
      rcases h.apart f List.mem_cons_self with e3 | e3
      · rw [show f.own = some b from hb] at e3; cases e3
      · exact e3 ((show f.own = some b from hb).trans e2.symm), fun g hg e2 => by
      rcases hpair.1 g hg with e3 | e3
      · rw [show f.own = some b from hb] at e3; cases e3
      · exact e3 ((show f.own = some b from hb).trans e2.symm)⟩)
    have hv2 : Value.slice f.A f.T.F.len f.c = .slice A' f.T.F.len c' := hv
    cases hv2
    exact ⟨q1, q2, q3⟩
end

/-- The trees as they are handed on: cells of the row. -/
theorem StkAt.cell {W : World} {base m g c : Nat} {p : Frm} {fs : List Frm} (h : StkAt W base (.slice (some ⟨g, 0, none⟩) m c) (p :: fs)) (j : Nat) (u : Value) (hj : p.cells[j]? = some u) : W.cell? ⟨g, fs.length * 5 + j, none⟩ = some u ∧ W.frozen? ⟨g, fs.length * 5 + j, none⟩ = false := by
  have hc := h.row.cells (g := g) rfl (fs.length * 5 + j) u (by
    rw [stCells, List.getElem?_append_right (by rw [stCells_length]; omega), stCells_length, Nat.add_sub_cancel_left]; exact hj)
  rw [Addr.add_mid, Nat.zero_add] at hc
  refine ⟨hc, ?_⟩
  rcases h.row.2 with ⟨hv, _⟩ | ⟨g', cap, cur, hv, _, hg, _⟩
  · cases hv
  · cases hv
    exact frozen_of_row W g _ cur _ hg

theorem StkAt.cap_le {W : World} {base g n c : Nat} {fs : List Frm} (h : StkAt W base (.slice (some ⟨g, 0, none⟩) n c) fs) : fs.length ≤ c := by
  rcases h.row.2 with ⟨hv, _⟩ | ⟨g', cap, cur, hv, _, hg, hn, _⟩
  · cases hv
  · cases hv; exact hn
theorem run_headT (W : World) (g cap n q : Nat) (hqc : q ≤ cap) :
    (Instr.slice 25 (.slice (some ⟨g, 0, none⟩) n cap) none (some (.int .i64 ((q : Nat) : Int))) none).run Tryd.prog W = .ok (.slice (some ⟨g, 0, none⟩) q cap) W := by
  have hs : (sizeOf (Tryd.prog.elem 25)).run Tryd.prog W = .ok 5 W := by kernel_rfl
  rw [run_slice_h W 25 (some ⟨g, 0, none⟩) n cap (by kernel_rfl) .i64 q (by omega) (by omega), hs]
  simp [Result.andThen, sliced, Addr.add]
/-- Cells in the midst of a row, written anew. -/
theorem own_setCells {w : World} {base n : Nat} {e : TypeId} {g cap : Nat} {xs ys us us' : List Value} (h : w.ownsRow base e 5 (.slice (some ⟨g, 0, none⟩) n cap) n (xs ++ us ++ ys)) (hl : us.length = us'.length) :
    (w.setCells g xs.length us').ownsRow base e 5 (.slice (some ⟨g, 0, none⟩) n cap) n (xs ++ us' ++ ys) := by
  rcases h.2 with ⟨hv, _⟩ | ⟨g', cap', cur, hv, hb, hg, hn, hm, hs, ht⟩
  · cases hv
  · cases hv
    obtain ⟨cur', h1, h2, h3⟩ := setCells_at g e (0, 0) us' xs.length w cur hg
    have hlen := h.1
    refine ⟨by simpa [← hl] using hlen, .inr ⟨g, cap, cur', rfl, hb, h1, hn, hm, by rw [h2, hs], ?_⟩⟩
    have hn5 : n * 5 ≤ cur.size := by rw [hs]; exact Nat.mul_le_mul_right _ hn
    apply List.ext_getElem?
    intro j
    rw [List.getElem?_take]
    by_cases hj : j < n * 5
    · rw [if_pos hj]
      have hc := h3 j (by omega)
      have e0 : cur'.toList[j]? = cur'[j]? := by simp
      rw [e0, hc]
      have ht' : cur[j]? = (xs ++ us ++ ys)[j]? := by
        rw [← ht, List.getElem?_take, if_pos hj]; simp
      by_cases h5 : xs.length ≤ j ∧ j < xs.length + us'.length
      · rw [if_pos h5, List.append_assoc, List.getElem?_append_right h5.1, List.getElem?_append_left (by omega)]
      · rw [if_neg h5, ht']
        by_cases hlo : j < xs.length
        · rw [List.append_assoc, List.append_assoc, List.getElem?_append_left hlo, List.getElem?_append_left hlo]
        · rw [List.append_assoc, List.append_assoc, List.getElem?_append_right (by omega), List.getElem?_append_right (by omega), List.getElem?_append_right (by omega), List.getElem?_append_right (by omega), hl]
    · rw [if_neg hj, List.getElem?_eq_none]
      simp at hlen ⊢
      omega

theorem setCell_os (w : World) (a : Addr) (v : Value) : (w.setCell a v).os = w.os := rfl
theorem setCell_tape (w : World) (a : Addr) (v : Value) : (w.setCell a v).tape = w.tape := rfl
theorem setCell_output (w : World) (a : Addr) (v : Value) : (w.setCell a v).output = w.output := rfl
theorem setCell_size (w : World) (a : Addr) (v : Value) : (w.setCell a v).heap.size = w.heap.size := by simp [World.setCell]
/-- The net effect of 'append(kids, tree)' at the innermost list. -/
structure Added (w : World) (g k : Nat) (o : Option Nat) (g3 : Nat) (W : World) : Prop where
  os : W.os = w.os
  tape : W.tape = w.tape
  output : W.output = w.output
  size : w.heap.size ≤ W.heap.size
  block : ∀ i, i < w.heap.size → some i ≠ o → i ≠ g → W.heap[i]? = w.heap[i]?
theorem Added.below {w0 w W : World} {g k g3 : Nat} {o : Option Nat} (h : Added w g k o g3 W) (hb : Below w0.heap.size w0 w) (hg : w0.heap.size ≤ g) (ho : ∀ b, o = some b → w0.heap.size ≤ b) : Below w0.heap.size w0 W :=
  ⟨h.os.trans hb.os, h.tape.trans hb.tape, h.output.trans hb.output, Nat.le_trans hb.size h.size, fun i hi => (h.block i (Nat.lt_of_lt_of_le hi hb.size) (fun e => by have := ho i e.symm; omega) (by omega)).trans (hb.block i hi)⟩

set_option maxHeartbeats 1000000 in
/-- A tree is added to the innermost list. -/
theorem StkAt.add {w W w3 : World} {base : Nat} {fs : List Frm} {p : Frm} {g cap : Nat} {X : Tr} {A' : Option Addr} {c' g3 cap3 : Nat} {zs : List Value}
    (h : StkAt w base (.slice (some ⟨g, 0, none⟩) (fs.length + 1) cap) (p :: fs)) (_hbase : base ≤ w.heap.size)
    (h1 : X.F.len ≤ c') (h2 : c' ≤ maxLen) (h3 : LiesB (fun b => base ≤ b ∧ Avoid (some g) (p :: fs) b) w X.F A' 0)
    (hown : ∀ vs, w.ownsRow base 27 5 p.v p.T.F.len vs → w3.ownsRow base 27 5 (.slice (some ⟨g3, 0, none⟩) (p.T.F.len + 1) cap3) (p.T.F.len + 1) (vs ++ zs)) (hz : zs.length = 5) (hg : w.grownBy w3 p.own)
    (hat : p.own = some g3 ∨ w.heap.size ≤ g3)
    (hW : W = (w3.setCells g3 (p.T.F.len * 5) (X.cells A' c')).setCell ⟨g, fs.length * 5 + 4, none⟩ (.slice (some ⟨g3, 0, none⟩) (p.T.F.len + 1) cap3)) :
    StkAt W base (.slice (some ⟨g, 0, none⟩) (fs.length + 1) cap) (⟨⟨p.T.l, p.T.k, p.T.x, p.T.a, p.T.F.app X.f⟩, some ⟨g3, 0, none⟩, cap3⟩ :: fs) ∧ Added w g 0 p.own g3 W := by
  have hpm : p ∈ p :: fs := List.mem_cons_self
  have hob : (Value.slice (some ⟨g, 0, none⟩) (fs.length + 1) cap).ownBlock = some g := rfl
  have hgb := h.row_lt g hob
  have hpg : p.own = none ∨ p.own ≠ some g := h.apart p hpm
  have hg3g : g3 ≠ g := by
    rcases hat with e | e
    · intro e2; subst e2
      rcases hpg with e3 | e3
      · rw [e3] at e; cases e
      · exact e3 e
    · omega
  have hpne : p.own ≠ some g := by
    rcases hpg with e3 | e3
    · rw [e3]; simp
    · exact e3
  have hpair := List.pairwise_cons.1 h.pair
  have hset := setCells_only g3 (X.cells A' c') (p.T.F.len * 5) w3
  have hadd : Added w g 0 p.own g3 W := by
    refine ⟨?_, ?_, ?_, ?_, fun i hi hne hig => ?_⟩
    · rw [hW, setCell_os]; exact hset.os.trans hg.os
    · rw [hW, setCell_tape]; exact hset.tape.trans hg.tape
    · rw [hW, setCell_output]; exact hset.output.trans hg.output
    · rw [hW, setCell_size]; exact Nat.le_trans hg.size hset.size
    · rw [hW, Below.heap_setCell _ _ _ _ hig]
      have hi3 : i ≠ g3 := by
        rcases hat with e | e
        · intro e2; subst e2; exact hne e.symm
        · omega
      exact (hset.block i (Nat.lt_of_lt_of_le hi hg.size) (fun e => hi3 (by injection e))).trans (hg.block i hi hne)
  have hkeep : KeptB (fun b => b < w.heap.size ∧ p.own ≠ some b ∧ b ≠ g) w W := fun i hi c t fr hc => (hadd.block i hi.1 (fun e => hi.2.1 e.symm) hi.2.2).trans hc
  have hav : ∀ b, (base ≤ b ∧ Avoid (some g) (p :: fs) b) ∧ b < w.heap.size → b < w.heap.size ∧ p.own ≠ some b ∧ b ≠ g := fun b hb => ⟨hb.2, hb.1.2.2 p hpm, fun e => hb.1.2.1 (by rw [e])⟩
  have hav2 : ∀ b, (base ≤ b ∧ Avoid (some g) (p :: fs) b) ∧ b < w.heap.size → base ≤ b ∧ Avoid (some g) (⟨⟨p.T.l, p.T.k, p.T.x, p.T.a, p.T.F.app X.f⟩, some ⟨g3, 0, none⟩, cap3⟩ :: fs) b := fun b hb => ⟨hb.1.1, hb.1.2.1, fun f hf => by
    rcases List.mem_cons.1 hf with rfl | hf
    · show some g3 ≠ some b
      intro e; injection e with e; subst e
      rcases hat with e | e
      · exact hb.1.2.2 p hpm e
      · have := hb.2; omega
    · exact hb.1.2.2 f (List.mem_cons_of_mem _ hf)⟩
  have hkey : ∀ F us, ElRow (fun b => base ≤ b ∧ Avoid (some g) (p :: fs) b) w F us → ElRow (fun b => base ≤ b ∧ Avoid (some g) (⟨⟨p.T.l, p.T.k, p.T.x, p.T.a, p.T.F.app X.f⟩, some ⟨g3, 0, none⟩, cap3⟩ :: fs) b) W F us := fun F us hr => by
    have r1 : ElRow (fun b => (base ≤ b ∧ Avoid (some g) (p :: fs) b) ∧ b < w.heap.size) w F us := hr.lt
    exact (r1.kept (fun i hi => hkeep i (hav i hi))).imp hav2
  refine ⟨⟨?_, fun f hf => ?_, fun f hf => ?_, ?_⟩, hadd⟩
  · -- the stack's own row
    have hrow : (w3.setCells g3 (p.T.F.len * 5) (X.cells A' c')).ownsRow base 27 5 (.slice (some ⟨g, 0, none⟩) (fs.length + 1) cap) (fs.length + 1) (stCells (p :: fs)) := own_kept (own_kept h.row hg (by rw [hob]; exact .inr (fun e => hpne e.symm))) hset (by rw [hob]; exact .inr (fun e => hg3g (by injection e with e; exact e.symm)))
    have e1 : stCells (p :: fs) = (stCells fs ++ [Value.bool p.T.l, .int .u8 p.T.k, .string (bstr p.T.x), .int .i64 p.T.a]) ++ [p.v] ++ [] := by
      simp [stCells, Frm.cells, Tr.cells, Frm.v]
    rw [e1] at hrow
    have hs := own_setCells (xs := stCells fs ++ [Value.bool p.T.l, .int .u8 p.T.k, .string (bstr p.T.x), .int .i64 p.T.a]) (us := [p.v]) (ys := []) (us' := [Value.slice (some ⟨g3, 0, none⟩) (p.T.F.len + 1) cap3]) hrow rfl
    have e2 : (stCells fs ++ [Value.bool p.T.l, .int .u8 p.T.k, .string (bstr p.T.x), .int .i64 p.T.a]).length = fs.length * 5 + 4 := by simp [stCells_length]
    rw [e2] at hs
    rw [hW]
    have e3 : stCells (⟨⟨p.T.l, p.T.k, p.T.x, p.T.a, p.T.F.app X.f⟩, some ⟨g3, 0, none⟩, cap3⟩ :: fs) = (stCells fs ++ [Value.bool p.T.l, .int .u8 p.T.k, .string (bstr p.T.x), .int .i64 p.T.a]) ++ [Value.slice (some ⟨g3, 0, none⟩) (p.T.F.len + 1) cap3] ++ [] := by
      simp [stCells, Frm.cells, Tr.cells, Forest.len_app, Tr.len_f]
    rw [e3]
    exact hs
  · rcases List.mem_cons.1 hf with rfl | hf
    · obtain ⟨vs, o, e⟩ := h.kids p hpm
      have h5 := hown vs o
      have hvl := o.1
      have h6 : w3.ownsRow base 27 5 (.slice (some ⟨g3, 0, none⟩) (p.T.F.len + 1) cap3) (p.T.F.len + 1) (vs ++ zs ++ []) := by rw [List.append_nil]; exact h5
      have h7 := own_setCells (xs := vs) (us := zs) (ys := []) (us' := X.cells A' c') h6 (by rw [hz]; rfl)
      rw [hvl, List.append_nil] at h7
      refine ⟨vs ++ X.cells A' c', ?_, ?_⟩
      · have h8 := ownsRow_setCell_other h7 (a := ⟨g, fs.length * 5 + 4, none⟩) (by show some g3 ≠ some g; simpa using hg3g) (.slice (some ⟨g3, 0, none⟩) (p.T.F.len + 1) cap3)
        rw [hW]
        have e4 : (p.T.F.app X.f).len = p.T.F.len + 1 := by rw [Forest.len_app, Tr.len_f]
        show World.ownsRow _ base _ 5 (.slice (some ⟨g3, 0, none⟩) (p.T.F.app X.f).len cap3) (p.T.F.app X.f).len _
        rw [e4]
        exact h8
      · exact hkey _ _ (e.snoc X A' c' h1 h2 h3)
    · obtain ⟨vs, o, e⟩ := h.kids f (List.mem_cons_of_mem _ hf)
      refine ⟨vs, ?_, hkey _ _ e⟩
      have hfp : f.own = none ∨ f.own ≠ p.own := by
        rcases hpair.1 f hf with e3 | e3
        · cases hfo : f.own with
          | none => exact .inl rfl
          | some b => exact .inr (by rw [e3]; simp)
        · exact .inr (fun e4 => e3 e4.symm)
      have o1 := own_kept o hg hfp
      have hfg3 : f.v.ownBlock = none ∨ f.v.ownBlock ≠ some g3 := by
        rcases hat with e4 | e4
        · rw [← e4]; exact hfp
        · refine .inr fun e5 => ?_
          have := (o.lt g3 e5).2
          omega
      have o2 := own_kept o1 hset hfg3
      rw [hW]
      refine ownsRow_setCell_other o2 ?_ _
      rcases h.apart f (List.mem_cons_of_mem _ hf) with e4 | e4
      · show f.own ≠ _; rw [e4]; simp
      · exact e4
  · rcases List.mem_cons.1 hf with rfl | hf
    · exact .inr (by show some g3 ≠ some g; simpa using hg3g)
    · exact h.apart f (List.mem_cons_of_mem _ hf)
  · refine List.pairwise_cons.2 ⟨fun f hf => .inr ?_, hpair.2⟩
    show some g3 ≠ f.own
    intro e
    rcases hat with e4 | e4
    · rcases hpair.1 f hf with e3 | e3
      · rw [e3] at e4; cases e4
      · exact e3 (e4.trans e)
    · have := (h.own_lt (List.mem_cons_of_mem _ hf) g3 e.symm).2; omega
/-- The cells of an element that was appended as the zero one. -/
theorem zero_row {w : World} {base n g cap : Nat} {vs zs : List Value} (h : w.ownsRow base 27 5 (.slice (some ⟨g, 0, none⟩) (n + 1) cap) (n + 1) (vs ++ zs)) (hv : vs.length = n * 5) (j : Nat) (u : Value) (hj : zs[j]? = some u) : w.cell? ⟨g, n * 5 + j, none⟩ = some u ∧ w.frozen? ⟨g, n * 5 + j, none⟩ = false := by
  have hc := h.cells (g := g) rfl (n * 5 + j) u (by rw [List.getElem?_append_right (by omega), hv, Nat.add_sub_cancel_left]; exact hj)
  rw [Addr.add_mid, Nat.zero_add] at hc
  refine ⟨hc, ?_⟩
  rcases h.2 with ⟨hv, _⟩ | ⟨g', cap', cur, hv, _, hg, _⟩
  · cases hv
  · cases hv
    exact frozen_of_row w g _ cur _ hg
/-- Cells of another block behind a store. -/
theorem set_far {w : World} {g k g' k' : Nat} {u v : Value} (hc : w.cell? ⟨g', k', none⟩ = some u ∧ w.frozen? ⟨g', k', none⟩ = false) (hne : g' ≠ g) : (w.setCell ⟨g, k, none⟩ v).cell? ⟨g', k', none⟩ = some u ∧ (w.setCell ⟨g, k, none⟩ v).frozen? ⟨g', k', none⟩ = false :=
  ⟨(World.cell?_of_block (Below.heap_setCell _ _ _ _ hne)).trans hc.1, (World.frozen?_of_block (Below.heap_setCell _ _ _ _ hne)).trans hc.2⟩
theorem set_far1 {w : World} {g k g' k' : Nat} {u v : Value} (hc : w.cell? ⟨g', k', none⟩ = some u) (hne : g' ≠ g) : (w.setCell ⟨g, k, none⟩ v).cell? ⟨g', k', none⟩ = some u :=
  (World.cell?_of_block (Below.heap_setCell _ _ _ _ hne)).trans hc
theorem setCell_comm (w : World) {a b : Addr} (h : a.block ≠ b.block) (u v : Value) : (w.setCell a u).setCell b v = (w.setCell b v).setCell a u := by
  have hh : ((w.setCell a u).setCell b v).heap = ((w.setCell b v).setCell a u).heap := by
    apply Array.ext_getElem?
    intro i
    by_cases ha : i = a.block
    · subst ha
      rw [Below.heap_setCell _ b v _ h]
      simp only [World.setCell, Array.getElem?_modify]
      simp only [if_true]
      rw [if_neg (fun e => h e.symm)]
    · rw [Below.heap_setCell _ a u _ ha]
      by_cases hb : i = b.block
      · subst hb
        simp only [World.setCell, Array.getElem?_modify, if_true]
        rw [if_neg h]
      · rw [Below.heap_setCell _ b v _ hb, Below.heap_setCell _ a u _ ha, Below.heap_setCell _ b v _ hb]
  have h1 : (w.setCell a u).setCell b v = { ((w.setCell b v).setCell a u) with heap := ((w.setCell a u).setCell b v).heap } := rfl
  rw [h1, hh]
theorem set5_comm (w : World) {g h : Nat} (hne : g ≠ h) (k n : Nat) (u v0 v1 v2 v3 v4 : Value) :
    ((((((w.setCell ⟨g, k, none⟩ u).setCell ⟨h, n, none⟩ v0).setCell ⟨h, n + 1, none⟩ v1).setCell ⟨h, n + 2, none⟩ v2).setCell ⟨h, n + 3, none⟩ v3).setCell ⟨h, n + 4, none⟩ v4) =
    (((((w.setCell ⟨h, n, none⟩ v0).setCell ⟨h, n + 1, none⟩ v1).setCell ⟨h, n + 2, none⟩ v2).setCell ⟨h, n + 3, none⟩ v3).setCell ⟨h, n + 4, none⟩ v4).setCell ⟨g, k, none⟩ u := by
  rw [setCell_comm w (a := ⟨g, k, none⟩) (b := ⟨h, n, none⟩) hne, setCell_comm _ (a := ⟨g, k, none⟩) (b := ⟨h, n + 1, none⟩) hne, setCell_comm _ (a := ⟨g, k, none⟩) (b := ⟨h, n + 2, none⟩) hne, setCell_comm _ (a := ⟨g, k, none⟩) (b := ⟨h, n + 3, none⟩) hne, setCell_comm _ (a := ⟨g, k, none⟩) (b := ⟨h, n + 4, none⟩) hne]
theorem undrew {w W : World} {r : Option Nat} (h : w.drew.grownBy W r) : w.grownBy W r := ⟨h.os, h.tape, h.output, h.size, h.block⟩
/-- What the walk wants to know behind 'append(kids, zero)'. -/
theorem add_facts {wr w3 : World} {base g3 m n g5 cap5 : Nat} {O : Obj} {fo : Option Nat} {u4 : Value} {vs : List Value}
    (hown : w3.ownsRow base 27 5 (.slice (some ⟨g5, 0, none⟩) (n + 1) cap5) (n + 1) (vs ++ [.bool false, .int .u8 0, .string ⟨#[]⟩, .int .i64 0, .slice none 0 0])) (hv : vs.length = n * 5)
    (hg : (wr.alloc O).grownBy w3 fo) (hat : fo = some g5 ∨ g5 = wr.heap.size + 1) (hfo : fo = none ∨ fo ≠ some g3) (hlt : g3 < wr.heap.size)
    (c4 : wr.cell? ⟨g3, m * 5 + 4, none⟩ = some u4) (fr4 : wr.frozen? ⟨g3, m * 5 + 4, none⟩ = false) :
    (g5 ≠ g3 ∧ g3 ≠ g5 ∧ w3.cell? ⟨g3, m * 5 + 4, none⟩ = some u4 ∧ w3.frozen? ⟨g3, m * 5 + 4, none⟩ = false) ∧
    (∀ j u, [Value.bool false, .int .u8 0, .string ⟨#[]⟩, .int .i64 0, .slice none 0 0][j]? = some u → (w3.cell? ⟨g5, n * 5 + j, none⟩ = some u ∧ w3.frozen? ⟨g5, n * 5 + j, none⟩ = false) ∧
      ((w3.setCell ⟨g3, m * 5 + 4, none⟩ (.slice (some ⟨g5, 0, none⟩) (n + 1) cap5)).cell? ⟨g5, n * 5 + j, none⟩ = some u ∧ (w3.setCell ⟨g3, m * 5 + 4, none⟩ (.slice (some ⟨g5, 0, none⟩) (n + 1) cap5)).frozen? ⟨g5, n * 5 + j, none⟩ = false)) ∧
    (∀ b k u, b < wr.heap.size → fo ≠ some b → b ≠ g3 → wr.cell? ⟨b, k, none⟩ = some u → w3.cell? ⟨b, k, none⟩ = some u ∧ (w3.setCell ⟨g3, m * 5 + 4, none⟩ (.slice (some ⟨g5, 0, none⟩) (n + 1) cap5)).cell? ⟨b, k, none⟩ = some u) := by
  have hne : g5 ≠ g3 := by
    rcases hat with e | e
    · intro e2; subst e2
      rcases hfo with e3 | e3
      · rw [e3] at e; cases e
      · exact e3 e
    · omega
  have hfn : some g3 ≠ fo := by
    rcases hfo with e3 | e3
    · rw [e3]; simp
    · exact fun e => e3 e.symm
  have hga := gb_trans (gb_alloc (World.grownBy.refl wr fo) O) hg
  refine ⟨⟨hne, fun e => hne e.symm, (hga.cell_far ⟨g3, m * 5 + 4, none⟩ hlt hfn).trans c4, (hga.frozen_far ⟨g3, m * 5 + 4, none⟩ hlt hfn).trans fr4⟩, fun j u hj => ?_, fun b k u hb hf hbg hc => ?_⟩
  · have h := zero_row hown hv j u hj
    exact ⟨h, set_far h hne⟩
  · have h := (hga.cell_far ⟨b, k, none⟩ hb (fun e => hf e.symm)).trans hc
    exact ⟨h, set_far1 h hbg⟩

/-- In a round, ahead of a tree that is added. -/
structure NxMid (w : World) (l : List TokI) (p i : Nat) (d : Bool) (f : Frm) (fs : List Frm) (st : List (TokI × Forest)) (X : Tr) (g c : Nat) (W : World) : Prop where
  pi : p ≤ i
  il : i < l.length
  bel : Below w.heap.size w W
  r : W.heap[w.heap.size]? = some (.cells #[.bool false, .int .u8 0, .string ⟨#[]⟩, .int .i64 0, .slice none 0 0] 27 (0, 0))
  stk : StkAt W (w.heap.size + 1) (.slice (some ⟨g, 0, none⟩) (fs.length + 1) c) (f :: fs)
  size : w.heap.size + 1 ≤ W.heap.size
  same : (f :: fs).map (·.T) = st.map (fun q => nodeT q.1 q.2) ++ [zeroTr]
  run : (match push1 X st with | none => Ran.ok X (i + 1) d | some st' => runM (l.drop (i + 1)) st' d (i + 1)) = runM (l.drop p) [] false p
  few : fs.length + 1 ≤ i - p + 1
  small : ∀ h ∈ f :: fs, h.T.F.len ≤ i - p
theorem NxMid.len {w : World} {l : List TokI} {p i : Nat} {d : Bool} {f : Frm} {fs : List Frm} {st : List (TokI × Forest)} {X : Tr} {g c : Nat} {W : World} (h : NxMid w l p i d f fs st X g c W) : fs.length = st.length := by
  have := congrArg List.length h.same
  simpa using this
/-- Between two rounds. -/
structure NxAt (w : World) (l : List TokI) (p i : Nat) (d : Bool) (fs : List Frm) (st : List (TokI × Forest)) (g c : Nat) (W : World) : Prop where
  pi : p ≤ i
  il : i ≤ l.length
  bel : Below w.heap.size w W
  r : W.heap[w.heap.size]? = some (.cells #[.bool false, .int .u8 0, .string ⟨#[]⟩, .int .i64 0, .slice none 0 0] 27 (0, 0))
  stk : StkAt W (w.heap.size + 1) (.slice (some ⟨g, 0, none⟩) fs.length c) fs
  size : w.heap.size + 1 ≤ W.heap.size
  same : fs.map (·.T) = st.map (fun q => nodeT q.1 q.2) ++ [zeroTr]
  run : runM (l.drop i) st d i = runM (l.drop p) [] false p
  few : fs.length ≤ i - p + 1
  small : ∀ f ∈ fs, f.T.F.len ≤ i - p
  first : st = [] → i = p
section
variable {w : World} {l : List TokI} {p i : Nat} {d : Bool} {f : Frm} {fs : List Frm} {st : List (TokI × Forest)} {X : Tr} {g c : Nat} {W W9 : World}
/-- The frame behind the tree. -/
def Frm.plus (f : Frm) (X : Tr) (g cap : Nat) : Frm := ⟨⟨f.T.l, f.T.k, f.T.x, f.T.a, f.T.F.app X.f⟩, some ⟨g, 0, none⟩, cap⟩
theorem NxMid.kept (h : NxMid w l p i d f fs st X g c W) {g3 : Nat} (ha : Added W g 0 f.own g3 W9) : Below w.heap.size w W9 ∧ W9.heap[w.heap.size]? = some (.cells #[.bool false, .int .u8 0, .string ⟨#[]⟩, .int .i64 0, .slice none 0 0] 27 (0, 0)) := by
  have hgl := h.stk.row_lt g rfl
  have hfl := fun b hb => h.stk.own_lt (f := f) List.mem_cons_self b hb
  exact ⟨ha.below h.bel (by omega) (fun b hb => by have := (hfl b hb).1; omega), (ha.block _ (lt_of_block h.r) (fun e => by have := (hfl _ e.symm).1; omega) (by omega)).trans h.r⟩
theorem NxMid.cont (h : NxMid w l p i d f fs st X g c W) {o : TokI} {F : Forest} {st' : List (TokI × Forest)} (hst : st = (o, F) :: st') {g3 cap3 : Nat}
    (ha : StkAt W9 (w.heap.size + 1) (.slice (some ⟨g, 0, none⟩) (fs.length + 1) c) (f.plus X g3 cap3 :: fs) ∧ Added W g 0 f.own g3 W9) :
    NxAt w l p (i + 1) d (f.plus X g3 cap3 :: fs) ((o, F.app X.f) :: st') g c W9 := by
  subst hst
  obtain ⟨hb, hr⟩ := h.kept ha.2
  have hs := h.same
  simp only [List.map_cons, List.cons_append, List.cons.injEq] at hs
  have hsm := h.small
  refine ⟨by have := h.pi; omega, h.il, hb, hr, ha.1, Nat.le_trans h.size ha.2.size, ?_, h.run, by have := h.few; simp only [List.length_cons]; omega, fun k hk => ?_, fun e => by cases e⟩
  · simp only [List.map_cons, List.cons_append, List.cons.injEq]
    refine ⟨?_, hs.2⟩
    show (⟨f.T.l, f.T.k, f.T.x, f.T.a, f.T.F.app X.f⟩ : Tr) = nodeT o (F.app X.f)
    rw [hs.1]; rfl
  · have hpi := h.pi
    rcases List.mem_cons.1 hk with rfl | hk
    · have := hsm f List.mem_cons_self
      show (f.T.F.app X.f).len ≤ _
      rw [Forest.len_app, Tr.len_f]; omega
    · have := hsm k (List.mem_cons_of_mem _ hk)
      omega
/-- The tree is whole. -/
theorem NxMid.done (h : NxMid w l p i d f fs st X g c W) (hst : st = []) : runM (l.drop p) [] false p = .ok X (i + 1) d ∧ fs = [] ∧ f.T = zeroTr := by
  subst hst
  have hr := h.run
  have hs := h.same
  simp only [List.map_nil, List.nil_append, List.map_cons, List.cons.injEq, List.map_eq_nil_iff] at hs
  exact ⟨hr.symm, hs.2, hs.1⟩
theorem NxMid.fin (h : NxMid w l p i d f fs st X g c W) (hst : st = []) {g3 cap3 : Nat}
    (ha : StkAt W9 (w.heap.size + 1) (.slice (some ⟨g, 0, none⟩) (fs.length + 1) c) (f.plus X g3 cap3 :: fs) ∧ Added W g 0 f.own g3 W9) :
    W9.cell? ⟨g, 4, none⟩ = some (.slice (some ⟨g3, 0, none⟩) 1 cap3) ∧ ∃ A c', (∀ j u, (X.cells A c')[j]? = some u → W9.cell? ⟨g3, j, none⟩ = some u) ∧ X.F.len ≤ c' ∧ c' ≤ maxLen ∧ LiesB (fun b => w.heap.size + 1 ≤ b) W9 X.F A 0 := by
  obtain ⟨_, rfl, hz⟩ := h.done hst
  have hF : f.T.F = .nil := by rw [hz]; rfl
  have hlen : (f.plus X g3 cap3).T.F.len = 1 := by
    show (f.T.F.app X.f).len = 1
    rw [hF]; rfl
  have h4 := ha.1.cell 4 _ rfl
  simp only [List.length_nil, Nat.zero_mul, Nat.zero_add] at h4
  rw [hlen] at h4
  refine ⟨h4.1, ?_⟩
  obtain ⟨vs, o, e⟩ := ha.1.kids _ List.mem_cons_self
  have e2 : ElRow (fun b => w.heap.size + 1 ≤ b ∧ Avoid (Value.slice (some ⟨g, 0, none⟩) ([] : List Frm).length.succ c).ownBlock [f.plus X g3 cap3] b) W9 X.f vs := by
    have : (f.plus X g3 cap3).T.F = X.f := by show f.T.F.app X.f = X.f; rw [hF]; rfl
    rw [this] at e
    exact e
  obtain ⟨A, c', vs', rfl, q1, q2, q3, _⟩ := e2
  refine ⟨A, c', fun j u hj => ?_, q1, q2, q3.imp (fun b hb => hb.1)⟩
  have hc := o.cells (g := g3) rfl j u (by
    have hj5 : j < (X.cells A c').length := by
      rcases Nat.lt_or_ge j (X.cells A c').length with h | h
      · exact h
      · rw [List.getElem?_eq_none h] at hj; cases hj
    rw [List.getElem?_append_left hj5]; exact hj)
  rw [Addr.add_mid, Nat.zero_add] at hc
  exact hc
theorem NxMid.add (h : NxMid w l p i d f fs st X g c W) (A' : Option Addr) (c' : Nat) (h1 : X.F.len ≤ c') (h2 : c' ≤ maxLen) (h3 : LiesB (fun b => w.heap.size + 1 ≤ b ∧ Avoid (some g) (f :: fs) b) W X.F A' 0) {vs zs : List Value} (hz : zs.length = 5)
    (hvs : W.ownsRow (w.heap.size + 1) 27 5 f.v f.T.F.len vs) {O : Obj} {w3 : World} {g5 cap5 : Nat}
    (hown : w3.ownsRow (w.heap.size + 1) 27 5 (.slice (some ⟨g5, 0, none⟩) (f.T.F.len + 1) cap5) (f.T.F.len + 1) (vs ++ zs)) (hg : (W.alloc O).grownBy w3 f.own) (hat : f.own = some g5 ∨ g5 = W.heap.size + 1)
    (hW : W9 = (w3.setCells g5 (f.T.F.len * 5) (X.cells A' c')).setCell ⟨g, fs.length * 5 + 4, none⟩ (.slice (some ⟨g5, 0, none⟩) (f.T.F.len + 1) cap5)) :
    StkAt W9 (w.heap.size + 1) (.slice (some ⟨g, 0, none⟩) (fs.length + 1) c) (f.plus X g5 cap5 :: fs) ∧ Added W g 0 f.own g5 W9 :=
  h.stk.add h.size h1 h2 h3 (fun vs' ho => by obtain rfl := ownsRow_one ho hvs; exact hown) hz (gb_trans (gb_alloc (World.grownBy.refl W _) O) hg) (hat.imp id (fun e => by omega)) hW
theorem next_of_run {l : List TokI} {p n : Nat} {X : Tr} {d : Bool} (hp : p < l.length) (h2 : l[p].kind ≠ 2) (h : runM (l.drop p) [] false p = .ok X n d) : nextS l (p : Int) = if d then (zeroTr, (n : Int), 40) else (X, (n : Int), 0) := by
  rw [nextS_nat l p (Nat.le_of_lt hp)]
  rw [drop_at l p hp] at h ⊢
  rw [runM_one _ _ _ h2] at h
  cases hq : oneL (l[p] :: l.drop (p + 1)) with
  | none => rw [hq] at h; cases h
  | some q =>
    obtain ⟨T, j⟩ := q
    rw [hq] at h
    simp only [Ran.ok.injEq] at h
    obtain ⟨rfl, rfl, rfl⟩ := h
    rw [nextT_one _ _ _ _ h2 hq]
    simp only [decide_eq_true_eq, Int.natCast_add]
theorem next_of_short {l : List TokI} {p : Nat} (hp : p < l.length) (h2 : l[p].kind ≠ 2) (h : runM (l.drop p) [] false p = .short) : nextS l (p : Int) = (zeroTr, (l.length : Int), 4) := by
  rw [nextS_nat l p (Nat.le_of_lt hp)]
  rw [drop_at l p hp] at h ⊢
  rw [runM_one _ _ _ h2] at h
  cases hq : oneL (l[p] :: l.drop (p + 1)) with
  | none => exact nextT_short _ _ _ _ h2 hq
  | some q =>
    obtain ⟨T, j⟩ := q
    rw [hq] at h; cases h
end
end Go.Proofs.YtppbijbgnhmdaaaDoor

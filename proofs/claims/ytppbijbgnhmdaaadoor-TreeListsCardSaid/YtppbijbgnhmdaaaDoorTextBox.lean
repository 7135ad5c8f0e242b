/- tree.Text: the boxes of its walk. -/
import Derived.Test.YtppbijbgnhmdaaaDoorTreeDeep
import Derived.Test.YtppbijbgnhmdaaaDoorTextParts
import Derived.Test.YtppbijbgnhmdaaaDoorBld
import Derived.Test.YtppbijbgnhmdaaaDoorTreeTok
namespace Go.Proofs.YtppbijbgnhmdaaaDoor
open Go.RowKit Forest Go.Shelf
attribute [local go_sem] Oper.semAt_some

theorem cellsOf_byte (l : List UInt8) : Lib.byteCells l = cellsOf l := by
  simp [Lib.byteCells, cellsOf]
  intro a _; rfl
/-- A builder of the call's own abides what is no cells. -/
theorem isB_own {β : Type} (B b B0 : Nat) (f : β → List Value) : OwnFrom B0 (fun s W => IsB B b (f s) W) := by
  have key : ∀ p bs W W' row, Lib.BuilderAtF 52 5 B b p bs W → W.grownBy W' row → (∀ r, row = some r → ∃ o : Obj, W.heap[r]? = some o ∧ o.isCells = false) → Lib.BuilderAtF 52 5 B b p bs W' := by
    intro p bs W W' row ⟨hB, v, hb, hown, hne⟩ hg hr
    have hcell : ∀ i c t fz, W.heap[i]? = some (.cells c t fz) → some i ≠ row := fun i c t fz hc e => by
      obtain ⟨o, ho, hoc⟩ := hr i e.symm
      rw [hc] at ho; cases ho; cases hoc
    refine ⟨hB, v, (hg.block b (lt_of_block hb) (hcell b _ _ _ hb)).trans hb, hown.kept hg ?_, hne⟩
    rcases hown.2 with ⟨rfl, _⟩ | ⟨g, cap, cur, fz, rfl, _, hgg, _⟩
    · exact .inl rfl
    · exact .inr (fun e => hcell g _ _ _ hgg e)
  intro s W W' row hs hg hr
  have hr2 : ∀ r, row = some r → ∃ o : Obj, W.heap[r]? = some o ∧ o.isCells = false := fun r e => (hr r e).2
  exact hs.imp (fun h => key _ _ _ _ _ h hg hr2) (fun h => key _ _ _ _ _ h hg hr2)

/-- The call's own boxes: the results, the builder, and whether a list stood too deep. -/
structure TxBox (b0 : Nat) (bs : List UInt8) (dd : Bool) (W : World) : Prop where
  r1 : Boxed W (b0 + 1) 9 (.string ⟨#[]⟩)
  r2 : Boxed W (b0 + 2) 31 (.int .i64 0)
  bld : IsB (b0 + 3) (b0 + 3) (cellsOf bs) W
  deep : Boxed W (b0 + 4) 4 (.bool dd)
theorem txBox_own {β : Type} (b0 B0 : Nat) (bs : List UInt8) (dd : Bool) : OwnFrom B0 (fun (_ : β) W => TxBox b0 bs dd W) := fun s W W' row h hg hr =>
  ⟨(boxed_own (b0 + 1) _ (fun _ => _)).from B0 s W W' row h.r1 hg hr, (boxed_own (b0 + 2) _ (fun _ => _)).from B0 s W W' row h.r2 hg hr, isB_own _ _ B0 (fun _ => _) s W W' row h.bld hg hr, (boxed_own (b0 + 4) _ (fun _ => _)).from B0 s W W' row h.deep hg hr⟩
/-- Behind a write into the builder. -/
theorem TxBox.wrote {b0 : Nat} {bs bs2 : List UInt8} {dd : Bool} {W W2 : World} (h : TxBox b0 bs dd W) (hb : BAt (b0 + 3) (b0 + 3) (cellsOf bs2) W2) (ho : Lib.OthersKept 5 (some (b0 + 3)) W W2) : TxBox b0 bs2 dd W2 :=
  ⟨ho _ _ h.r1 (by simp) (fun _ _ e => by cases e), ho _ _ h.r2 (by simp) (fun _ _ e => by cases e), .inr hb, ho _ _ h.deep (by simp) (fun _ _ e => by cases e)⟩
theorem othk_keptO {b0 n₁ : Nat} {W W2 : World} (hn : b0 + 3 < n₁) (ho : Lib.OthersKept 5 (some (b0 + 3)) W W2) (hb : Below (b0 + 3) W W2) : KeptO (b0 + 1) n₁ W W2 := fun i c t fr hc hi => by
  rcases hi with hi | ⟨hi, ht⟩
  · exact (hb.block i (by omega)).trans hc
  · exact ho i _ hc (by simp; omega) (fun _ _ e => by cases e; exact ht rfl)
theorem othk_from {b : Nat} {W W2 : World} {B : Nat} (ho : Lib.OthersKept 5 (some b) W W2) (hb : ∀ c t fz, W.heap[b]? = some (.cells c t fz) ∨ True) (hs : W.heap.size ≤ W2.heap.size) (hbc : ∃ c t fz, W.heap[b]? = some (.cells c t fz)) : KeepsFrom B W W2 :=
  ⟨hs, fun k o _ hk hoc => ho k o hk (fun e => by
    injection e with e; subst e
    obtain ⟨c, t, fz, hc⟩ := hbc
    rw [hc] at hk; cases hk; cases hoc) (fun c fz e => by subst e; cases hoc)⟩
/-- What a piece of a round keeps. -/
structure TxGo (b0 n₁ B : Nat) (W W2 : World) : Prop where
  fr : KeepsFrom B W W2
  kp : KpP (b0 + 1) n₁ W W2
  bel : Below (b0 + 1) W W2
theorem TxGo.refl (b0 n₁ B : Nat) (W : World) : TxGo b0 n₁ B W W := ⟨.refl _ _, ⟨.refl _ _ _, Nat.le_refl _⟩, .refl _ _⟩
theorem TxGo.trans {b0 n₁ B : Nat} {W W2 W3 : World} (h : TxGo b0 n₁ B W W2) (k : TxGo b0 n₁ B W2 W3) : TxGo b0 n₁ B W W3 :=
  ⟨⟨Nat.le_trans h.fr.size k.fr.size, fun i o hi ho hc => k.fr.same i o hi (h.fr.same i o hi ho hc) hc⟩, kpP_t h.kp k.kp, h.bel.trans k.bel⟩
theorem TxGo.wrote {b0 n₁ B : Nat} {bs : List UInt8} {dd : Bool} {W W2 : World} (hn : b0 + 4 < n₁) (h : TxBox b0 bs dd W) (hb : Below (b0 + 3) W W2) (ho : Lib.OthersKept 5 (some (b0 + 3)) W W2) : TxGo b0 n₁ B W W2 := by
  have hbc : ∃ c t fz, W.heap[b0 + 3]? = some (.cells c t fz) := by
    rcases h.bld with ⟨_, v, hb, _⟩ | ⟨_, v, hb, _⟩ <;> exact ⟨_, _, _, hb⟩
  exact ⟨othk_from ho (fun _ _ _ => .inr trivial) hb.size hbc, ⟨othk_keptO (by omega) ho hb, hb.size⟩, hb.mono (by omega)⟩
theorem TxGo.set {b0 n₁ B : Nat} {W : World} (hn : b0 + 4 < n₁) (j : Nat) (hj : 1 ≤ j ∧ j ≤ 4) (o : Nat) (v : Value) : TxGo b0 n₁ B W (W.setCell ⟨b0 + j, o, none⟩ v) :=
  ⟨(KeepsOthers.setCell _ _ _).from _, ⟨.of (KeptB.setCell W _ (by unfold Out; omega) _ _), by simp [World.setCell]⟩, (Below.refl _ W).setCell (p := ⟨b0 + j, o, none⟩) (by show b0 + 1 ≤ b0 + j; omega) _⟩
theorem TxGo.drew {b0 n₁ B : Nat} (W : World) : TxGo b0 n₁ B W W.drew := ⟨(KeepsOthers.drew W).from _, ⟨fun _ _ _ _ h _ => h, Nat.le_refl _⟩, (Below.refl _ W).drew⟩
theorem TxGo.of {b0 n₁ B : Nat} {W W2 : World} (hB : b0 + 5 ≤ W.heap.size) (h : Below W.heap.size W W2) : TxGo b0 n₁ B W W2 :=
  ⟨⟨h.size, fun k o _ hk _ => (h.block k (Array.getElem?_eq_some_iff.1 hk).1).trans hk⟩, ⟨fun i c t fr hc _ => (h.block i (Array.getElem?_eq_some_iff.1 hc).1).trans hc, h.size⟩, h.mono (by omega)⟩
theorem TxBox.of {b0 : Nat} {bs : List UInt8} {dd : Bool} {W W2 : World} (h : TxBox b0 bs dd W) (hb : Below W.heap.size W W2) : TxBox b0 bs dd W2 := by
  have hk : ∀ i o, W.heap[i]? = some o → W2.heap[i]? = some o := fun i o ho => (hb.block i (Array.getElem?_eq_some_iff.1 ho).1).trans ho
  have key : ∀ p, Lib.BuilderAtF 52 5 (b0 + 3) (b0 + 3) p (cellsOf bs) W → Lib.BuilderAtF 52 5 (b0 + 3) (b0 + 3) p (cellsOf bs) W2 := fun p ⟨hB, v, hbk, hown, hne⟩ =>
    ⟨hB, v, hk _ _ hbk, hown.kept (gb_below hb none) (by cases v.ownBlock <;> simp), hne⟩
  exact ⟨hk _ _ h.r1, hk _ _ h.r2, h.bld.imp (key _) (key _), hk _ _ h.deep⟩
theorem TxBox.setDeep {b0 : Nat} {bs : List UInt8} {dd : Bool} {W : World} (h : TxBox b0 bs dd W) (d2 : Bool) : TxBox b0 bs d2 (W.setCell ⟨b0 + 4, 0, none⟩ (.bool d2)) := by
  have key : ∀ p, Lib.BuilderAtF 52 5 (b0 + 3) (b0 + 3) p (cellsOf bs) W → Lib.BuilderAtF 52 5 (b0 + 3) (b0 + 3) p (cellsOf bs) (W.setCell ⟨b0 + 4, 0, none⟩ (.bool d2)) := fun p ⟨hB, v, hbk, hown, hne⟩ => by
    have hd : W.heap[b0 + 4]? = some (.cells #[.bool dd] 4 (0, 0)) := h.deep
    have hgo : v.ownBlock ≠ some (b0 + 4) := fun e => by
      obtain ⟨c, fz, hc⟩ := Lib.ownsRowF_kind hown _ e
      rw [hd] at hc; cases hc
    refine ⟨hB, v, (Below.heap_setCell _ _ _ _ (by simp)).trans hbk, hown.kept (row := some (b0 + 4)) ⟨rfl, rfl, rfl, by simp [World.setCell], fun k _ hk => Below.heap_setCell _ _ _ _ (fun e => hk (by simp [e]))⟩ (.inr hgo), hne⟩
  exact ⟨h.r1.other (by omega) _, h.r2.other (by omega) _, h.bld.imp (key _) (key _), heap_setCell_at h.deep⟩
/-- The part's box. -/
structure PCells (p : Part) (Bx : Nat) (W : World) : Prop where
  c0 : W.cell? ⟨Bx, 0, none⟩ = some (.bool p.l)
  c1 : W.cell? ⟨Bx, 1, none⟩ = some (.int .u8 p.k)
  c2 : W.cell? ⟨Bx, 2, none⟩ = some (.string (bstr p.x))
  c3 : W.cell? ⟨Bx, 3, none⟩ = some (.int .i64 p.a)
  c4 : W.cell? ⟨Bx, 4, none⟩ = some (.slice p.A p.n p.c)
  c5 : W.cell? ⟨Bx, 5, none⟩ = some (.bool p.ends)
  c6 : W.cell? ⟨Bx, 6, none⟩ = some (.bool p.first)
  c7 : W.cell? ⟨Bx, 7, none⟩ = some (.int .i64 ((p.depth : Nat) : Int))
theorem PBox.cells {n₁ : Nat} {p : Part} {Bx : Nat} {W : World} (h : PBox n₁ p Bx W) : PCells p Bx W := by
  have := h.2
  constructor <;> simp [World.cell?, this]
theorem PBox.go {b0 n₁ B : Nat} {p : Part} {Bx : Nat} {W W2 : World} (h : PBox n₁ p Bx W) (hg : TxGo b0 n₁ B W W2) : PBox n₁ p Bx W2 := ⟨h.1, hg.kp.1 _ _ _ _ h.2 (.inr ⟨h.1, by decide⟩)⟩
/-- Between two rounds. -/
def TxI (b0 : Nat) (w W0 : World) (pre : List Part) (W : World) : Prop :=
  ∃ bs dd, foldP (pre.map Part.s) = some (bs, dd) ∧ bs.length ≤ pre.length * 200010 ∧ TxBox b0 bs dd W ∧ Below w.heap.size w W ∧ W0.heap.size ≤ W.heap.size
/-- A round has left: there is no text. -/
def TxX (b0 : Nat) (w : World) (c : Code) (q : List Part) (W : World) : Prop :=
  c = .ret ∧ foldP (q.map Part.s) = none ∧ Boxed W (b0 + 1) 9 (.string ⟨#[]⟩) ∧ Boxed W (b0 + 2) 31 (.int .i64 5) ∧ Below w.heap.size w W

theorem txI_own (b0 : Nat) (w W0 : World) (B : Nat) (hB : w.heap.size ≤ B) : OwnFrom B (TxI b0 w W0) := fun pre W W' row ⟨bs, dd, h1, h2, h3, h4, h5⟩ hg hr =>
  ⟨bs, dd, h1, h2, txBox_own b0 B bs dd () W W' row h3 hg hr, h4.grown hg h4.size (fun k e => by have := (hr k e).1; omega), Nat.le_trans h5 hg.size⟩
theorem txX_own (b0 : Nat) (w : World) (c : Code) (B : Nat) (hB : w.heap.size ≤ B) : OwnFrom B (TxX b0 w c) := fun pre W W' row ⟨h1, h2, h3, h4, h5⟩ hg hr =>
  ⟨h1, h2, (boxed_own (b0 + 1) _ (fun (_ : List Part) => _)).from B pre W W' row h3 hg hr, (boxed_own (b0 + 2) _ (fun (_ : List Part) => _)).from B pre W W' row h4 hg hr, h5.grown hg h5.size (fun k e => by have := (hr k e).1; omega)⟩

/-- A round that goes on. -/
theorem tx_norm {w W0 W W2 : World} {pre : List Part} {p : Part} {bs2 : List UInt8} {d2 : Bool} (hgo : TxGo w.heap.size (w.heap.size + 5) W0.heap.size W W2) (hbx : TxBox w.heap.size bs2 d2 W2) (hbel : Below w.heap.size w W) (hsz : W0.heap.size ≤ W.heap.size) (hst : foldP ((pre ++ [p]).map Part.s) = some (bs2, d2)) (hl : bs2.length ≤ pre.length * 200010 + 200010) :
    KeepsFrom W0.heap.size W W2 ∧ KpP (w.heap.size + 1) (w.heap.size + 5) W W2 ∧ TxI w.heap.size w W0 (pre ++ [p]) W2 :=
  ⟨hgo.fr, hgo.kp, bs2, d2, hst, by rw [List.length_append, List.length_singleton]; omega, hbx, hbel.trans (hgo.bel.mono (by omega)), Nat.le_trans hsz hgo.kp.2⟩
/-- A round that leaves. -/
theorem tx_ret {w W0 W W2 : World} {pre : List Part} {p : Part} {bs2 : List UInt8} {d2 : Bool} (hgo : TxGo w.heap.size (w.heap.size + 5) W0.heap.size W W2) (hbx : TxBox w.heap.size bs2 d2 W2) (hbel : Below w.heap.size w W) (_hB : W0.heap.size = w.heap.size + 6) (hst : foldP ((pre ++ [p]).map Part.s) = none) :
    KeepsFrom W0.heap.size W ((W2.setCell ⟨w.heap.size + 1, 0, none⟩ (.string ⟨#[]⟩)).setCell ⟨w.heap.size + 2, 0, none⟩ (.int .i64 5)) ∧ TxX w.heap.size w .ret (pre ++ [p]) ((W2.setCell ⟨w.heap.size + 1, 0, none⟩ (.string ⟨#[]⟩)).setCell ⟨w.heap.size + 2, 0, none⟩ (.int .i64 5)) := by
  have h1 : TxGo w.heap.size (w.heap.size + 5) W0.heap.size W2 _ := TxGo.set (by omega) 1 ⟨by omega, by omega⟩ 0 (.string ⟨#[]⟩)
  have h2 := (hgo.trans h1).trans (TxGo.set (by omega) 2 ⟨by omega, by omega⟩ 0 (.int .i64 5))
  exact ⟨h2.fr, rfl, hst, (hbx.r1.set _).other (by omega) _, (hbx.r2.other (by omega) _).set _, hbel.trans (h2.bel.mono (by omega))⟩
theorem run_boxed_str {W : World} {b : Nat} {s : ByteArray} (h : Boxed W b 9 (.string s)) : (loadVar 9 ⟨b, 0, none⟩).run Tryd.prog W = .ok (.string s) W := by
  have c := h.cell
  go_simp
theorem run_boxed_err {W : World} {b : Nat} {e : Int} (h : Boxed W b 31 (.int .i64 e)) : (loadVar 31 ⟨b, 0, none⟩).run Tryd.prog W = .ok (.int .i64 e) W := by
  have c := h.cell
  go_simp
/-- The results are read from their boxes. -/
theorem results_two {fn : Func} (hf : fn.results = #[.cell 2 9, .cell 3 31]) {tmps : Array Value} {W : World} {b : Nat} {s : ByteArray} {e : Int} (h2 : tmps.getD 2 undef = .pointer (some ⟨b + 1, 0, none⟩)) (h3 : tmps.getD 3 undef = .pointer (some ⟨b + 2, 0, none⟩)) (r1 : Boxed W (b + 1) 9 (.string s)) (r2 : Boxed W (b + 2) 31 (.int .i64 e)) :
    (results fn tmps).run Tryd.prog W = .ok (.tuple #[.string s, .int .i64 e]) W := by
  have hl1 := run_boxed_str r1
  have hl2 := run_boxed_err r2
  have h2' : tmps[2]?.getD undef = .pointer (some ⟨b + 1, 0, none⟩) := by simpa using h2
  have h3' : tmps[3]?.getD undef = .pointer (some ⟨b + 2, 0, none⟩) := by simpa using h3
  simp [results, hf, h2', h3', asAddr, hl1, hl2]
theorem stepP_some (bs : List UInt8) (dd : Bool) (p : PartS) : stepP (some (bs, dd)) p = if p.ends then some (bs ++ [41], dd)
    else if p.l then (if p.k = 1 ∧ p.x = [40] then some ((if p.first then bs else bs ++ [32]) ++ [40], dd || decide (200 ≤ p.depth)) else none)
    else if okTok p.k p.x = true ∧ p.n = 0 then some ((if p.first then bs else bs ++ [32]) ++ retext p.k p.x, dd) else none := rfl
theorem strCells_bs (s : List UInt8) : Lib.strCells (bstr s) = cellsOf s := by
  simp [Lib.strCells, bstr, cellsOf]
  intro a _; rfl
theorem cellsOf_append (a b : List UInt8) : cellsOf (a ++ b) = cellsOf a ++ cellsOf b := by simp [cellsOf]
/-- What stands at the end. -/
theorem tx_end {w W : World} {D : Nat} {o2 : Obj} (hD : w.heap.size + 6 ≤ D) (s : ByteArray) (e : Int) (h1 : Boxed W (w.heap.size + 1) 9 (.string s)) (h2 : Boxed W (w.heap.size + 2) 31 (.int .i64 e)) :
    Boxed (W.putObj D o2) (w.heap.size + 1) 9 (.string s) ∧ Boxed (W.putObj D o2) (w.heap.size + 2) 31 (.int .i64 e) :=
  ⟨h1.kept (grownBy_putObj' W D o2) (by intro e; injection e; omega), h2.kept (grownBy_putObj' W D o2) (by intro e; injection e; omega)⟩
/-- The results are stored. -/
theorem tx_set2 {b : Nat} {bs : List UInt8} {dd : Bool} {W : World} (hbx : TxBox b bs dd W) (s : ByteArray) (e : Int) :
    Boxed ((W.setCell ⟨b + 1, 0, none⟩ (.string s)).setCell ⟨b + 2, 0, none⟩ (.int .i64 e)) (b + 1) 9 (.string s) ∧ Boxed ((W.setCell ⟨b + 1, 0, none⟩ (.string s)).setCell ⟨b + 2, 0, none⟩ (.int .i64 e)) (b + 2) 31 (.int .i64 e) :=
  ⟨(hbx.r1.set _).other (by omega) _, (hbx.r2.other (by omega) _).set _⟩
theorem set2_heap (b : Nat) (W : World) (u v : Value) (k : Nat) (h : b + 6 ≤ k) : ((W.setCell ⟨b + 1, 0, none⟩ u).setCell ⟨b + 2, 0, none⟩ v).heap[k]? = W.heap[k]? :=
  (Below.heap_setCell _ _ _ _ (by simp; omega)).trans (Below.heap_setCell _ _ _ _ (by simp; omega))
theorem set2_below {b : Nat} {w W : World} (h : Below b w W) (u v : Value) : Below b w ((W.setCell ⟨b + 1, 0, none⟩ u).setCell ⟨b + 2, 0, none⟩ v) :=
  (h.setCell (p := ⟨b + 1, 0, none⟩) (by simp) _).setCell (p := ⟨b + 2, 0, none⟩) (by simp) _
theorem TxBox.read {b0 : Nat} {bs : List UInt8} {dd : Bool} {W W2 : World} (h : TxBox b0 bs dd W) (hb : IsB (b0 + 3) (b0 + 3) (Lib.byteCells bs) W2) (ho : Lib.OthersKept 5 (some (b0 + 3)) W W2) : TxBox b0 bs dd W2 :=
  ⟨ho _ _ h.r1 (by simp) (fun _ _ e => by cases e), ho _ _ h.r2 (by simp) (fun _ _ e => by cases e), by rw [← cellsOf_byte]; exact hb, ho _ _ h.deep (by simp) (fun _ _ e => by cases e)⟩
end Go.Proofs.YtppbijbgnhmdaaaDoor

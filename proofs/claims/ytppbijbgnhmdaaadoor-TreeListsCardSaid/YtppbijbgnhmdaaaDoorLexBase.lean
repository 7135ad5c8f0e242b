/- Bytes, classes of bytes and the reader's block: the words that the walks of package lex use. -/
import Derived.Test.YtppbijbgnhmdaaaDoorProg
import Derived.WalkKit
import Derived.Deep.QuietTactic
import Derived.BigQuiet
import Derived.Deep.LoopGhost
import Derived.KernelRfl
import Derived.Lib.Hide
import Derived.Deep.MidRow
import Derived.Maps.AppendAt
import Derived.Deep.AppendLies
namespace Go.Proofs.YtppbijbgnhmdaaaDoor
open Go.RowKit

/-- A byte's number as the machine holds it. -/
def bi (b : UInt8) : Int := ((b.toNat : Nat) : Int)
theorem bi_range (b : UInt8) : 0 ≤ bi b ∧ bi b < 256 := by
  have := b.toNat_lt
  unfold bi; omega

/-- The class of a byte, as the table of package lex holds it. -/
def cl (b : Nat) : Nat :=
  let k := if 48 ≤ b ∧ b ≤ 57 then 3 else if (97 ≤ b ∧ b ≤ 122) ∨ (65 ≤ b ∧ b ≤ 90) ∨ b ∈ [126, 33, 64, 36, 37, 94, 38, 42, 95, 45, 43, 61, 60, 62, 46, 63, 47] then 1 else if b = 9 ∨ b = 10 ∨ b = 13 ∨ b = 32 then 4 else 0
  if k = 4 ∨ (32 < b ∧ b ≠ 127) then k ||| 8 else k

def isLetter (b : UInt8) : Bool := bits BinOp.and IntKind.u8 ((cl b.toNat : Nat) : Int) 1 != 0
def isDigit (b : UInt8) : Bool := bits BinOp.and IntKind.u8 ((cl b.toNat : Nat) : Int) 2 != 0
def isBlank (b : UInt8) : Bool := bits BinOp.and IntKind.u8 ((cl b.toNat : Nat) : Int) 4 != 0
def isInner (b : UInt8) : Bool := bits BinOp.and IntKind.u8 ((cl b.toNat : Nat) : Int) 8 != 0

/-- The reader's cells: the table, the bytes' slice, the place. -/
def rdCells (A : Option Addr) (n cap p : Nat) : Array Value := ((List.range 256).map (fun c => Value.int .u8 ((cl c : Nat) : Int)) ++ [Value.slice A n cap, Value.int .i64 ((p : Nat) : Int)]).toArray

/-- Block g is a reader over a slice, at a place. -/
structure Rdr (w : World) (g : Nat) (A : Option Addr) (n cap p : Nat) : Prop where
  blk : w.heap[g]? = some (.cells (rdCells A n cap p) 91 (0, 0))

/-- A slice's bytes lie in the world. -/
structure Bys (w : World) (A : Option Addr) (bs : List UInt8) : Prop where
  out : ∀ i, ∀ h : i < bs.length, ∃ ad, A = some ad ∧ w.cell? (ad.add i) = some (.int .u8 (bi bs[i]))

/-- A string of bytes. -/
def bstr (l : List UInt8) : ByteArray := ⟨l.toArray⟩
theorem bstr_size (l : List UInt8) : (bstr l).size = l.length := rfl
/-- The bytes of a string. -/
def bl (s : ByteArray) : List UInt8 := s.data.toList
theorem bl_bstr (l : List UInt8) : bl (bstr l) = l := rfl
theorem bstr_bl (s : ByteArray) : bstr (bl s) = s := rfl
theorem bl_length (s : ByteArray) : (bl s).length = s.size := rfl
def bat (s : ByteArray) (i : Nat) : UInt8 := (bl s).getD i 0
theorem bat_at (s : ByteArray) (i : Nat) : ∀ h : i < s.size, (((s[i]'h).toNat : Nat) : Int) = bi (bat s i) := by
  intro h
  have : bat s i = s[i] := by
    unfold bat
    rw [List.getD_eq_getElem?_getD, List.getElem?_eq_getElem (by simpa [bl_length] using h)]
    rfl
  rw [this]; rfl
theorem bat_mem' (s : ByteArray) (i : Nat) (h : i < s.size) : bat s i ∈ bl s := by
  unfold bat
  rw [List.getD_eq_getElem?_getD, List.getElem?_eq_getElem (by simpa [bl_length] using h)]
  exact List.getElem_mem _
/-- A slice's part. -/
def subSl (A : Option Addr) (p q cap : Nat) : Value := .slice (if cap = p then A else A.map (·.add p)) (q - p) (cap - p)

theorem rdCells_size (A : Option Addr) (n cap p : Nat) : (rdCells A n cap p).size = 258 := by simp [rdCells]
theorem rdCells_tab (A : Option Addr) (n cap p c : Nat) (h : c < 256) : (rdCells A n cap p)[c]? = some (.int .u8 ((cl c : Nat) : Int)) := by
  simp only [rdCells, List.getElem?_toArray]
  rw [List.getElem?_append_left (by simpa using h)]
  simp [h]
theorem rdCells_b (A : Option Addr) (n cap p : Nat) : (rdCells A n cap p)[256]? = some (.slice A n cap) := by
  simp only [rdCells, List.getElem?_toArray]
  rw [List.getElem?_append_right (by simp)]
  simp
theorem rdCells_at (A : Option Addr) (n cap p : Nat) : (rdCells A n cap p)[257]? = some (.int .i64 ((p : Nat) : Int)) := by
  simp only [rdCells, List.getElem?_toArray]
  rw [List.getElem?_append_right (by simp)]
  simp
theorem rdCells_set (A : Option Addr) (n cap p q : Nat) : (rdCells A n cap p).setIfInBounds 257 (.int .i64 ((q : Nat) : Int)) = rdCells A n cap q := by
  apply Array.ext'
  simp only [rdCells, Array.toList_setIfInBounds]
  rw [List.set_append_right _ _ (by simp)]
  simp

theorem heap_setCell_at {w : World} {b o : Nat} {c : Array Value} {t : TypeId} {fr : Nat × Nat} {v : Value} (h : w.heap[b]? = some (.cells c t fr)) : (w.setCell ⟨b, o, none⟩ v).heap[b]? = some (.cells (c.setIfInBounds o v) t fr) := by
  have hlt := lt_of_block h
  have h' : w.heap[b] = .cells c t fr := by simpa [Array.getElem?_eq_getElem hlt] using h
  show (w.heap.modify b _)[b]? = _
  rw [Array.getElem?_eq_getElem (by simpa using hlt), Array.getElem_modify_self, h']
  rfl

theorem setCells_at (g : Nat) (t : TypeId) (fr : Nat × Nat) : ∀ (vs : List Value) (o : Nat) (w : World) (c : Array Value), w.heap[g]? = some (.cells c t fr) →
    ∃ c', (w.setCells g o vs).heap[g]? = some (.cells c' t fr) ∧ c'.size = c.size ∧ ∀ j, j < c.size → c'[j]? = if o ≤ j ∧ j < o + vs.length then vs[j - o]? else c[j]?
  | [], o, w, c, h => ⟨c, h, rfl, fun j hj => by rw [if_neg (by simp only [List.length_nil]; omega)]⟩
  | v :: r, o, w, c, h => by
    obtain ⟨c', h1, h2, h3⟩ := setCells_at g t fr r (o + 1) (w.setCell ⟨g, o, none⟩ v) _ (heap_setCell_at h)
    refine ⟨c', h1, by simpa using h2, fun j hj => ?_⟩
    rw [h3 j (by simpa using hj)]
    by_cases e : j = o
    · subst e
      rw [if_neg (by omega), if_pos (by simp)]
      simp [hj]
    · by_cases e2 : o + 1 ≤ j ∧ j < o + 1 + r.length
      · rw [if_pos e2, if_pos (by simp; omega)]
        have : j - o = j - (o + 1) + 1 := by omega
        rw [this]; rfl
      · rw [if_neg e2, if_neg (by simp; omega), Array.getElem?_setIfInBounds]
        rw [if_neg (fun h => e h.symm)]
theorem setCells_row {g : Nat} {t : TypeId} {fr : Nat × Nat} {w : World} {c : Array Value} (h : w.heap[g]? = some (.cells c t fr)) (cs : Array Value) (hs : cs.size = c.size) : (w.setCells g 0 cs.toList).heap[g]? = some (.cells cs t fr) := by
  obtain ⟨c', h1, h2, h3⟩ := setCells_at g t fr cs.toList 0 w c h
  rw [h1]
  have : c' = cs := by
    apply Array.ext_getElem?
    intro j
    rcases Nat.lt_or_ge j c.size with hj | hj
    · rw [h3 j hj, if_pos (by simp; omega)]; simp
    · rw [Array.getElem?_eq_none (by omega), Array.getElem?_eq_none (by omega)]
  rw [this]
theorem setCells_only (g : Nat) : ∀ (vs : List Value) (o : Nat) (w : World), w.grownBy (w.setCells g o vs) (some g)
  | [], _, w => World.grownBy.refl _ _
  | v :: r, o, w => by
    have h := setCells_only g r (o + 1) (w.setCell ⟨g, o, none⟩ v)
    exact ⟨h.os, h.tape, h.output, by simpa [World.setCell, World.setCells] using h.size, fun i hi hne => (h.block i (by simpa [World.setCell] using hi) hne).trans (Below.heap_setCell _ _ _ i (fun e => hne (by rw [e])))⟩
theorem there_row {g : Nat} {t : TypeId} {w : World} {c : Array Value} (h : w.heap[g]? = some (.cells c t (0, 0))) : w.there g 0 c.size := by
  intro j hj
  rw [Nat.zero_add, cell_of_row w g j c t (0, 0) h, frozen_of_row w g j c t h]
  exact ⟨by simp [hj], rfl⟩

theorem add_succ (ad : Addr) (q : Nat) : ad.add (q + 1) = ⟨ad.block, ad.off + (q + 1), none⟩ := by simp [Addr.add]

theorem gb_alloc {w W : World} {row : Option Nat} (h : w.grownBy W row) (o : Obj) : w.grownBy (W.alloc o) row :=
  ⟨h.os, h.tape, h.output, Nat.le_trans h.size (by simp), fun i hi hne => (Below.heap_alloc W o i (Nat.lt_of_lt_of_le hi h.size)).trans (h.block i hi hne)⟩
theorem gb_set_new {w W : World} {row : Option Nat} (h : w.grownBy W row) {b : Nat} (hb : w.heap.size ≤ b) (o : Nat) (u : Value) : w.grownBy (W.setCell ⟨b, o, none⟩ u) row :=
  ⟨h.os, h.tape, h.output, by simpa [World.setCell] using h.size, fun i hi hne => (Below.heap_setCell _ _ _ i (fun e => by have e2 : i = b := e; omega)).trans (h.block i hi hne)⟩
theorem gb_set {w W : World} {g : Nat} (h : w.grownBy W (some g)) (o : Nat) (u : Value) : w.grownBy (W.setCell ⟨g, o, none⟩ u) (some g) :=
  ⟨h.os, h.tape, h.output, by simpa [World.setCell] using h.size, fun i hi hne => (Below.heap_setCell _ _ _ i (fun e => hne (by rw [e]))).trans (h.block i hi hne)⟩
theorem gb_drewN {w W : World} {row : Option Nat} (h : w.grownBy W row) (k : Nat) : w.grownBy (W.drewN k) row := ⟨h.os, h.tape, h.output, h.size, h.block⟩
theorem gb_trans {a b c : World} {row : Option Nat} (h : a.grownBy b row) (k : b.grownBy c row) : a.grownBy c row :=
  ⟨k.os.trans h.os, k.tape.trans h.tape, k.output.trans h.output, Nat.le_trans h.size k.size, fun i hi hne => (k.block i (Nat.lt_of_lt_of_le hi h.size) hne).trans (h.block i hi hne)⟩
theorem gb_below {w W : World} (h : Below w.heap.size w W) (row : Option Nat) : w.grownBy W row := ⟨h.os, h.tape, h.output, h.size, fun i hi _ => h.block i hi⟩
theorem gb_none {w W : World} (h : w.grownBy W none) : Below w.heap.size w W := ⟨h.os, h.tape, h.output, h.size, fun i hi => h.block i hi (by simp)⟩
theorem below_new {w W : World} {g : Nat} (h : w.grownBy W (some g)) {w0 : World} (h0 : Below w0.heap.size w0 w) (hg : w0.heap.size ≤ g) : Below w0.heap.size w0 W :=
  h0.grown h h0.size (fun k hk => by injection hk; omega)

/-- A struct that is built: by the equation on the operation's run. -/
theorem wpList_build {P : Program} {ops : Array Oper} {rest : List Oper} {o : Oper} {a : Act} {Q : Exit → Act → World → Prop} {w : World} (hgd : o.guard = none) (t : TypeId) (parts : Array (Nat × Operand)) (ho : o.op = .build t parts)
    (vs : Array (Nat × Value)) (hp : (parts.map fun (i, x) => (i, a.eval x)) = vs) (v : Value) (hr : (Instr.build t vs).run P w = .ok v w) (h : wpList P ops Q rest (a.put o.dst v) w) : wpList P ops Q (o :: rest) a w :=
  wpList_plain hgd fun _ hK => by
    subst hp
    unfold Oper.wp execOp
    simp only [ho, Sem.run_bind, hr, Result.andThen_ok, Sem.run_pure]
    exact hK _ _ h

theorem own_drewN {w : World} {base : Nat} {e : TypeId} {size n : Nat} {v : Value} {xs : List Value} (h : w.ownsRow base e size v n xs) (k : Nat) : (w.drewN k).ownsRow base e size v n xs := h
theorem grownBy_drewN {w0 w : World} {row : Option Nat} (h : w0.grownBy w row) (k : Nat) : w0.grownBy (w.drewN k) row := ⟨h.os, h.tape, h.output, h.size, h.block⟩

/-- append(v, x) of one element of whatever size, v the call's own: behind at_builtin; the goal's world is the box of x over W. -/
theorem append_one {P : Program} {ops : Array Oper} {rest : List Oper} {o : Oper} {a : Act} {Q : Exit → Act → World → Prop} {W : World} (base : Nat) (hgd : o.guard = none) (s x : Operand) (t e : TypeId) (z : Value) (size bytes : Nat)
    (ho : o.op = .call { callee := .builtin .append, args := #[s, x], argTypes := #[t, t] })
    (ht : P.underlying t = some (.slice e)) (hinfo : (P.info? e).map (fun i => (i.zero, i.size, i.bytes)) = some (some z, size, bytes)) (hz : z.cells.size = size) (hsz : 0 < size) (hb0 : 0 < bytes)
    (v : Value) (n : Nat) (xs : List Value) (E : Array Value) (hE : E.size = size) (hs : a.eval s = v) (H : Nat) (hx : a.eval x = .slice (some ⟨H, 0, none⟩) 1 1) (hH : H = W.heap.size) (h1 : ∀ u ∈ E.toList, u.oneCell' = true)
    (HO : W.ownsRow base e size v n xs) (hbase : base ≤ W.heap.size) (hl : (n + 1) * bytes ≤ 140737488355328)
    (h : ∀ v1 w1, w1.ownsRow base e size v1 (n + 1) (xs ++ E.toList) → W.grownBy w1 v.ownBlock → (v1.ownBlock = v.ownBlock ∨ ∃ b, v1.ownBlock = some b ∧ W.heap.size ≤ b) → v1 ≠ .slice none 0 0 → wpList P ops Q rest (a.put o.dst v1) w1) :
    wpList P ops Q (o :: rest) a (W.alloc (.cells E e)) := by
  subst hH
  obtain ⟨i0, hi, hzz⟩ := Option.map_eq_some_iff.1 hinfo
  simp only [Prod.mk.injEq] at hzz
  obtain ⟨hz0, hz1, hz2⟩ := hzz
  have hlen : n + 1 ≤ 140737488355328 := Nat.le_trans (Nat.le_mul_of_pos_right _ hb0) hl
  refine wpList_append_own_at (W.alloc (.cells E e)) hgd s x t ho base e i0 z size bytes ht hi hz0 hz1 hz2 hz hsz v n xs hs (HO.alloc _) ⟨W.heap.size, 0, none⟩ 1 1 E.toList hx (by simpa using hE)
    (World.news_of_block (cs := E) (t := e) (fr := (0, 0)) (heap_alloc_new W _)) h1 (by simp only [maxLen]; omega) hl (by simp; omega) ?_
  intro v1 w1 hown hg hnil hat
  refine h v1 w1 hown (World.grownBy.trans (World.grownBy_alloc W _ _) hg) ?_ (fun e => by have := (hnil.1 e).2; omega)
  rcases hat with hat | hat
  · exact .inl hat
  · exact .inr ⟨_, hat, by simp⟩

section
variable {w : World} {g : Nat} {A : Option Addr} {n cap p : Nat}
theorem Rdr.tab (h : Rdr w g A n cap p) (b : UInt8) : w.cell? ⟨g, (bi b).toNat, none⟩ = some (.int .u8 ((cl b.toNat : Nat) : Int)) := by
  have : (bi b).toNat = b.toNat := by unfold bi; omega
  rw [this]
  simp only [World.cell?, h.blk]
  have h2 := rdCells_tab A n cap p b.toNat b.toNat_lt
  simpa using h2
theorem Rdr.b (h : Rdr w g A n cap p) : w.cell? ⟨g, 256, none⟩ = some (.slice A n cap) := by
  simp only [World.cell?, h.blk]
  simpa using rdCells_b A n cap p
theorem Rdr.at_ (h : Rdr w g A n cap p) : w.cell? ⟨g, 257, none⟩ = some (.int .i64 ((p : Nat) : Int)) := by
  simp only [World.cell?, h.blk]
  simpa using rdCells_at A n cap p
theorem Rdr.free (h : Rdr w g A n cap p) (o : Nat) : w.frozen? ⟨g, o, none⟩ = false := by
  simp [World.frozen?, h.blk]
theorem Rdr.alloc (h : Rdr w g A n cap p) (o : Obj) : Rdr (w.alloc o) g A n cap p := ⟨(Below.heap_alloc w o g (lt_of_block h.blk)).trans h.blk⟩
theorem Rdr.other (h : Rdr w g A n cap p) {b : Nat} (hb : g ≠ b) (o : Nat) (u : Value) : Rdr (w.setCell ⟨b, o, none⟩ u) g A n cap p := ⟨(Below.heap_setCell _ _ _ g hb).trans h.blk⟩
theorem Rdr.below {W : World} (h : Rdr w g A n cap p) (hb : Below w.heap.size w W) : Rdr W g A n cap p := ⟨(hb.block g (lt_of_block h.blk)).trans h.blk⟩
theorem Rdr.lt (h : Rdr w g A n cap p) : g < w.heap.size := lt_of_block h.blk
theorem Rdr.drewN (h : Rdr w g A n cap p) (k : Nat) : Rdr (w.drewN k) g A n cap p := ⟨h.blk⟩
theorem Rdr.drew (h : Rdr w g A n cap p) : Rdr w.drew g A n cap p := ⟨h.blk⟩
theorem Rdr.set (h : Rdr w g A n cap p) (q : Nat) : Rdr (w.setCell ⟨g, 257, none⟩ (.int .i64 ((q : Nat) : Int))) g A n cap q := by
  constructor
  have hlt := h.lt
  have h' : w.heap[g] = .cells (rdCells A n cap p) 91 (0, 0) := by simpa [Array.getElem?_eq_getElem hlt] using h.blk
  show (w.heap.modify g _)[g]? = _
  rw [Array.getElem?_eq_getElem (by simpa using hlt), Array.getElem_modify_self, h']
  simp [rdCells_set]
theorem Rdr.set1 (h : Rdr w g A n cap p) : Rdr (w.setCell ⟨g, 257, none⟩ (.int .i64 ((p : Int) + 1))) g A n cap (p + 1) := by simpa using h.set (p + 1)
theorem Rdr.kept {w1 : World} (h : Rdr w g A n cap p) (e : w1.heap[g]? = w.heap[g]?) : Rdr w1 g A n cap p := ⟨e.trans h.blk⟩
theorem Bys.kept {w w1 : World} {A : Option Addr} {bs : List UInt8} {g : Nat} (h : Bys w A bs) (hg : w.grownBy w1 (some g)) (ha : ∀ ad, A = some ad → ad.block ≠ g ∧ ad.block < w.heap.size) : Bys w1 A bs := by
  constructor
  intro i hi
  obtain ⟨ad, e, hc⟩ := h.out i hi
  obtain ⟨h1, h2⟩ := ha ad e
  refine ⟨ad, e, ?_⟩
  have hbk : (ad.add i).block = ad.block := by unfold Addr.add; split <;> rfl
  rw [← hc]
  exact World.cell?_of_block (w := w) (by rw [hbk]; exact hg.block _ h2 (fun e => h1 (by injection e)))

theorem run_sub (W : World) (A : Option Addr) (n cap p q : Nat) (hpq : p ≤ q) (hqc : q ≤ cap) :
    (Instr.slice 43 (.slice A n cap) (some (.int .i64 ((p : Nat) : Int))) (some (.int .i64 ((q : Nat) : Int))) none).run Tryd.prog W = .ok (subSl A p q cap) W := by
  have hs : (sizeOf (Tryd.prog.elem 43)).run Tryd.prog W = .ok 1 W := by kernel_rfl
  rw [run_slice_lh W 43 A n cap (by kernel_rfl) .i64 .i64 p q (by omega) (by omega) (by omega), hs]
  simp [Result.andThen, sliced, subSl]

theorem conv_nil (W : World) (l c : Nat) : (convert 43 9 (.slice none l c)).run Tryd.prog W = .ok (.string ByteArray.empty) W :=
  run_convert_bytes_nil W 43 5 Tryd.underlying43 Tryd.underlying5 l c 9 Tryd.underlying9

theorem conv_bys (W : World) (A : Option Addr) (len cap : Nat) (xs : List UInt8) (hlen : xs.length = len) (hb : Bys W A xs) :
    (convert 43 9 (.slice A len cap)).run Tryd.prog W = .ok (.string (bstr xs)) W := by
  cases A with
  | none =>
    rw [conv_nil]
    have : xs = [] := by
      cases xs with
      | nil => rfl
      | cons x r => obtain ⟨ad, e, _⟩ := hb.out 0 (by simp); cases e
    subst this; rfl
  | some ad =>
    have hl : (loadCells ad len).run Tryd.prog W = .ok (((xs.map bi).map (Value.int .u8)).toArray) W := by
      have := run_loadCells_list (P := Tryd.prog) W ad ((xs.map bi).map (Value.int .u8)) (fun j v hj => by
        have hjl : j < xs.length := by
          rcases Nat.lt_or_ge j xs.length with h | h
          · exact h
          · simp [List.getElem?_eq_none h] at hj
        obtain ⟨ad', e, hc⟩ := hb.out j hjl
        cases e
        simp [List.getElem?_eq_getElem hjl] at hj
        subst hj
        exact hc)
      simpa [hlen] using this
    rw [run_convert_bytes_string W 43 9 5 _ len cap Tryd.underlying43 Tryd.underlying5 Tryd.underlying9, run_bytesToString W _ len cap (xs.map bi) hl, foldl_push_bytes]
    have : ((xs.map bi).map fun n => UInt8.ofNat n.toNat) = xs := by
      rw [List.map_map]
      conv => rhs; rw [← List.map_id xs]
      refine List.map_congr_left fun b _ => ?_
      simp [bi]
    rw [this]
    simp [bstr, ByteArray.empty, ByteArray.emptyWithCapacity]
    rfl

theorem Bys.sub {W : World} {A : Option Addr} {bs : List UInt8} (h : Bys W A bs) (p q cap : Nat) (hpq : p ≤ q) (hq : q ≤ bs.length) (hc : q ≤ cap) :
    Bys W (if cap = p then A else A.map (·.add p)) ((bs.drop p).take (q - p)) := by
  constructor
  intro i hi
  simp at hi
  obtain ⟨ad, e, hcell⟩ := h.out (p + i) (by omega)
  have hne : ¬ cap = p := by omega
  refine ⟨ad.add p, by simp [hne, e], ?_⟩
  have : (ad.add p).add i = ad.add (p + i) := by
    unfold Addr.add
    by_cases hi : p = 0 <;> by_cases hj : i = 0 <;> simp [hi, hj, Nat.add_assoc]
  rw [this, hcell]
  simp

theorem conv_sub (W : World) (A : Option Addr) (bs : List UInt8) (p q cap : Nat) (hb : Bys W A bs) (hpq : p ≤ q) (hq : q ≤ bs.length) (hc : q ≤ cap) :
    (convert 43 9 (subSl A p q cap)).run Tryd.prog W = .ok (.string (bstr ((bs.drop p).take (q - p)))) W := by
  unfold subSl
  exact conv_bys W _ _ _ _ (by simp; omega) (hb.sub p q cap hpq hq hc)
/-- Bytes of the call's own. -/
def cellsOf (l : List UInt8) : List Value := l.map fun b => Value.int .u8 (bi b)
theorem own_bys {W : World} {base n : Nat} {v : Value} {l : List UInt8} (h : W.ownsRow base 5 1 v n (cellsOf l)) : l.length = n ∧ ∃ A c, v = .slice A n c ∧ Bys W A l := by
  have hl : l.length = n := by have := h.1; simpa [cellsOf] using this
  refine ⟨hl, ?_⟩
  rcases h.2 with ⟨rfl, rfl⟩ | ⟨g, cap, cur, rfl, _, hg, hn, hc, hs, ht⟩
  · have : l = [] := List.eq_nil_of_length_eq_zero hl
    subst this
    exact ⟨none, 0, rfl, ⟨fun i hi => absurd hi (by simp)⟩⟩
  · refine ⟨some ⟨g, 0, none⟩, cap, rfl, ⟨fun i hi => ⟨_, rfl, ?_⟩⟩⟩
    have hadd : (⟨g, 0, none⟩ : Addr).add i = ⟨g, i, none⟩ := by unfold Addr.add; split <;> simp_all
    rw [hadd, cell_of_row W g i cur _ _ hg]
    have h2 : (cur.toList.take (n * 1))[i]? = some (.int .u8 (bi l[i])) := by
      rw [ht]; simp [cellsOf, hi]
    rw [List.getElem?_take] at h2
    split at h2
    · simpa using h2
    · cases h2
theorem conv_own (W : World) (base n : Nat) (v : Value) (l : List UInt8) (h : W.ownsRow base 5 1 v n (cellsOf l)) :
    (convert 43 9 v).run Tryd.prog W = .ok (.string (bstr l)) W := by
  obtain ⟨hl, A, c, rfl, hb⟩ := own_bys h
  exact conv_bys W A n c l hl hb
theorem Bys.drewN {w : World} {A : Option Addr} {bs : List UInt8} (h : Bys w A bs) (k : Nat) : Bys (w.drewN k) A bs := ⟨h.out⟩
end
end Go.Proofs.YtppbijbgnhmdaaaDoor

/- What the reader's small functions do: word, all, numeral. -/
namespace Go.Proofs.YtppbijbgnhmdaaaDoor
open Go.RowKit

structure WordRel (w : World) (g : Nat) (A : Option Addr) (cap p : Nat) (bs : List UInt8) (m : Nat) (wr : World) (q : Nat) : Prop where
  hp : p ≤ q
  hq : q ≤ bs.length
  hm : m = bs.length - q
  rd : Rdr wr g A bs.length cap q
  gr : w.grownBy wr (some g)
  all : ∀ i, p ≤ i → ∀ h : i < q, isLetter (bs[i]'(by omega)) = true

theorem WordRel.next {w : World} {g : Nat} {A : Option Addr} {cap p : Nat} {bs : List UInt8} {m : Nat} {wr : World} {q : Nat} (h : WordRel w g A cap p bs m wr q) (hq : q < bs.length) (hL : isLetter bs[q] = true) (k : Nat) :
    WordRel w g A cap p bs (bs.length - (q + 1)) ((wr.drewN k).setCell ⟨g, 257, none⟩ (.int .i64 ((q : Int) + 1))) (q + 1) := by
  refine ⟨by have := h.hp; omega, hq, rfl, ?_, ?_, ?_⟩
  · have := (h.rd.drewN k).set (q + 1)
    simpa using this
  · have := h.gr
    exact ⟨this.os, this.tape, this.output, by simpa [World.setCell] using this.size, fun i hi hne => (Below.heap_setCell _ _ _ i (fun e => hne (by rw [e]))).trans (this.block i hi hne)⟩
  · intro i h1 h2
    rcases Nat.lt_or_ge i q with h3 | h3
    · exact h.all i h1 h3
    · have : i = q := by omega
      subst this; exact hL

theorem takeWhile_stop {α : Type} (f : α → Bool) (l : List α) (k : Nat) (hk : k ≤ l.length) (h1 : ∀ i, ∀ h : i < k, f (l[i]'(by omega)) = true) (h2 : ∀ h : k < l.length, f l[k] = false) : l.takeWhile f = l.take k := by
  induction l generalizing k with
  | nil => simp
  | cons x r ih =>
    cases k with
    | zero => have := h2 (by simp); simp at this; simp [this]
    | succ k =>
      have h0 := h1 0 (by omega)
      simp at h0
      rw [List.takeWhile_cons_of_pos h0, List.take_succ_cons, ih k (by simpa using hk) (fun i h => by have := h1 (i + 1) (by omega); simpa using this) (fun h => by have := h2 (by simpa using h); simpa using this)]

theorem WordRel.word {w : World} {g : Nat} {A : Option Addr} {cap p : Nat} {bs : List UInt8} {m : Nat} {wr : World} {q : Nat} (h : WordRel w g A cap p bs m wr q) (hs : ∀ h : q < bs.length, isLetter bs[q] = false) :
    (bs.drop p).takeWhile isLetter = (bs.drop p).take (q - p) := by
  have h1 := h.hp
  have h2 := h.hq
  refine takeWhile_stop _ _ _ (by simp; omega) (fun i hi => ?_) (fun hi => ?_)
  · have := h.all (p + i) (by omega) (by omega)
    simpa using this
  · simp at hi
    have := hs (by omega)
    have e : p + (q - p) = q := by omega
    simp [e, this]

theorem WordRel.done {w : World} {g : Nat} {A : Option Addr} {cap p : Nat} {bs : List UInt8} {m : Nat} {wr : World} {q : Nat} (h : WordRel w g A cap p bs m wr q) (k : Nat) : Rdr (wr.drewN k) g A bs.length cap (p + ((bs.drop p).take (q - p)).length) := by
  have h1 := h.hp
  have h2 := h.hq
  have e : p + ((bs.drop p).take (q - p)).length = q := by simp; omega
  rw [e]
  exact h.rd.drewN k
theorem WordRel.grown {w : World} {g : Nat} {A : Option Addr} {cap p : Nat} {bs : List UInt8} {m : Nat} {wr : World} {q : Nat} (h : WordRel w g A cap p bs m wr q) (k : Nat) : w.grownBy (wr.drewN k) (some g) :=
  ⟨h.gr.os, h.gr.tape, h.gr.output, h.gr.size, h.gr.block⟩

set_option maxHeartbeats 1000000 in
theorem word_calls (g : Nat) (A : Option Addr) (cap p : Nat) (bs : List UInt8) (w : World) (hr : Rdr w g A bs.length cap p) (hb : Bys w A bs) (hg : ∀ ad, A = some ad → ad.block ≠ g ∧ ad.block < w.heap.size) (hp : p ≤ bs.length) (hl : bs.length ≤ 1048576) (hcap : bs.length ≤ cap) :
    Calls Tryd.prog 67 #[.pointer (some ⟨g, 0, none⟩)] w fun e w' => e = .returned (.string (bstr ((bs.drop p).takeWhile isLetter))) ∧ Rdr w' g A bs.length cap (p + ((bs.drop p).takeWhile isLetter).length) ∧ w.grownBy w' (some g) := by
  have HC := Lib.hid hcap
  clear hcap
  have h1 := hr.at_
  go_enter Tryd.func67, Tryd.ntmps67
  go_wp2
  go_loopg [] (bs.length - p) (fun m wr => ∃ q, WordRel w g A cap p bs m wr q)
  case atStart => exact ⟨p, Nat.le_refl _, hp, rfl, hr, World.grownBy.refl _ _, fun i h1 h2 => by omega⟩
  case round =>
    clear h1
    obtain ⟨q, hrel⟩ := hrel
    have hq := hrel.hq
    have hpq := hrel.hp
    have hm := Lib.hid hrel.hm
    have h1 := hrel.rd.at_
    have h2 := hrel.rd.b
    have h5 := hrel.rd.free 257
    have hb1 : Bys wr A bs := hb.kept hrel.gr hg
    have hsl := fun W => run_sub W A bs.length cap p q hpq (by have := HC.out; omega)
    have hcv := fun k => conv_sub (wr.drewN k) A bs p q cap (hb1.drewN k) hpq hq (by have := HC.out; omega)
    by_cases hlt : q < bs.length
    · obtain ⟨ad, rfl, hc⟩ := hb1.out q hlt
      have hrb := bi_range bs[q]
      have h3 := hrel.rd.tab bs[q]
      have hld : decide ((q : Int) < (bs.length : Int)) = true := by simp; omega
      cases hL : isLetter bs[q] with
      | true =>
        have hL' := hL
        unfold isLetter at hL'
        have HL := Lib.hid hL
        clear hL hsl hcv
        generalize bs[q] = x at hL' hc hrb h3
        go_wp2
        go_quiet (fail)
        go_wp2
        go_roundg (bs.length - (q + 1))
        case measure => have := hm.out; omega
        case rel => exact ⟨q + 1, hrel.next hlt HL.out _⟩
      | false =>
        have hL' := hL
        unfold isLetter at hL'
        have HW := Lib.hid (hrel.word (fun _ => hL))
        clear hL
        generalize bs[q] = x at hL' hc hrb h3
        go_wp2
        go_quiet (fail)
        go_wp2
        go_quiet (fail)
        go_wp2
        go_ret
        rw [HW.out]
        rw [World.drewN_drewN]
        exact ⟨rfl, hrel.done _, hrel.grown _⟩
    · obtain rfl : q = bs.length := by omega
      go_wp2
      go_quiet (fail)
      go_wp2
      go_quiet (fail)
      go_wp2
      go_ret
      have HW := hrel.word (fun h => absurd h (Nat.lt_irrefl _))
      rw [HW]
      rw [World.drewN_drewN]
      exact ⟨rfl, hrel.done _, hrel.grown _⟩
end Go.Proofs.YtppbijbgnhmdaaaDoor


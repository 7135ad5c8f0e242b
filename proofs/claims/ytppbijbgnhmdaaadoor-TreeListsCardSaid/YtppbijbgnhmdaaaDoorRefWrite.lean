/- The reference's write and Text. -/
import Derived.Test.YtppbijbgnhmdaaaDoorTextSpec
import Derived.Test.YtppbijbgnhmdaaaDoorTreeDepth
import Derived.Test.YtppbijbgnhmdaaaDoorBld
import Derived.Lib.AppendStr
import Derived.Deep.RegionLaw
import Derived.Deep.RegionHeld3
import Derived.Deep.DrawnRows
namespace Go.Proofs.YtppbijbgnhmdaaaDoor
open Go.RowKit Forest
attribute [local go_sem ↓] Go.wp_at_zero Go.wp_at_succ

theorem own_slice {w : World} {base n : Nat} {e : TypeId} {v : Value} {xs : List Value} (h : w.ownsRow base e 1 v n xs) : ∃ A c, v = .slice A n c := by
  rcases h.2 with ⟨rfl, rfl⟩ | ⟨g, cap, cur, rfl, _⟩
  · exact ⟨none, 0, rfl⟩
  · exact ⟨_, _, rfl⟩
theorem strCells_bstr (s : List UInt8) : Lib.strCells (bstr s) = cellsOf s := by
  simp [Lib.strCells, bstr, cellsOf]
  intro a _; rfl
/-- append(v, s...) of a string, at a step of a region that draws. -/
theorem step_append_str {ops : Array Oper} {o : Oper} {a : Act} {K : Act → World → Prop} {Q : Exit → Act → World → Prop} {E : Prop} {W : World} (hgd : o.guard = none) (sl x : Operand)
    (ho : o.op = .call { callee := .builtin .append, args := #[sl, x], argTypes := #[43, 9] })
    (base : Nat) (v : Value) (bs s : List UInt8) (hs : a.eval sl = v) (hown : W.ownsRow base 5 1 v bs.length (cellsOf bs)) (hx : a.eval x = .string (bstr s))
    (hl : bs.length + s.length ≤ 140737488355328) (hbase : base ≤ W.heap.size)
    (h : ∀ A c w', w'.ownsRow base 5 1 (.slice A (bs ++ s).length c) (bs ++ s).length (cellsOf (bs ++ s)) → W.grownBy w' v.ownBlock → K (a.put o.dst (.slice A (bs ++ s).length c)) w') :
    if Region.wanted o (yielded ops a.tmps) = true then Oper.wp Tryd.prog o a W K Q else E := by
  obtain ⟨i0, hi, hz0, hz1, hz2⟩ := info_parts info_byte
  have hw : Region.wanted o (yielded ops a.tmps) = true := by simp [Region.wanted, hgd]
  rw [if_pos hw]
  have hsz : (bstr s).size = s.length := rfl
  obtain ⟨v', w', hr, h2, h3, _⟩ := Lib.run_append_own_string (P := Tryd.prog) W base 43 9 o.type 5 i0 Tryd.underlying43 Tryd.underlying9 hi hz0 hz1 hz2 v bs.length (cellsOf bs) hown (bstr s) (by simp only [maxLen]; omega) (by omega) hbase
  unfold Oper.wp execOp
  simp only [ho, resolve, invoke, builtin, Sem.run_bind, Sem.run_pure, Result.andThen_ok, List.map_toArray, List.map_cons, List.map_nil, hs, hx, hr]
  rw [strCells_bstr, hsz] at h2
  have e1 : bs.length + s.length = (bs ++ s).length := by simp
  have e2 : cellsOf bs ++ cellsOf s = cellsOf (bs ++ s) := by simp [cellsOf]
  rw [e1, e2] at h2
  obtain ⟨A, c, rfl⟩ := own_slice h2
  exact h A c w' h2 h3
theorem own_drew1 {w : World} {base size n : Nat} {e : TypeId} {v : Value} {xs : List Value} (h : w.ownsRow base e size v n xs) : w.drew.ownsRow base e size v n xs := h
theorem undrew' {w W : World} {r : Option Nat} (h : w.drew.grownBy W r) : w.grownBy W r := ⟨h.os, h.tape, h.output, h.size, h.block⟩
theorem othk_below {w W : World} {e : TypeId} (h : Below w.heap.size w W) : Lib.OthersKept e none w W := fun k _ hk _ _ => (h.block k (Array.getElem?_eq_some_iff.1 hk).1).trans hk
theorem othk_own {w W : World} {base n : Nat} {v : Value} {xs : List Value} (h : w.ownsRow base 5 1 v n xs) (hg : w.grownBy W v.ownBlock) : Lib.OthersKept 5 none w W :=
  (Lib.OthersKept.refl _ _ w).grown hg fun g e => by
    rcases h.2 with ⟨rfl, _⟩ | ⟨g', cap, cur, rfl, _, hgg, _⟩
    · cases e
    · cases e; exact ⟨cur, (0, 0), hgg⟩
theorem below_own {w W : World} {base n : Nat} {v : Value} {xs : List Value} (h : w.ownsRow base 5 1 v n xs) (hb : base ≤ w.heap.size) (hg : w.grownBy W v.ownBlock) : Below base w W :=
  (Below.refl base w).grown hg hb (fun k e => (h.lt k e).1)
theorem own_of_below {w W : World} {base n : Nat} {e : TypeId} {v : Value} {xs : List Value} (h : w.ownsRow base e 1 v n xs) (hb : Below w.heap.size w W) : W.ownsRow base e 1 v n xs :=
  h.kept (gb_below hb none) (by cases v.ownBlock <;> simp)

/-- What write leaves. -/
def WritePost (base : Nat) (bs : List UInt8) (r : Option (List UInt8)) (w : World) (e : Ending) (w' : World) : Prop :=
  (match r with
    | none => ∃ v', e = .returned (.tuple #[v', .bool false])
    | some s => ∃ A c, e = .returned (.tuple #[.slice A (bs ++ s).length c, .bool true]) ∧ w'.ownsRow base 5 1 (.slice A (bs ++ s).length c) (bs ++ s).length (cellsOf (bs ++ s))) ∧
  Below base w w' ∧ Lib.OthersKept 5 none w w'
def WriteDoes (F : Forest) : Prop := ∀ (l : Bool) (k : Int) (x : List UInt8) (a : Int) (A : Option Addr) (c base : Nat) (bs : List UInt8) (B : Option Addr) (d : Nat) (w : World),
  w.ownsRow base 5 1 (.slice B bs.length d) bs.length (cellsOf bs) → base ≤ w.heap.size → LiesB (· < base) w F A 0 → F.len ≤ c → c ≤ maxLen → x.length ≤ 100000 → Texts F → bs.length + wgtT x F ≤ 1099511627776 →
  Calls Tryd.prog 31 #[.slice B bs.length d, .agg #[.bool l, .int .u8 k, .string (bstr x), .int .i64 a, .slice A F.len c]] w (WritePost base bs (wrT l k x F) w)

set_option maxHeartbeats 8000000 in
set_option maxRecDepth 100000 in
theorem write_leaf (F : Forest) (k : Int) (x : List UInt8) (a : Int) (A : Option Addr) (c base : Nat) (bs : List UInt8) (B : Option Addr) (d : Nat) (w : World)
    (hown : w.ownsRow base 5 1 (.slice B bs.length d) bs.length (cellsOf bs)) (hbase : base ≤ w.heap.size) (hn : F.len ≤ c) (hc : c ≤ maxLen) (hx : x.length ≤ 100000) (hw : bs.length + wgtT x F ≤ 1099511627776) :
    Calls Tryd.prog 31 #[.slice B bs.length d, .agg #[.bool false, .int .u8 k, .string (bstr x), .int .i64 a, .slice A F.len c]] w (WritePost base bs (wrT false k x F) w) := by
  have hn9 : F.len ≤ 9223372036854775807 := Nat.le_trans hn hc
  obtain ⟨i0, hi, hz0, hz1, hz2⟩ := info_parts info_byte
  have hB : Hid (Below w.heap.size w (w.alloc (.cells #[.bool false, .int .u8 k, .string (bstr x), .int .i64 a, .slice A F.len c] 27))) := (Below.refl _ w).alloc (Nat.le_refl _) _
  have htk := rtoken_calls k x a (w.alloc (.cells #[.bool false, .int .u8 k, .string (bstr x), .int .i64 a, .slice A F.len c] 27)) hx
  have h4 : (w.alloc (.cells #[.bool false, .int .u8 k, .string (bstr x), .int .i64 a, .slice A F.len c] 27)).cell? ⟨w.heap.size, 4, none⟩ = some (.slice A F.len c) := World.cell?_alloc_mark w _ _ (0, 0) 4
  have HR : Hid (wrT false k x F = if okTok k x = true ∧ F.len = 0 then some (retext k x) else none) := rfl
  have hwl : bs.length + 200002 ≤ 140737488355328 := by omega
  cases hok : okTok k x with
  | false =>
    have HR2 : Hid (wrT false k x F = none) := by show _ = _; rw [HR.out, hok]; rfl
    rw [hok] at htk
    clear hok
    go_enter Tryd.func31, Tryd.ntmps31
    go_wp2_with fail
    refine htk.mono ?_
    clear htk
    rintro e w2 ⟨⟨s, rfl, hs, _⟩, hb2⟩
    have HB2 := Lib.hid (bel_trans hB.out hb2)
    have HO2 := Lib.hid (own_of_below hown HB2.out)
    clear hb2
    go_wp2
    first
      | go_region_law
          ((refine step_append_str (by rfl) _ _ (by rfl) base (.slice B bs.length d) bs s (by rfl) (by first | exact HO2.out | exact own_drew1 HO2.out) (by rfl) (by omega) (by have := HB2.out.size; show base ≤ w2.heap.size; omega) ?_; intro A3 c3 w3 hown3 hg3; (have hg4 : w2.grownBy w3 (Value.slice B bs.length d).ownBlock := by first | exact hg3 | exact undrew' hg3)))
      | fail "no"
    all_goals
      go_wp2
      go_ret2
      rw [HR2.out]
      have hbs := HB2.out.size
      exact ⟨⟨_, rfl⟩, (HB2.out.mono hbase).trans (below_own HO2.out (by omega) hg4), (othk_below HB2.out).trans (othk_own HO2.out hg4)⟩
  | true =>
    rw [hok] at htk
    by_cases h0 : F.len = 0
    · have HR2 : Hid (wrT false k x F = some (retext k x)) := by show _ = _; rw [HR.out, hok, if_pos ⟨rfl, h0⟩]
      have hz : ((F.len : Int) == 0) = true := by simp; omega
      have hz2 : Hid (F.len = 0) := h0
      clear hok h0
      go_enter Tryd.func31, Tryd.ntmps31
      go_wp2_with fail
      refine htk.mono ?_
      clear htk
      rintro e w2 ⟨⟨s, rfl, hs, hsr⟩, hb2⟩
      have h42 : w2.cell? ⟨w.heap.size, 4, none⟩ = some (.slice A F.len c) := (hb2.cell (p := ⟨w.heap.size, 4, none⟩) (by rw [World.size_alloc]; exact Nat.lt_succ_self _)).trans h4
      have HB2 := Lib.hid (bel_trans hB.out hb2)
      have HO2 := Lib.hid (own_of_below hown HB2.out)
      have HSR := Lib.hid (hsr (by first | rfl | trivial))
      have hwb : w.heap.size < w2.heap.size := by have := hb2.size; simp at this; omega
      have HS4 : Hid (∀ w3, w2.grownBy w3 (Value.slice B bs.length d).ownBlock → w3.cell? ⟨w.heap.size, 4, none⟩ = some (.slice A F.len c)) := fun w3 hg => (hg.cell_far ⟨w.heap.size, 4, none⟩ hwb (fun e => by have := (hown.lt w.heap.size e.symm).2; omega)).trans h42
      clear hb2 hsr h4
      go_wp2
      go_region_law
        ((refine step_append_str (by rfl) _ _ (by rfl) base (.slice B bs.length d) bs s (by rfl) (by first | exact HO2.out | exact own_drew1 HO2.out) (by rfl) (by omega) (by have := HB2.out.size; show base ≤ w2.heap.size; omega) ?_; intro A3 c3 w3 hown3 hg3; (have hg4 : w2.grownBy w3 (Value.slice B bs.length d).ownBlock := by first | exact hg3 | exact ⟨hg3.os, hg3.tape, hg3.output, hg3.size, hg3.block⟩); (have h43 := HS4.out _ hg4)))
      all_goals
        go_wp2
        go_ret2
        rw [HR2.out]
        have ho2 := own_of_below hown HB2.out
        have hbs := HB2.out.size
        have hsr := HSR.out
        subst hsr
        exact ⟨⟨A3, c3, by rw [List.length_append]; rfl, hown3⟩, (HB2.out.mono hbase).trans (below_own ho2 (by omega) hg4), (othk_below HB2.out).trans (othk_own ho2 hg4)⟩
    · have HR2 : Hid (wrT false k x F = none) := by show _ = _; rw [HR.out, hok, if_neg (fun h => h0 h.2)]
      have hz : ((F.len : Int) == 0) = false := by simp; omega
      clear hok h0
      go_enter Tryd.func31, Tryd.ntmps31
      go_wp2_with fail
      refine htk.mono ?_
      clear htk
      rintro e w2 ⟨⟨s, rfl, hs, hsr⟩, hb2⟩
      have h42 : w2.cell? ⟨w.heap.size, 4, none⟩ = some (.slice A F.len c) := (hb2.cell (p := ⟨w.heap.size, 4, none⟩) (by rw [World.size_alloc]; exact Nat.lt_succ_self _)).trans h4
      have HB2 := Lib.hid (bel_trans hB.out hb2)
      have HO2 := Lib.hid (own_of_below hown HB2.out)
      have hwb : w.heap.size < w2.heap.size := by have := hb2.size; simp at this; omega
      have HS4 : Hid (∀ w3, w2.grownBy w3 (Value.slice B bs.length d).ownBlock → w3.cell? ⟨w.heap.size, 4, none⟩ = some (.slice A F.len c)) := fun w3 hg => (hg.cell_far ⟨w.heap.size, 4, none⟩ hwb (fun e => by have := (hown.lt w.heap.size e.symm).2; omega)).trans h42
      clear hb2 hsr h4
      go_wp2
      go_region_law
        ((refine step_append_str (by rfl) _ _ (by rfl) base (.slice B bs.length d) bs s (by rfl) (by first | exact HO2.out | exact own_drew1 HO2.out) (by rfl) (by omega) (by have := HB2.out.size; show base ≤ w2.heap.size; omega) ?_; intro A3 c3 w3 hown3 hg3; (have hg4 : w2.grownBy w3 (Value.slice B bs.length d).ownBlock := by first | exact hg3 | exact ⟨hg3.os, hg3.tape, hg3.output, hg3.size, hg3.block⟩); (have h43 := HS4.out _ hg4)))
      all_goals
        go_wp2
        go_ret2
        rw [HR2.out]
        have ho2 := own_of_below hown HB2.out
        have hbs := HB2.out.size
        exact ⟨⟨_, rfl⟩, (HB2.out.mono hbase).trans (below_own ho2 (by omega) hg4), (othk_below HB2.out).trans (othk_own ho2 hg4)⟩

/-- In a call of write, the tree being a list. -/
structure WrAt (base : Nat) (w : World) (x : List UInt8) (a : Int) (A : Option Addr) (F : Forest) (c : Nat) (W : World) : Prop where
  bel : Below base w W
  oth : Lib.OthersKept 5 none w W
  box : W.heap[w.heap.size]? = some (.cells #[.bool true, .int .u8 1, .string (bstr x), .int .i64 a, .slice A F.len c] 27 (0, 0))
theorem WrAt.next {base : Nat} {w W W2 : World} {x : List UInt8} {a : Int} {A : Option Addr} {F : Forest} {c : Nat} (h : WrAt base w x a A F c W) (hb : Below base W W2) (ho : Lib.OthersKept 5 none W W2) : WrAt base w x a A F c W2 :=
  ⟨h.bel.trans hb, h.oth.trans ho, ho _ _ h.box (by simp) (fun _ _ e => by cases e)⟩
/-- Between two rounds. -/
structure WrRel (base : Nat) (w : World) (x : List UInt8) (a : Int) (A : Option Addr) (F : Forest) (c : Nat) (bs : List UInt8) (i : Nat) (G : Forest) (t acc : List UInt8) (B : Option Addr) (d : Nat) (W : World) : Prop where
  at_ : WrAt base w x a A F c W
  len : i + G.len = F.len
  lies : LiesB (· < base) W G A i
  kids : AllKids WriteDoes G
  texts : Texts G
  hacc : acc = bs ++ 40 :: t
  own : W.ownsRow base 5 1 (.slice B acc.length d) acc.length (cellsOf acc)
  spec : wrF F true = (wrF G (decide (i = 0))).map (fun r => t ++ r)
  few : acc.length + wgt G + 1 ≤ bs.length + wgtT x F
  size : base ≤ W.heap.size
/-- append(v, b) of one byte, v the call's own: behind at_builtin; the goal's world is b's box over W. -/
theorem append_byte {ops : Array Oper} {rest : List Oper} {o : Oper} {a : Act} {Q : Exit → Act → World → Prop} {W : World} (base : Nat) (hgd : o.guard = none) (s x : Operand)
    (ho : o.op = .call { callee := .builtin .append, args := #[s, x], argTypes := #[43, 43] })
    (A : Option Addr) (c : Nat) (acc : List UInt8) (b : UInt8) (bv : Int) (hb : bv = bi b) (HO : W.ownsRow base 5 1 (.slice A acc.length c) acc.length (cellsOf acc))
    (hs : a.eval s = .slice A acc.length c) (H : Nat) (hx : a.eval x = .slice (some ⟨H, 0, none⟩) 1 1) (hH : H = W.heap.size) (hbase : base ≤ W.heap.size) (hl : acc.length + 1 ≤ 140737488355328)
    (h : ∀ A1 c1 acc2 w1, acc2 = acc ++ [b] → w1.ownsRow base 5 1 (.slice A1 acc2.length c1) acc2.length (cellsOf acc2) → W.grownBy w1 (Value.slice A acc.length c).ownBlock → wpList Tryd.prog ops Q rest (a.put o.dst (.slice A1 acc2.length c1)) w1) :
    wpList Tryd.prog ops Q (o :: rest) a (W.alloc (.cells #[.int .u8 bv] 5)) := by
  subst hb
  refine append_one base hgd s x 43 5 (.int .u8 0) 1 1 ho Tryd.underlying43 info_byte rfl (by omega) (by omega) (.slice A acc.length c) acc.length (cellsOf acc) #[.int .u8 (bi b)] rfl hs H hx hH (by simp [Value.oneCell']) HO hbase (by omega) ?_
  intro v1 w1 hown hg _ _
  obtain ⟨A1, c1, rfl⟩ := own_slice hown
  have e1 : acc.length + 1 = (acc ++ [b]).length := by simp
  have e2 : cellsOf acc ++ (#[Value.int .u8 (bi b)] : Array Value).toList = cellsOf (acc ++ [b]) := by simp [cellsOf]
  rw [e1, e2] at hown
  have := h A1 c1 (acc ++ [b]) w1 rfl hown hg
  rw [← e1] at this
  exact this
end Go.Proofs.YtppbijbgnhmdaaaDoor

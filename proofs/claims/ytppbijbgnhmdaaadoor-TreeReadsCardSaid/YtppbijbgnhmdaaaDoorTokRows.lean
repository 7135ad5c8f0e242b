/- Rows of tokens: an argument opened, a copy made by append. -/
import Derived.Test.YtppbijbgnhmdaaaDoorTreeOpen
import Derived.Test.YtppbijbgnhmdaaaDoorNextSpec
import Derived.Test.YtppbijbgnhmdaaaDoorRowKit
import Derived.Laws.AppendOwnNone
namespace Go.Proofs.YtppbijbgnhmdaaaDoor
open Go.ChangeShapes Go.WideShapes Go.ChangeAt Go.RowKit Forest

instance : Inhabited TokI := ⟨⟨0, [], 0⟩⟩
set_option maxRecDepth 100000 in
/-- An argument that is a row of tokens. -/
theorem opened_toks {H : Type} {enc : TypeId × Value → H} {W : World} {base : Nat} {v : Value} {d : DataW H} {p : List MemPlace}
    (hval : Value.okWide Tryd.prog W .any base 37 v) (h : DataW.Trod enc Tryd.prog W 0 (fun _ => true) true 37 v d p) :
    ∃ A c, ∃ L : List TokI, v = .slice A L.length c ∧ L.length ≤ c ∧ c ≤ maxLen ∧ TksI W A L ∧ (A = none → L = [] ∧ c = 0) := by
  obtain ⟨A, len, cap, hv⟩ := okWide_slice Tryd.underlying37 hval
  subst hv
  obtain ⟨fuel, hf⟩ := h
  rcases DataW.trod_slice Tryd.underlying37 hf with ⟨e, _⟩ | ⟨a, len', cap', elems, rest, n, _, e, _, _, hlc, hcm, hlen, hel, _, _⟩
  · simp [Value.cells] at e
    obtain ⟨rfl, rfl, rfl⟩ := e
    exact ⟨none, 0, [], rfl, Nat.le_refl _, Nat.zero_le _, ⟨fun i hi => absurd hi (by simp)⟩, fun _ => ⟨rfl, rfl⟩⟩
  · simp [Value.cells] at e
    obtain ⟨rfl, rfl, rfl⟩ := e
    have one : ∀ i, i < len → ∃ t : TokI, W.cells? 0 (a.add (i * 3)) 3 = some [.int .u8 t.kind, .string (bstr t.text), .int .i64 t.at_] := fun i hi => by
      have he := hel i hi
      rw [cellsTok, List.getElem?_eq_getElem (by omega)] at he
      obtain ⟨cs', hc, ht⟩ := Option.bind_eq_some_iff.1 he
      obtain ⟨k, s, z, rfl, _⟩ := open_tok ht
      exact ⟨⟨k, s, z⟩, hc⟩
    obtain ⟨T, hT⟩ := Deep.choose_lt one
    have hl : ((List.range len).map T).length = len := by simp
    refine ⟨some a, cap, (List.range len).map T, by rw [hl], by rw [hl]; exact hlc, hcm, ⟨fun i hi => ?_⟩, fun e => by cases e⟩
    have hi2 : i < len := by rw [hl] at hi; exact hi
    obtain ⟨b, o, spot⟩ := a
    have hsp : spot = none := by
      obtain ⟨_, _, hcell⟩ := World.cells?_some (hT 0 (by omega))
      exact World.cell?_spot (a := ⟨b, o, spot⟩) (hcell 0 (by omega))
    subst hsp
    obtain ⟨_, _, hcell⟩ := World.cells?_some (hT i hi2)
    simp only [Addr.add_lit] at hcell
    have hget : ((List.range len).map T)[i] = T i := by simp
    rw [hget]
    exact ⟨b, o, rfl, hcell 0 (by omega), hcell 1 (by omega), hcell 2 (by omega)⟩

/-- The cells of a row of tokens. -/
def tiCells (l : List TokI) : List Value := l.flatMap fun t => [.int .u8 t.kind, .string (bstr t.text), .int .i64 t.at_]
theorem tiCells_length : ∀ l : List TokI, (tiCells l).length = l.length * 3
  | [] => rfl
  | t :: r => by
    have := tiCells_length r
    show (([.int .u8 t.kind, .string (bstr t.text), .int .i64 t.at_] : List Value) ++ tiCells r).length = _
    rw [List.length_append, this, List.length_cons]; simp; omega
theorem tiCells_at : ∀ (l : List TokI) (i : Nat) (h : i < l.length), (tiCells l)[i * 3]? = some (.int .u8 l[i].kind) ∧ (tiCells l)[i * 3 + 1]? = some (.string (bstr l[i].text)) ∧ (tiCells l)[i * 3 + 2]? = some (.int .i64 l[i].at_)
  | [], i, h => absurd h (by simp)
  | t :: r, 0, _ => ⟨rfl, rfl, rfl⟩
  | t :: r, i + 1, h => by
    have := tiCells_at r i (by simpa using h)
    have e : tiCells (t :: r) = .int .u8 t.kind :: .string (bstr t.text) :: .int .i64 t.at_ :: tiCells r := rfl
    have e3 : (i + 1) * 3 = i * 3 + 3 := by omega
    rw [e, e3]
    exact this
/-- A row of the call's own is a row of tokens. -/
theorem own_tksi {w : World} {base n : Nat} {v : Value} {l : List TokI} (h : w.ownsRow base 24 3 v n (tiCells l)) (hn : n = l.length) : ∃ A c, v = .slice A l.length c ∧ l.length ≤ c ∧ c ≤ maxLen ∧ TksI w A l ∧ ∀ g o, A = some ⟨g, o, none⟩ → base ≤ g ∧ g < w.heap.size := by
  subst hn
  rcases h.2 with ⟨rfl, h0⟩ | ⟨g, cap, cur, rfl, hb, hg, hc, hs, hz, ht⟩
  · have : l = [] := List.eq_nil_of_length_eq_zero h0
    subst this
    exact ⟨none, 0, rfl, Nat.le_refl _, Nat.zero_le _, ⟨fun i hi => absurd hi (by simp)⟩, fun g o e => by cases e⟩
  · have hcell : ∀ k, k < l.length * 3 → w.cell? ⟨g, k, none⟩ = (tiCells l)[k]? := fun k hk => by
      rw [cell_of_row w g k cur _ _ hg, ← ht]
      rw [List.getElem?_take, if_pos hk]
      simp
    refine ⟨some ⟨g, 0, none⟩, cap, rfl, hc, hs, ⟨fun i hi => ⟨g, 0, rfl, ?_, ?_, ?_⟩⟩, fun g' o e => by cases e; exact ⟨hb, lt_of_block hg⟩⟩
    · rw [hcell _ (by omega), Nat.zero_add]; exact (tiCells_at l i hi).1
    · rw [hcell _ (by omega), Nat.zero_add]; exact (tiCells_at l i hi).2.1
    · rw [hcell _ (by omega), Nat.zero_add]; exact (tiCells_at l i hi).2.2
/-- append(v, x...) of tokens, v the call's own and empty, x any row of tokens. -/
theorem append_toks {ops : Array Oper} {rest : List Oper} {o : Oper} {a : Act} {Q : Exit → Act → World → Prop} {W : World} (base : Nat) (hgd : o.guard = none) (s x : Operand)
    (ho : o.op = .call { callee := .builtin .append, args := #[s, x], argTypes := #[37, 37] })
    (v : Value) (hs : a.eval s = v) (HO : W.ownsRow base 24 3 v 0 []) (A : Option Addr) (c : Nat) (bs : List TokI) (hx : a.eval x = .slice A bs.length c) (hA : TksI W A bs) (hnil : A = none → bs = [] ∧ c = 0)
    (hbase : base ≤ W.heap.size) (hl : bs.length ≤ 1048576)
    (h : ∀ v1 w1, w1.ownsRow base 24 3 v1 bs.length (tiCells bs) → W.grownBy w1 v.ownBlock → wpList Tryd.prog ops Q rest (a.put o.dst v1) w1) :
    wpList Tryd.prog ops Q (o :: rest) a W := by
  obtain ⟨i0, hi, hz0, hz1, hz2⟩ := info_parts info_tok
  cases A with
  | none =>
    obtain ⟨rfl, rfl⟩ := hnil rfl
    exact wpList_append_own_none hgd s x 37 ho base 24 i0 3 Tryd.underlying37 hi v _ _ hs HO hx (h v W HO (World.grownBy.refl _ _))
  | some ad =>
    refine wpList_append_own W hgd s x 37 ho base 24 i0 _ 3 32 Tryd.underlying37 hi hz0 hz1 hz2 rfl (by omega) v _ _ hs HO ad bs.length c (tiCells bs) hx (tiCells_length bs) ?_ ?_ (by simp only [maxLen]; omega) (by omega) hbase ?_
    · intro j u hj
      have hjl : j < bs.length * 3 := by
        rcases Nat.lt_or_ge j (bs.length * 3) with h | h
        · exact h
        · rw [List.getElem?_eq_none (by rw [tiCells_length]; exact h)] at hj; cases hj
      have hq : j / 3 < bs.length := by omega
      obtain ⟨g, q, e, h0, h1, h2⟩ := hA.out (j / 3) hq
      cases e
      obtain ⟨t0, t1, t2⟩ := tiCells_at bs (j / 3) hq
      rw [Addr.add_lit]
      have h3 : j % 3 = 0 ∨ j % 3 = 1 ∨ j % 3 = 2 := by omega
      rcases h3 with h3 | h3 | h3
      · have ej : j = j / 3 * 3 := by omega
        rw [ej] at hj ⊢
        rw [t0] at hj; cases hj
        exact h0
      · have ej : j = j / 3 * 3 + 1 := by omega
        rw [ej] at hj ⊢
        rw [t1] at hj; cases hj
        exact h1
      · have ej : j = j / 3 * 3 + 2 := by omega
        rw [ej] at hj ⊢
        rw [t2] at hj; cases hj
        exact h2
    · intro u hu
      obtain ⟨t, _, ht⟩ := List.mem_flatMap.1 hu
      simp at ht
      rcases ht with rfl | rfl | rfl <;> rfl
    · intro v1 w1 h1 h2 _
      refine h v1 w1 ?_ h2
      rw [List.nil_append, Nat.zero_add] at h1
      exact h1
theorem own_empty_toks (w : World) : (w.alloc (.cells #[] 24)).ownsRow w.heap.size 24 3 (.slice (some ⟨w.heap.size, 0, none⟩) 0 0) 0 [] :=
  ⟨rfl, .inr ⟨_, 0, _, rfl, Nat.le_refl _, heap_alloc_new w _, Nat.le_refl _, by simp [maxLen], rfl, rfl⟩⟩
end Go.Proofs.YtppbijbgnhmdaaaDoor

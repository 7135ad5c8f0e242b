/- An argument that is a tree, opened. -/
import Derived.Test.YtppbijbgnhmdaaaDoorTks
import Derived.Test.YtppbijbgnhmdaaaDoorTreeSize
import Derived.Deep.Slices
import Derived.ChangeArms
import Derived.SizedLaws
namespace Go.Proofs.YtppbijbgnhmdaaaDoor
open Go.RowKit Forest

section
variable {H : Type} {enc : TypeId × Value → H} {W : World} {sp : Nat → Bool} {hd : Bool}

theorem trod_three {t : TypeId} {f0 f1 f2 : Field} {fuel : Nat} {cs : List Value} {x : DataW H × List MemPlace} (ht : Tryd.prog.underlying t = some (.struct #[f0, f1, f2])) (h : DataW.trod enc Tryd.prog W 0 sp hd fuel t cs = some x) :
    ∃ y0 y1 y2 n, fuel = n + 1 ∧ x = (.agg [y0.1, y1.1, y2.1], y0.2 ++ (y1.2 ++ y2.2)) ∧ cs.length = Tryd.prog.cellsOf t ∧ DataW.trod enc Tryd.prog W 0 sp hd n f0.type ((cs.drop f0.offset).take (Tryd.prog.cellsOf f0.type)) = some y0 ∧
      DataW.trod enc Tryd.prog W 0 sp hd n f1.type ((cs.drop f1.offset).take (Tryd.prog.cellsOf f1.type)) = some y1 ∧ DataW.trod enc Tryd.prog W 0 sp hd n f2.type ((cs.drop f2.offset).take (Tryd.prog.cellsOf f2.type)) = some y2 := by
  obtain ⟨xs, n, hfu, rfl, hl, hlen, hf⟩ := DataW.trod_struct ht h
  match xs, hlen with
  | [y0, y1, y2], _ => exact ⟨y0, y1, y2, n, hfu, by simp, hl, by simpa using hf 0 f0 rfl, by simpa using hf 1 f1 rfl, by simpa using hf 2 f2 rfl⟩
theorem list_three {α : Type} {l : List α} (h : l.length = 3) : ∃ a b c, l = [a, b, c] := by
  match l, h with
  | [a, b, c], _ => exact ⟨a, b, c, rfl⟩
theorem list_five {α : Type} {l : List α} (h : l.length = 5) : ∃ a b c d e, l = [a, b, c, d, e] := by
  match l, h with
  | [a, b, c, d, e], _ => exact ⟨a, b, c, d, e, rfl⟩
theorem cellsTok : Tryd.prog.cellsOf 24 = 3 := by kernel_rfl
theorem cellsTree : Tryd.prog.cellsOf 27 = 5 := by kernel_rfl
theorem cellsKind : Tryd.prog.cellsOf 22 = 1 := by kernel_rfl
theorem cellsStr : Tryd.prog.cellsOf 9 = 1 := by kernel_rfl
theorem cellsInt : Tryd.prog.cellsOf 3 = 1 := by kernel_rfl
theorem cellsBool : Tryd.prog.cellsOf 4 = 1 := by kernel_rfl
theorem cellsTrees : Tryd.prog.cellsOf 25 = 1 := by kernel_rfl
/-- A token, opened. -/
theorem open_tok {fuel : Nat} {cs : List Value} {x : DataW H × List MemPlace} (h : DataW.trod enc Tryd.prog W 0 sp hd fuel 24 cs = some x) :
    ∃ (k : Int) (s : List UInt8) (a : Int), cs = [.int .u8 k, .string (bstr s), .int .i64 a] ∧ x.1 = .agg [.lit (.int .u8 k), .lit (.string s), .lit (.int .i64 a)] := by
  obtain ⟨y0, y1, y2, n, _, rfl, hl, h0, h1, h2⟩ := trod_three Tryd.underlying24 h
  rw [cellsTok] at hl
  obtain ⟨c0, c1, c2, rfl⟩ := list_three hl
  rw [cellsKind] at h0
  rw [cellsStr] at h1
  rw [cellsInt] at h2
  obtain ⟨k, e0, x0, _⟩ := DataW.trod_int Tryd.underlying22 h0
  obtain ⟨s, e1, x1, _⟩ := DataW.trod_string Tryd.underlying9 h1
  obtain ⟨a, e2, x2, _⟩ := DataW.trod_int Tryd.underlying3 h2
  simp at e0 e1 e2
  subst e0 e1 e2
  exact ⟨k, s.data.toList, a, rfl, by rw [x0, x1, x2]⟩
theorem weightsAll_mem {P : Program} {e : TypeId} : ∀ {ds : List (DataW H)} {i : Nat} {d : DataW H}, ds[i]? = some d → ∀ n ∈ d.weights P e, n ∈ DataW.weightsAll P e ds
  | d0 :: ds, 0, d, h, n, hn => by
    simp only [List.getElem?_cons_zero, Option.some.injEq] at h
    subst h
    simp only [DataW.weightsAll, List.mem_append]
    exact .inl hn
  | d0 :: ds, i + 1, d, h, n, hn => by
    simp only [List.getElem?_cons_succ] at h
    simp only [DataW.weightsAll, List.mem_append]
    exact .inr (weightsAll_mem h n hn)
  | [], _, _, h, _, _ => by simp at h
/-- What a tree, read at its five cells, is. -/
def IsTree (W : World) (cs : List Value) : Prop := ∃ l k t a A F c, cs = [.bool l, .int .u8 k, .string (bstr t), .int .i64 a, .slice A F.len c] ∧ F.len ≤ c ∧ c ≤ maxLen ∧ Lies W F A 0 ∧ t.length ≤ 140737488351232 ∧ Fits F
theorem row_spot {a : Addr} {len : Nat} (h : ∀ i, i < len → ∃ cs, W.cells? 0 (a.add (i * 5)) 5 = some cs ∧ IsTree W cs) (hl : 0 < len) : a.spot = none := by
  obtain ⟨cs, hc, l, k, t, z, A, G, c, rfl, _⟩ := h 0 hl
  obtain ⟨_, _, hcell⟩ := World.cells?_some hc
  exact World.cell?_spot (a := a) (hcell 0 (by omega))
/-- The trees of a row, from those behind up. -/
theorem row_forest {a : Addr} {len : Nat} (h : ∀ i, i < len → ∃ cs, W.cells? 0 (a.add (i * 5)) 5 = some cs ∧ IsTree W cs) : ∀ m, m ≤ len → ∃ F : Forest, F.len = m ∧ Lies W F (some a) (len - m) ∧ Fits F
  | 0, _ => ⟨.nil, rfl, trivial, trivial⟩
  | m + 1, hm => by
    obtain ⟨F, h1, h2, h3⟩ := row_forest h m (by omega)
    have hspot := row_spot h (by omega)
    obtain ⟨cs, hc, l, k, t, z, A, G, c, rfl, g1, g2, g3, g4, g5⟩ := h (len - (m + 1)) (by omega)
    obtain ⟨_, _, hcell⟩ := World.cells?_some hc
    obtain ⟨b, o, spot⟩ := a
    dsimp only at hspot
    subst hspot
    simp only [Addr.add_lit] at hcell
    have hz : len - (m + 1) + 1 = len - m := by omega
    exact ⟨.cons l k t z G F, by show F.len + 1 = m + 1; rw [h1], ⟨⟨b, o, rfl, hcell 0 (by omega), hcell 1 (by omega), hcell 2 (by omega), hcell 3 (by omega), A, c, hcell 4 (by omega), g1, g2, g3⟩, by rw [hz]; exact h2⟩, g4, g5, h3⟩
/-- A tree, opened. -/
theorem open_tree : ∀ (fuel : Nat) (cs : List Value) (x : DataW H × List MemPlace), DataW.trod enc Tryd.prog W 0 sp hd fuel 27 cs = some x → (∀ n ∈ x.1.weights Tryd.prog 27, n ≤ reachBytes) → IsTree W cs := by
  intro fuel
  induction fuel using Nat.strongRecOn with
  | _ fuel ih =>
    intro cs x h hw
    obtain ⟨y0, y1, y2, n, hfu, rfl, hl, h0, h1, h2⟩ := trod_three Tryd.underlying27 h
    rw [cellsTree] at hl
    obtain ⟨c0, c1, c2, c3, c4, rfl⟩ := list_five hl
    rw [cellsBool] at h0
    rw [cellsTok] at h1
    rw [cellsTrees] at h2
    obtain ⟨l, e0, x0⟩ := DataW.trod_bool Tryd.underlying4 h0
    obtain ⟨k, s, a, e1, x1⟩ := open_tok h1
    simp at e0 e1
    obtain ⟨rfl, rfl, rfl⟩ := e1
    subst e0
    have hws : s.length ≤ 140737488351232 := by
      refine hw s.length ?_
      rw [x1]
      simp [DataW.weights, DataW.weightsEach, Tryd.underlying27, Tryd.underlying24]
    rcases DataW.trod_slice Tryd.underlying25 h2 with ⟨e4, _⟩ | ⟨ad, len, cap, elems, rest, n', hn', e4, x4, _, hlc, hcm, hlen, hel, _, _⟩
    · simp at e4
      subst e4
      exact ⟨l, k, s, a, none, .nil, 0, rfl, Nat.le_refl _, Nat.zero_le _, trivial, hws, trivial⟩
    · simp at e4
      subst e4
      have hrow : ∀ i, i < len → ∃ cs, W.cells? 0 (ad.add (i * 5)) 5 = some cs ∧ IsTree W cs := fun i hi => by
        have he := hel i hi
        rw [cellsTree, List.getElem?_eq_getElem (by omega)] at he
        obtain ⟨cs', hc, ht⟩ := Option.bind_eq_some_iff.1 he
        refine ⟨cs', hc, ih n' (by omega) cs' _ ht fun m hm => hw m ?_⟩
        have hmem : m ∈ DataW.weightsAll Tryd.prog 27 (elems.map (·.1)) := weightsAll_mem (i := i) (by rw [List.getElem?_map, List.getElem?_eq_getElem (by omega)]; rfl) m hm
        rw [x4]
        simp only [DataW.weights, DataW.weightsEach, Tryd.underlying27, Tryd.underlying25, List.map_cons, List.mem_append, List.mem_cons]
        exact .inr (.inr (.inl (.inr (.inl hmem))))
      obtain ⟨F, f1, f2, f3⟩ := row_forest hrow len (Nat.le_refl _)
      rw [Nat.sub_self] at f2
      exact ⟨l, k, s, a, some ad, F, cap, by rw [f1], by rw [f1]; exact hlc, hcm, f2, hws, f3⟩
end
end Go.Proofs.YtppbijbgnhmdaaaDoor

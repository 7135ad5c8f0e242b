/- An argument that is a row of trees, opened from a row's words. -/
import Derived.Test.YtppbijbgnhmdaaaDoorRowTree
namespace Go.Proofs.YtppbijbgnhmdaaaDoor
open Go.ChangeShapes Go.WideShapes Go.ChangeAt Go.RowKit Forest

set_option maxRecDepth 100000 in
/-- An argument that is a row of trees. -/
theorem opened_trees {H : Type} {enc : TypeId × Value → H} {W : World} {base : Nat} {v : Value} {d : DataW H} {p : List MemPlace} {ts : List TypeId} {ds : List (DataW H)} {j : Nat}
    (hval : Value.okWide Tryd.prog W .any base 25 v) (h : DataW.Trod enc Tryd.prog W 0 (fun _ => true) true 25 v d p)
    (hsz : (DataW.weightsEach Tryd.prog ts ds).all (· ≤ reachBytes) = true) (ht : ts[j]? = some 25) (hd : ds[j]? = some d) :
    ∃ A c F, v = .slice A F.len c ∧ F.len ≤ c ∧ c ≤ maxLen ∧ Lies W F A 0 ∧ Fits F := by
  obtain ⟨A, len, cap, hv⟩ := okWide_slice Tryd.underlying25 hval
  subst hv
  obtain ⟨fuel, hf⟩ := h
  have hw : ∀ n ∈ d.weights Tryd.prog 25, n ≤ reachBytes := fun n hn => by
    have := List.all_eq_true.1 hsz n (DataW.weights_mem_each ht hd n hn)
    simpa using this
  rcases DataW.trod_slice Tryd.underlying25 hf with ⟨e, _⟩ | ⟨ad, len', cap', elems, rest, n', hn', e4, x4, _, hlc, hcm, hlen, hel, _, _⟩
  · simp [Value.cells] at e
    obtain ⟨rfl, rfl, rfl⟩ := e
    exact ⟨none, 0, .nil, rfl, Nat.le_refl _, Nat.zero_le _, trivial, trivial⟩
  · simp [Value.cells] at e4
    obtain ⟨rfl, rfl, rfl⟩ := e4
    have hd4 : d = .slice (elems.map (·.1)) (rest.map (·.1)) := congrArg Prod.fst x4
    have hrow : ∀ i, i < len → ∃ cs, W.cells? 0 (ad.add (i * 5)) 5 = some cs ∧ IsTree W cs := fun i hi => by
      have he := hel i hi
      rw [cellsTree, List.getElem?_eq_getElem (by omega)] at he
      obtain ⟨cs', hc, ht⟩ := Option.bind_eq_some_iff.1 he
      refine ⟨cs', hc, open_tree n' cs' _ ht fun m hm => hw m ?_⟩
      have hmem : m ∈ DataW.weightsAll Tryd.prog 27 (elems.map (·.1)) := weightsAll_mem (i := i) (by rw [List.getElem?_map, List.getElem?_eq_getElem (by omega)]; rfl) m hm
      rw [hd4]
      simp only [DataW.weights, Tryd.underlying25, List.mem_append, List.mem_cons]
      exact .inr (.inl hmem)
    obtain ⟨F, f1, f2, f3⟩ := row_forest hrow len (Nat.le_refl _)
    rw [Nat.sub_self] at f2
    exact ⟨some ad, cap, F, by rw [f1], by rw [f1]; exact hlc, hcm, f2, f3⟩
end Go.Proofs.YtppbijbgnhmdaaaDoor

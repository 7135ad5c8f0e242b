/- An argument that is a tree, opened from a row's words; the integer that the library keeps. -/
import Derived.Test.YtppbijbgnhmdaaaDoorRowKit
import Derived.Test.YtppbijbgnhmdaaaDoorTreeOpen
import Derived.Test.YtppbijbgnhmdaaaDoorLawTexts
import Derived.Shelf.Vars
namespace Go.Proofs.YtppbijbgnhmdaaaDoor
open Go.ChangeShapes Go.WideShapes Go.ChangeAt Go.RowKit Forest

theorem var0_of {W : World} (h : W.ShapedOpen Tryd.prog) : Var0 W :=
  cell_of_shapedOpen_int (t := 3) (zero := #[.int .i64 0]) (k := .i64) h (of_decide_eq_true (by kernel_rfl)) (by kernel_rfl) rfl (by kernel_rfl) (by kernel_rfl) Tryd.underlying3
set_option maxRecDepth 100000 in
/-- An argument that is a tree. -/
theorem opened_tree {H : Type} {enc : TypeId × Value → H} {W : World} {base : Nat} {v : Value} {d : DataW H} {p : List MemPlace} {ts : List TypeId} {ds : List (DataW H)} {j : Nat}
    (hval : Value.okWide Tryd.prog W .any base 27 v) (h : DataW.Trod enc Tryd.prog W 0 (fun _ => true) true 27 v d p)
    (hsz : (DataW.weightsEach Tryd.prog ts ds).all (· ≤ reachBytes) = true) (ht : ts[j]? = some 27) (hd : ds[j]? = some d) :
    ∃ T A c, v = .agg #[.bool T.l, .int .u8 T.k, .string (bstr T.x), .int .i64 T.a, .slice A T.F.len c] ∧ TArg T A c W := by
  obtain ⟨cs, hv, -⟩ := okWide_struct Tryd.underlying27 hval
  subst hv
  obtain ⟨fuel, hf⟩ := h
  have hw : ∀ n ∈ d.weights Tryd.prog 27, n ≤ reachBytes := fun n hn => by
    have := List.all_eq_true.1 hsz n (DataW.weights_mem_each ht hd n hn)
    simpa using this
  obtain ⟨l, k, t, a, A, F, c, e, h1, h2, h3, h4, h5⟩ := open_tree fuel _ _ hf hw
  have e' : cs = #[.bool l, .int .u8 k, .string (bstr t), .int .i64 a, .slice A F.len c] := by
    have : cs.toList = _ := e
    rw [← Array.toArray_toList (xs := cs), this]
  exact ⟨⟨l, k, t, a, F⟩, A, c, by rw [e'], ⟨h3, h1, h2⟩, h4, h5⟩
end Go.Proofs.YtppbijbgnhmdaaaDoor

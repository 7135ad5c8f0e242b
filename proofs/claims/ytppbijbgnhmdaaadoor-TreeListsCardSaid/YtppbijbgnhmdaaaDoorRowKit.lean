/- What the rows of this seat share: the witness's world, an argument opened. -/
import Derived.Test.YtppbijbgnhmdaaaDoorLexBase
import Derived.Test.YtppbijbgnhmdaaaDoorCards
import Derived.Test.YtppbijbgnhmdaaaDoorTie
import Derived.WalkKit
import Derived.ProofKit
import Derived.OpenShut
import Derived.Deep.DeepHandedRow
import Derived.Lib.LaidTab
import Derived.LaidMore
import Derived.Lay
import Derived.SevenTiedAt
import Derived.SizedLaws
namespace Go.Proofs.YtppbijbgnhmdaaaDoor
open Go.ChangeShapes Go.WideShapes Go.ChangeAt Go.RowKit

theorem own : ownKnob Tryd.prog.godebug = none := by kernel_rfl
theorem laidOut : laidOutB Tryd.prog = true := by kernel_rfl
theorem cellsByte : Tryd.prog.cellsOf 5 = 1 := by kernel_rfl
theorem bytesByte : Tryd.prog.bytesOf 5 = 1 := by kernel_rfl

/-- The list of variables that each row of this seat bears. -/
def laidAllOf : List (String × DataW Unit) := [("unicode/utf8.acceptRanges", Rows.laid_unicode_utf8_acceptRanges), ("unicode/utf8.first", Rows.laid_unicode_utf8_first)]
noncomputable def laidWorld (os : Os) : World := World.laidAll Tryd.prog os laidAllOf
theorem laid_met (os : Os) (args : Array Value) : laidMet Tryd.prog laidAllOf ((laidWorld os).forCall (fun _ _ => 0) ⟨#[], args, []⟩).memory :=
  laidMet_laidAll _ (by kernel_rfl) (by kernel_rfl)

/-- An argument of bytes, opened. -/
theorem opened {H : Type} {enc : TypeId × Value → H} {W : World} {A : Option Addr} {len cap : Nat} {d : DataW H} {p : List MemPlace} {ts : List TypeId} {ds : List (DataW H)} {j : Nat}
    (h : DataW.Trod enc Tryd.prog W 0 (fun _ => true) true 43 (.slice A len cap) d p)
    (hsz : (DataW.weightsEach Tryd.prog ts ds).all (· ≤ reachBytes) = true) (ht : ts[j]? = some 43) (hd : ds[j]? = some d) :
    ∃ bs : List UInt8, len = bs.length ∧ bs.length ≤ cap ∧ Bys W A bs ∧ (A = none → bs = [] ∧ cap = 0) ∧ bs.length ≤ 140737488351232 := by
  obtain ⟨fuel, hf⟩ := h
  rcases open_ints Tryd.underlying43 Tryd.underlying5 cellsByte hf with ⟨hcs, hx⟩ | ⟨a, len', cap', zs, hcs, _, hl, hm, hz, hx, hcell, hwz⟩
  · simp [Value.cells] at hcs
    obtain ⟨rfl, rfl, rfl⟩ := hcs
    exact ⟨[], rfl, Nat.le_refl _, ⟨fun i hi => absurd hi (by simp)⟩, fun _ => ⟨rfl, rfl⟩, Nat.zero_le _⟩
  · simp [Value.cells] at hcs
    obtain ⟨rfl, rfl, rfl⟩ := hcs
    simp only [Prod.mk.injEq] at hx
    obtain ⟨rfl, rfl⟩ := hx
    simp only [if_true] at hz
    have hs := sized_slice hsz ht hd Tryd.underlying43
    rw [bytesByte] at hs
    simp only [lits, List.length_map, List.length_take, List.length_drop, reachBytes] at hs
    refine ⟨(zs.take len).map fun z => UInt8.ofNat z.toNat, by simp; omega, by simp; omega, ⟨fun i hi => ⟨a, rfl, ?_⟩⟩, fun e => by simp at e, by simp; omega⟩
    have hi2 : i < len := by simp at hi; omega
    have hi' : i < zs.length := by omega
    have e0 : zs.getD i 0 = zs[i] := by rw [List.getD, List.getElem?_eq_getElem hi']; rfl
    have hw := hwz zs[i] (List.getElem_mem hi')
    simp [Lit.wf, IntKind.min, IntKind.max, IntKind.bits, IntKind.signed] at hw
    rw [hcell i hi', e0]
    simp only [List.getElem_map, List.getElem_take, bi]
    congr 2
    simp
    omega
/-- An argument that is a string. -/
theorem opened_string {H : Type} {enc : TypeId × Value → H} {W : World} {s : ByteArray} {d : DataW H} {p : List MemPlace} {ts : List TypeId} {ds : List (DataW H)} {j : Nat}
    (h : DataW.Trod enc Tryd.prog W 0 (fun _ => true) true 9 (.string s) d p)
    (hsz : (DataW.weightsEach Tryd.prog ts ds).all (· ≤ reachBytes) = true) (ht : ts[j]? = some 9) (hd : ds[j]? = some d) : s.size ≤ 140737488351232 := by
  obtain ⟨fuel, hf⟩ := h
  obtain ⟨s', e1, e2, _⟩ := DataW.trod_string Tryd.underlying9 hf
  simp [Value.cells] at e1
  subst e1
  simp only [Prod.mk.injEq] at e2
  obtain ⟨rfl, _⟩ := e2
  have := sized_string hsz ht hd
  simpa [reachBytes] using this
end Go.Proofs.YtppbijbgnhmdaaaDoor

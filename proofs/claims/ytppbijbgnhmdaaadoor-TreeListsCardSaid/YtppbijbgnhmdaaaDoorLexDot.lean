/- What strings.Cut makes of a text at a point. -/
import Derived.Test.YtppbijbgnhmdaaaDoorLexCut
import Derived.Test.YtppbijbgnhmdaaaDoorShelf
import Derived.Lib.IndexLaws
namespace Go.Proofs.YtppbijbgnhmdaaaDoor
open Go.RowKit

/-- Where the first point stands; the length, if there is none. -/
def dotAt (l : List UInt8) : Nat := (l.takeWhile (fun b => b != 46)).length
theorem dotAt_le (l : List UInt8) : dotAt l ≤ l.length := (List.takeWhile_sublist _).length_le
theorem dot_index (l : List UInt8) : Lib.indexByte l 46 = if dotAt l < l.length then ((dotAt l : Nat) : Int) else -1 := by
  induction l with
  | nil => rfl
  | cons b r ih =>
    unfold Lib.indexByte
    by_cases hb : b = 46
    · subst hb
      simp [dotAt]
    · have h1 : (b == 46) = false := by simpa using hb
      have h2 : dotAt (b :: r) = dotAt r + 1 := by
        unfold dotAt
        rw [List.takeWhile_cons_of_pos (by simpa using hb)]
        simp
      simp only [h1, Bool.false_eq_true, if_false]
      rw [ih, h2]
      by_cases h3 : dotAt r < r.length
      · have h4 : dotAt r + 1 < (b :: r).length := by simpa using h3
        rw [if_pos h3, if_pos h4]
        have : (((dotAt r : Nat) : Int) == -1) = false := by rw [beq_eq_false_iff_ne]; omega
        rw [this]
        simp
      · have h4 : ¬ dotAt r + 1 < (b :: r).length := by simpa using h3
        rw [if_neg h3, if_neg h4]
        rfl

/-- The three that Cut hands back. -/
def cutW (s : ByteArray) : Value := if dotAt (bl s) < s.size then .tuple #[.string (bstr ((bl s).take (dotAt (bl s)))), .string (bstr ((bl s).drop (dotAt (bl s) + 1))), .bool true] else .tuple #[.string s, .string ⟨#[]⟩, .bool false]

theorem extract_take (s : ByteArray) (n : Nat) : s.extract 0 n = bstr ((bl s).take n) := by
  apply ByteArray.ext
  apply Array.ext'
  rw [Lib.extract_data]
  simp [bstr, bl]

set_option maxHeartbeats 1000000 in
theorem cut_inner (s : ByteArray) (w : World) (hs : s.size ≤ 140737488351232) :
    Calls Tryd.prog 79 #[.string s, .string ⟨#[46]⟩] w fun e w' => e = .returned (cutW s) ∧ ∃ m, w' = w.drewN m := by
  have hi := Tryd.stringslite_Index_one s 46 w
  have hd : Lib.indexByte s.data.toList 46 = _ := dot_index (bl s)
  rw [hd, bl_length] at hi
  clear hd
  by_cases h : dotAt (bl s) < s.size
  · rw [if_pos h] at hi
    have HC : Hid (cutW s = .tuple #[.string (bstr ((bl s).take (dotAt (bl s)))), .string (bstr ((bl s).drop (dotAt (bl s) + 1))), .bool true]) := if_pos h
    have e1 := extract_take s (dotAt (bl s))
    have e2 := extract_drop s (dotAt (bl s) + 1)
    generalize bstr ((bl s).take (dotAt (bl s))) = A at *
    generalize bstr ((bl s).drop (dotAt (bl s) + 1)) = B at *
    generalize dotAt (bl s) = d at *
    go_enter Tryd.func79, Tryd.ntmps79
    go_wp2_with fail
    refine hi.mono ?_
    rintro e w' ⟨rfl, hw⟩
    subst w'
    clear hi
    go_wp2
    have s1 : IntKind.i64.wrap ((d : Int) + 1) = (d : Int) + 1 := IntWalk.i64_in _ (by omega)
    have s2 : 0 ≤ (d : Int) + 1 := by omega
    have s3 : ((d : Int) + 1).toNat = d + 1 := by omega
    have s4 : (d : Int) + 1 ≤ (s.size : Int) := by omega
    have s5 : (d : Int) ≤ (s.size : Int) := by omega
    go_quiet (fail)
    clear s1 s2 s3 s4 s5
    go_wp2
    go_ret3
    rw [HC.out]
    exact ⟨rfl, _, rfl⟩
  · rw [if_neg h] at hi
    have HC : Hid (cutW s = .tuple #[.string s, .string ⟨#[]⟩, .bool false]) := if_neg h
    go_enter Tryd.func79, Tryd.ntmps79
    go_wp2_with fail
    refine hi.mono ?_
    rintro e w' ⟨rfl, hw⟩
    subst w'
    clear hi
    go_wp2
    go_ret3
    rw [HC.out]
    exact ⟨rfl, 0, rfl⟩

set_option maxHeartbeats 1000000 in
theorem cut_calls (s : ByteArray) (w : World) (hs : s.size ≤ 140737488351232) :
    Calls Tryd.prog 69 #[.string s, .string ⟨#[46]⟩] w fun e w' => e = .returned (cutW s) ∧ ∃ m, w' = w.drewN m := by
  have hi := cut_inner s w hs
  have HV : ∃ a b f, cutW s = .tuple #[.string a, .string b, .bool f] := by unfold cutW; split <;> exact ⟨_, _, _, rfl⟩
  obtain ⟨a, b, f, hv⟩ := HV
  rw [hv] at hi ⊢
  clear hv
  go_enter Tryd.func69, Tryd.ntmps69
  go_wp2_with fail
  refine hi.mono ?_
  rintro e w' ⟨rfl, m, rfl⟩
  clear hi
  go_wp2
  go_ret3
  exact ⟨rfl, _, rfl⟩
end Go.Proofs.YtppbijbgnhmdaaaDoor

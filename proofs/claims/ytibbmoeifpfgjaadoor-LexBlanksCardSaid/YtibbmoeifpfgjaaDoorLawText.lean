/- text, of the law on package lex: a token's bytes. -/
import Derived.Test.YtibbmoeifpfgjaaDoorLawPlain
import Derived.Test.YtibbmoeifpfgjaaDoorLexBetween
namespace Go.Proofs.YtibbmoeifpfgjaaDoor
open Go.RowKit

theorem dbl_snoc (l : List UInt8) (c : UInt8) : dbl (l ++ [c]) = dbl l ++ (if bi c = 34 then [c, 34] else [c]) := by
  induction l with
  | nil => simp [dbl]
  | cons a r ih => simp [dbl, ih]
theorem dbl_step (x : List UInt8) (i : Nat) (h : i < x.length) : dbl (x.take (i + 1)) = dbl (x.take i) ++ (if bi x[i] = 34 then [x[i], 34] else [x[i]]) := by
  rw [List.take_succ_eq_append_getElem h, dbl_snoc]
theorem dbl_len (l : List UInt8) : (dbl l).length ≤ 2 * l.length := by
  induction l with
  | nil => simp [dbl]
  | cons a r ih =>
    simp only [dbl, List.length_append, List.length_cons]
    split <;> simp <;> omega
theorem bstr_append (a b : List UInt8) : bstr a ++ bstr b = bstr (a ++ b) := by
  apply ByteArray.ext
  simp [bstr]
theorem bar_text (x : List UInt8) : (⟨#[124]⟩ : ByteArray) ++ bstr x ++ ⟨#[124]⟩ = bstr (124 :: (x ++ [124])) := by
  apply ByteArray.ext
  simp [bstr]
theorem quote_text (x : List UInt8) : (⟨#[34]⟩ : ByteArray) ++ bstr x ++ ⟨#[34]⟩ = bstr (34 :: (x ++ [34])) := by
  apply ByteArray.ext
  simp [bstr]
theorem colon_text (x : List UInt8) : (⟨#[58]⟩ : ByteArray) ++ bstr x = bstr (58 :: x) := by
  apply ByteArray.ext
  simp [bstr]
theorem piece (x : List UInt8) (i : Nat) (h : i < x.length) : (bstr x).extract i (i + 1) = bstr [x[i]] := by
  apply ByteArray.ext
  simp only [ByteArray.data_extract, bstr]
  apply Array.toList_inj.1
  rw [Array.toList_extract]
  simp only [List.extract_eq_take_drop]
  have e : i + 1 - i = 1 := by omega
  rw [e, List.drop_eq_getElem_cons h]; rfl
theorem run_piece (x : List UInt8) (i : Nat) (h : i < x.length) (W : World) : (Instr.slice 9 (.string (bstr x)) (some (.int .i64 (i : Int))) (some (.int .i64 ((i : Int) + 1))) none).run Tryd.prog W = .ok (.string (bstr [x[i]])) W := by
  have hs : (bstr x).size = x.length := rfl
  rw [run_slice_string W 9 (bstr x) .i64 .i64 i ((i : Int) + 1) Tryd.underlying9 (by omega) (by omega) (by omega)]
  have e : ((i : Int) + 1).toNat = i + 1 := by omega
  rw [e, Int.toNat_natCast, piece x i h]

set_option maxHeartbeats 4000000 in
theorem text_calls (k : Int) (x : List UInt8) (a : Int) (w : World) (hx : x.length ≤ 1048576) :
    Calls Tryd.prog 14 #[.agg #[.int .u8 k, .string (bstr x), .int .i64 a]] w fun e w' => e = .returned (.string (bstr (retext k x))) ∧ Below w.heap.size w w' := by
  have hpl := fun W => rplain_calls (bstr x) W (by rw [bstr_size]; omega)
  rw [bl_bstr] at hpl
  have hB := Lib.hid (fun o => (Below.refl w.heap.size w).alloc (Nat.le_refl _) o)
  have hsz : (bstr x).size ≤ 1048576 := hx
  have z1 : (⟨#[124]⟩ : ByteArray).size = 1 := rfl
  have z2 : (⟨#[34]⟩ : ByteArray).size = 1 := rfl
  have z3 : (⟨#[58]⟩ : ByteArray).size = 1 := rfl
  by_cases h3 : k = 3
  · subst h3
    have hT : ∀ W, Below (w.alloc (Obj.cells #[Value.int .u8 3, .string (bstr x), .int .i64 a] 33)).heap.size (w.alloc (Obj.cells #[Value.int .u8 3, .string (bstr x), .int .i64 a] 33)) W → W.cell? ⟨w.heap.size, 1, none⟩ = some (.string (bstr x)) ∧ Below w.heap.size w W := fun W h =>
      ⟨(h.cell (by simp)).trans (World.cell?_alloc_mark w #[Value.int .u8 3, .string (bstr x), .int .i64 a] 33 (0, 0) 1), gb_none (gb_trans (gb_below (hB.out _) none) (gb_below h none))⟩
    cases hP : plainB x with
    | true =>
      rw [hP] at hpl
      have HN : Hid (retext 3 x = x) := by
        show _ = _
        unfold retext; rw [if_pos rfl, if_pos hP]
      go_enter Tryd.func14, Tryd.ntmps14
      go_wp2_with fail
      refine (hpl _).mono ?_
      rintro e w2 ⟨rfl, hb2⟩
      obtain ⟨c1, hb3⟩ := hT w2 hb2
      have HB3 := Lib.hid hb3
      clear hb2 hb3 hT
      go_wp2
      go_ret
      rw [HN.out]
      exact ⟨rfl, HB3.out⟩
    | false =>
      rw [hP] at hpl
      have HN : Hid (retext 3 x = 124 :: (x ++ [124])) := by
        show _ = _
        unfold retext; rw [if_pos rfl, if_neg (by rw [hP]; simp)]
      have hbt := bar_text x
      go_enter Tryd.func14, Tryd.ntmps14
      go_wp2_with fail
      refine (hpl _).mono ?_
      rintro e w2 ⟨rfl, hb2⟩
      obtain ⟨c1, hb3⟩ := hT w2 hb2
      have HB3 := Lib.hid hb3
      clear hb2 hb3 hT
      go_wp2
      go_ret
      rw [HN.out]
      exact ⟨rfl, HB3.out⟩
  · by_cases h5 : k = 5
    · subst h5
      go_enter Tryd.func14, Tryd.ntmps14
      go_wp2
      go_loop [3, 4] (fun v u => ∃ i : Nat, u = .int .i64 (i : Int) ∧ i ≤ x.length ∧ v = .string (bstr (dbl (x.take i)))) (fun _ u => x.length - (intOf u).toNat)
      case atStart => exact ⟨0, rfl, Nat.zero_le _, rfl⟩
      case round =>
        obtain ⟨i, rfl, hi, rfl⟩ := hrel
        have hdl := dbl_len (x.take i)
        have hdl2 : (bstr (dbl (x.take i))).size ≤ 2097152 := by
          rw [bstr_size]
          have : (x.take i).length ≤ x.length := by simp; omega
          omega
        by_cases hlt : i < x.length
        · have hb := bat_at (bstr x) i
          have hbx : bat (bstr x) i = x[i] := by unfold bat; rw [bl_bstr]; simp [hlt]
          have hpc := fun W => run_piece x i hlt W
          have hds := dbl_step x i hlt
          rw [hbx] at hb
          have hxl : (bstr x).size = x.length := rfl
          by_cases h34 : bi x[i] = 34
          · rw [if_pos h34] at hds
            have hap : bstr (dbl (x.take i)) ++ bstr [x[i]] ++ ⟨#[34]⟩ = bstr (dbl (x.take (i + 1))) := by
              rw [hds]
              apply ByteArray.ext
              simp [bstr]
            have f1 : (bi x[i] == 34) = true := by simpa using h34
            clear hds hdl h34 hbx
            generalize x[i] = c at *
            generalize dbl (x.take i) = y at *
            have z4 : (bstr [c]).size = 1 := rfl
            go_wp2
            go_round
            case rel => exact ⟨i + 1, by go_num, hlt, by rw [← hap]⟩
            case measure => simp [intOf]; omega
          · rw [if_neg h34] at hds
            have hap : bstr (dbl (x.take i)) ++ bstr [x[i]] = bstr (dbl (x.take (i + 1))) := by
              rw [hds]
              apply ByteArray.ext
              simp [bstr]
            have f1 : (bi x[i] == 34) = false := by simpa using h34
            clear hds hdl h34 hbx
            generalize x[i] = c at *
            generalize dbl (x.take i) = y at *
            have z4 : (bstr [c]).size = 1 := rfl
            go_wp2
            go_round
            case rel => exact ⟨i + 1, by go_num, hlt, by rw [← hap]⟩
            case measure => simp [intOf]; omega
        · obtain rfl : i = x.length := by omega
          rw [List.take_length] at *
          have hqt := quote_text (dbl x)
          have HN : Hid (retext 5 x = 34 :: (dbl x ++ [34])) := rfl
          go_wp2
          go_ret
          rw [HN.out]
          exact ⟨rfl, hB.out _⟩
    · by_cases h6 : k = 6
      · subst h6
        have hct := colon_text x
        have HN : Hid (retext 6 x = 58 :: x) := rfl
        go_enter Tryd.func14, Tryd.ntmps14
        go_wp2
        go_ret
        rw [HN.out]
        exact ⟨rfl, hB.out _⟩
      · have e3 : (k == 3) = false := by simpa using h3
        have e5 : (k == 5) = false := by simpa using h5
        have e6 : (k == 6) = false := by simpa using h6
        have HN : Hid (retext k x = x) := by
          show _ = _
          unfold retext; rw [if_neg h3, if_neg h5, if_neg h6]
        go_enter Tryd.func14, Tryd.ntmps14
        go_wp2
        go_ret
        rw [HN.out]
        exact ⟨rfl, hB.out _⟩
end Go.Proofs.YtibbmoeifpfgjaaDoor

/- tree.token: a token's text, and whether it is read as it. -/
import Derived.Test.YtppbijbgnhmdaaaDoorTokKit
import Derived.Test.YtppbijbgnhmdaaaDoorTks
import Derived.Test.YtppbijbgnhmdaaaDoorLexAll
import Derived.Test.YtppbijbgnhmdaaaDoorShelf
import Derived.Deep.DeepCutAuto
import Derived.Deep.CutBlock
namespace Go.Proofs.YtppbijbgnhmdaaaDoor
open Go.RowKit

theorem bstr_list' (x : List UInt8) : (bstr x).toList = x := by rw [ByteArray.toList_eq]; rfl
/-- The integer that the library keeps. -/
def Var0 (w : World) : Prop := ∃ m : Int, w.cell? ⟨0, 0, none⟩ = some (.int .i64 m)
theorem Var0.below {w W : World} (h : Var0 w) (hb : Below w.heap.size w W) : Var0 W := by
  obtain ⟨m, hm⟩ := h
  exact ⟨m, (hb.cell (World.block_lt_of_cell? w _ hm)).trans hm⟩
theorem replace_calls (x : List UInt8) (w : World) (hv : Var0 w) (hx : x.length ≤ 1048576) :
    Calls Tryd.prog 44 #[.string (bstr x), .string ⟨#[34]⟩, .string ⟨#[34, 34]⟩] w fun e w' => e = .returned (.string (bstr (dbl x))) ∧ Below w.heap.size w w' := by
  obtain ⟨m, hm⟩ := hv
  have hsz : (bstr x).size = x.length := rfl
  have hc : Lib.countB (bstr x) ⟨#[34]⟩ ≤ (bstr x).size := Lib.countB_le _ (by decide) _ _ (Nat.le_refl _)
  refine (Tryd.strings_ReplaceAll (bstr x) ⟨#[34]⟩ ⟨#[34, 34]⟩ m w (by omega) hm (by decide) (by have : (⟨#[34, 34]⟩ : ByteArray).size = 2 := rfl; rw [this]; omega)).mono ?_
  rintro e w' ⟨rfl, hb⟩
  refine ⟨?_, hb⟩
  show Ending.returned (.string ⟨(Lib.replaceAll x [34] [34, 34]).toArray⟩) = _
  rw [replaceAll_quote]; rfl

set_option maxHeartbeats 8000000 in
set_option maxRecDepth 100000 in
theorem ttoken_calls (k : Int) (x : List UInt8) (a : Int) (w : World) (hv : Var0 w) (hx : x.length ≤ 100000) :
    Calls Tryd.prog 27 #[.agg #[.int .u8 k, .string (bstr x), .int .i64 a]] w fun e w' => e = .returned (.tuple #[.string (bstr (retext k x)), .bool (okTok k x)]) ∧ Below w.heap.size w w' := by
  have hB : Hid (Below w.heap.size w (w.alloc (.cells #[.int .u8 k, .string (bstr x), .int .i64 a] 24))) := (Below.refl _ w).alloc (Nat.le_refl _) _
  have hbx := fun j => World.cell?_alloc_mark w #[.int .u8 k, .string (bstr x), .int .i64 a] 24 (0, 0) j
  have e0 : (w.alloc (.cells #[.int .u8 k, .string (bstr x), .int .i64 a] 24)).cell? ⟨w.heap.size, 0, none⟩ = some (.int .u8 k) := hbx 0
  have e1 : (w.alloc (.cells #[.int .u8 k, .string (bstr x), .int .i64 a] 24)).cell? ⟨w.heap.size, 1, none⟩ = some (.string (bstr x)) := hbx 1
  have HBX : Hid (∀ W, Below (w.alloc (.cells #[.int .u8 k, .string (bstr x), .int .i64 a] 24)).heap.size (w.alloc (.cells #[.int .u8 k, .string (bstr x), .int .i64 a] 24)) W → Below w.heap.size w W ∧ W.cell? ⟨w.heap.size, 0, none⟩ = some (.int .u8 k) ∧ W.cell? ⟨w.heap.size, 1, none⟩ = some (.string (bstr x))) := fun W hb =>
    ⟨bel_trans hB.out hb, (hb.cell (by simp)).trans e0, (hb.cell (by simp)).trans e1⟩
  have hsz : (bstr x).size ≤ 100000 := hx
  have hv1 := hv.below hB.out
  have HRL := Lib.hid (retext_len k x)
  clear hbx e0 e1
  go_enter Tryd.func27, Tryd.ntmps27
  go_upto_block 0 with fail
  go_cut [4] (fun s4 wx => s4 = .string (bstr (retext k x)) ∧ Below w.heap.size w wx ∧ wx.cell? ⟨w.heap.size, 0, none⟩ = some (.int .u8 k) ∧ wx.cell? ⟨w.heap.size, 1, none⟩ = some (.string (bstr x)))
  case first =>
    have hbe := Lib.hid (HBX.out _ (.refl _ _))
    by_cases h3 : k = 3
    · subst h3
      have hpl := fun W => plain_calls (bstr x) W (by omega)
      rw [bl_bstr] at hpl
      cases hP : plainB x with
      | true =>
        rw [hP] at hpl
        have HN : Hid (retext 3 x = x) := by
          show _ = _
          unfold retext; rw [if_pos rfl, if_pos hP]
        clear hP
        go_wp2_with fail
        refine (hpl _).mono ?_
        clear hpl
        rintro e w2 ⟨rfl, hb2⟩
        have HH := Lib.hid (HBX.out _ hb2)
        clear hb2
        go_wp2
        go_meet
        exact ⟨by rw [HN.out], HH.out⟩
      | false =>
        rw [hP] at hpl
        have HN : Hid (retext 3 x = 124 :: (x ++ [124])) := by
          show _ = _
          unfold retext; rw [if_pos rfl, if_neg (by rw [hP]; simp)]
        have hbt := bar_text x
        clear hP
        go_wp2_with fail
        refine (hpl _).mono ?_
        clear hpl
        rintro e w2 ⟨rfl, hb2⟩
        have HH := Lib.hid (HBX.out _ hb2)
        clear hb2
        go_wp2
        go_meet
        exact ⟨by rw [HN.out], HH.out⟩
    · have e3 : (k == 3) = false := by simpa using h3
      by_cases h5 : k = 5
      · subst h5
        have hrp := replace_calls x _ hv1 (by omega)
        have hqt := quote_text (dbl x)
        have hdl := dbl_len x
        have hds : (bstr (dbl x)).size ≤ 200000 := by rw [bstr_size]; omega
        have HN : Hid (retext 5 x = 34 :: (dbl x ++ [34])) := rfl
        clear h3 hdl
        go_wp2_with fail
        refine hrp.mono ?_
        clear hrp
        rintro e w2 ⟨rfl, hb2⟩
        have HH := Lib.hid (HBX.out _ hb2)
        clear hb2
        go_wp2
        go_meet
        exact ⟨by rw [HN.out], HH.out⟩
      · have e5 : (k == 5) = false := by simpa using h5
        by_cases h6 : k = 6
        · subst h6
          have hct := colon_text x
          have HN : Hid (retext 6 x = 58 :: x) := rfl
          clear h3 h5
          go_wp2
          go_meet
          exact ⟨by rw [HN.out], hbe.out⟩
        · have e6 : (k == 6) = false := by simpa using h6
          have HN : Hid (retext k x = x) := by
            show _ = _
            unfold retext; rw [if_neg h3, if_neg h5, if_neg h6]
          clear h3 h5 h6
          go_wp2
          go_meet
          exact ⟨by rw [HN.out], hbe.out⟩
  case rest =>
    obtain ⟨rfl, hb1, c0, c1⟩ := hcut
    have hcv := conv_text (bstr (retext k x))
    have hst := fun W fr => string_tokens (bstr (retext k x)) (by rw [bstr_size]; have := HRL.out; omega) _ rfl W fr
    have HB1 := Lib.hid hb1
    have HC : Hid (∀ W, Below wc.heap.size wc W → W.cell? ⟨w.heap.size, 0, none⟩ = some (.int .u8 k) ∧ W.cell? ⟨w.heap.size, 1, none⟩ = some (.string (bstr x))) := fun W hb => ⟨(hb.cell (World.block_lt_of_cell? wc _ c0)).trans c0, (hb.cell (World.block_lt_of_cell? wc _ c1)).trans c1⟩
    clear hb1
    have hok : Hid (okTok k x = okTok k x) := rfl
    have hok2 : Hid (∀ R : List Tok × Nat × Int, lexB (retext k x) = R → okTok k x = ((R.2.2 == 0) && ((R.1.length == 1) && (((R.1.getD 0 ⟨0, [], 0⟩).kind == k) && (((R.1.getD 0 ⟨0, [], 0⟩).text == x) && decide (3 ≤ k)))))) := fun R h => by subst h; rfl
    have hbl : bl (bstr (retext k x)) = retext k x := rfl
    rw [hbl] at hst
    have hOK := Lib.hid (hok2.out _ rfl)
    clear hok hok2 hbl
    go_wp2_with fail
    refine (hst _ _).mono ?_
    clear hst
    generalize lexB (retext k x) = R at *
    obtain ⟨T, q, er⟩ := R
    rintro e w4 ⟨⟨A4, c4, rfl, hT4⟩, hb4⟩
    simp only at hT4 ⊢
    obtain ⟨a0, a1⟩ := HC.out _ hb4
    have HB4 := Lib.hid hb4
    clear hb4 c0 c1 HC
    by_cases her : er = 0
    · subst her
      by_cases hlen : T.length = 1
      · obtain ⟨t, rfl⟩ : ∃ t, T = [t] := by
          match T, hlen with
          | [t], _ => exact ⟨t, rfl⟩
        obtain ⟨g', o', rfl, b0, b1, b2⟩ := hT4.out 0 (by simp)
        simp only [List.getElem_cons_zero, Nat.zero_mul, Nat.add_zero] at b0 b1 b2
        have hlen1 : ([t] : List Tok).length = 1 := rfl
        rw [hlen1]
        have hOK2 : Hid (okTok k x = ((t.kind == k) && ((t.text == x) && decide (3 ≤ k)))) := by show _ = _; rw [hOK.out]; simp
        clear hOK hT4 hlen hlen1
        generalize t.kind = tk at *
        generalize t.text = tx at *
        by_cases hkk : tk = k
        · subst hkk
          have f1 : (tk == tk) = true := by simp
          by_cases htx : tx = x
          · subst htx
            have f2 : ((bstr tx).toList == (bstr tx).toList) = true := by simp
            have hOK3 : Hid (okTok tk tx = decide (3 ≤ tk)) := by show _ = _; rw [hOK2.out]; simp
            clear hOK2
            by_cases h3 : (3 : Int) ≤ tk
            · have HE : Hid (okTok tk tx = true) := by show _ = _; rw [hOK3.out]; simpa using h3
              have dge : decide ((3 : Int) ≤ tk) = true := by simpa using h3
              clear hOK3
              go_wp2
              go_quiet (fail)
              go_wp2
              go_ret2
              rw [HE.out]
              exact ⟨rfl, bel_trans HB1.out (pw_drewN HB4.out _)⟩
            · have HE : Hid (okTok tk tx = false) := by show _ = _; rw [hOK3.out]; simpa using h3
              have dge : decide ((3 : Int) ≤ tk) = false := by simpa using h3
              clear hOK3 h3
              go_wp2
              go_quiet (fail)
              go_wp2
              go_ret2
              rw [HE.out]
              exact ⟨rfl, bel_trans HB1.out (pw_drewN HB4.out _)⟩
          · have f2 : ((bstr tx).toList == (bstr x).toList) = false := by rw [bstr_list', bstr_list']; simpa using htx
            have hOK3 : Hid (okTok tk x = false) := by
              show _ = _
              have : (tx == x) = false := by simpa using htx
              rw [hOK2.out, this]; simp
            clear hOK2 htx
            go_wp2
            go_quiet (fail)
            go_wp2
            go_ret2
            rw [hOK3.out]
            exact ⟨rfl, bel_trans HB1.out (pw_drewN HB4.out _)⟩
        · have f1 : (tk == k) = false := by simpa using hkk
          have hOK3 : Hid (okTok k x = false) := by show _ = _; rw [hOK2.out, f1]; rfl
          clear hOK2 hkk
          go_wp2
          go_quiet (fail)
          go_wp2
          go_ret2
          rw [hOK3.out]
          exact ⟨rfl, bel_trans HB1.out (pw_drewN HB4.out _)⟩
      · have hOK3 : Hid (okTok k x = false) := by
          show _ = _
          have : (T.length == 1) = false := by simpa using hlen
          rw [hOK.out, this]; simp
        have f1 : ((T.length : Int) == 1) = false := by simp; omega
        clear hOK hT4 hlen
        go_wp2
        go_quiet (fail)
        go_wp2
        go_ret2
        rw [hOK3.out]
        exact ⟨rfl, bel_trans HB1.out (pw_drewN HB4.out _)⟩
    · have hOK3 : Hid (okTok k x = false) := by
        show _ = _
        have : (er == 0) = false := by simpa using her
        rw [hOK.out, this]; rfl
      have f1 : (er == 0) = false := by simpa using her
      clear hOK hT4 her
      go_wp2
      go_quiet (fail)
      go_wp2
      go_ret2
      rw [hOK3.out]
      exact ⟨rfl, bel_trans HB1.out (pw_drewN HB4.out _)⟩
end Go.Proofs.YtppbijbgnhmdaaaDoor

/- The reference's token. -/
import Derived.Test.YtppbijbgnhmdaaaDoorTreeTok
import Derived.Test.YtppbijbgnhmdaaaDoorRefPlain
namespace Go.Proofs.YtppbijbgnhmdaaaDoor
open Go.RowKit

theorem tok_kinds (c : UInt8) (r : List UInt8) {k : Int} {x : List UInt8} {n : Nat} (h : tok c r = .ok k x n) : 1 ≤ k ∧ k ≤ 7 := by
  unfold tok at h
  split at h
  · injection h; omega
  · split at h
    · injection h; omega
    · split at h
      · unfold tokQuote at h
        split at h
        · injection h with h1; split at h1 <;> omega
        · cases h
      · split at h
        · unfold tokMark at h
          split at h
          · cases h
          · split at h
            · split at h
              · injection h; omega
              · cases h
            · injection h; omega
        · unfold tokWord at h
          split at h
          · cases h
          · split at h
            · injection h; omega
            · split at h
              · injection h; omega
              · split at h
                · injection h; omega
                · cases h
theorem toks_kinds : ∀ (f p : Nat) (l : List UInt8), ∀ t ∈ (toks f p l).1, 1 ≤ t.kind ∧ t.kind ≤ 7
  | 0, _, _, t, h => by simp [toks] at h
  | f + 1, _, [], t, h => by simp [toks] at h
  | f + 1, p, c :: r, t, h => by
    unfold toks at h
    split at h
    · exact toks_kinds f _ _ t h
    · split at h
      · exact toks_kinds f _ _ t h
      · split at h
        · simp at h
        · rename_i k x n hk
          rcases List.mem_cons.1 h with rfl | h
          · exact tok_kinds c r hk
          · exact toks_kinds f _ _ t h
theorem lexB_kinds (l : List UInt8) : ∀ t ∈ (lexB l).1, 1 ≤ t.kind ∧ t.kind ≤ 7 := by
  unfold lexB
  split
  · intro t h; cases h
  · exact toks_kinds _ _ _
theorem okTok_kinds {k : Int} {x : List UInt8} (h : okTok k x = true) : 3 ≤ k ∧ k ≤ 7 := by
  unfold okTok at h
  simp only [Bool.and_eq_true, beq_iff_eq, decide_eq_true_eq] at h
  obtain ⟨_, h1, h2, _, h3⟩ := h
  refine ⟨h3, ?_⟩
  rw [← h2]
  refine (lexB_kinds (retext k x) _ ?_).2
  rw [List.getD, List.getElem?_eq_getElem (by omega)]
  exact List.getElem_mem _

set_option maxHeartbeats 8000000 in
set_option maxRecDepth 100000 in
theorem rtoken_calls (k : Int) (x : List UInt8) (a : Int) (w : World) (hx : x.length ≤ 100000) :
    Calls Tryd.prog 46 #[.agg #[.int .u8 k, .string (bstr x), .int .i64 a]] w fun e w' => (∃ s : List UInt8, e = .returned (.tuple #[.string (bstr s), .bool (okTok k x)]) ∧ s.length ≤ 200002 ∧ (okTok k x = true → s = retext k x)) ∧ Below w.heap.size w w' := by
  have hB : Hid (Below w.heap.size w (w.alloc (.cells #[.int .u8 k, .string (bstr x), .int .i64 a] 24))) := (Below.refl _ w).alloc (Nat.le_refl _) _
  have hbx := fun j => World.cell?_alloc_mark w #[.int .u8 k, .string (bstr x), .int .i64 a] 24 (0, 0) j
  have e0 : (w.alloc (.cells #[.int .u8 k, .string (bstr x), .int .i64 a] 24)).cell? ⟨w.heap.size, 0, none⟩ = some (.int .u8 k) := hbx 0
  have e1 : (w.alloc (.cells #[.int .u8 k, .string (bstr x), .int .i64 a] 24)).cell? ⟨w.heap.size, 1, none⟩ = some (.string (bstr x)) := hbx 1
  have HBX : Hid (∀ W, Below (w.alloc (.cells #[.int .u8 k, .string (bstr x), .int .i64 a] 24)).heap.size (w.alloc (.cells #[.int .u8 k, .string (bstr x), .int .i64 a] 24)) W → Below w.heap.size w W ∧ W.cell? ⟨w.heap.size, 0, none⟩ = some (.int .u8 k) ∧ W.cell? ⟨w.heap.size, 1, none⟩ = some (.string (bstr x))) := fun W hb =>
    ⟨bel_trans hB.out hb, (hb.cell (by simp)).trans e0, (hb.cell (by simp)).trans e1⟩
  have hsz : (bstr x).size ≤ 100000 := hx
  have HRL := Lib.hid (retext_len k x)
  have hbe := Lib.hid (HBX.out _ (.refl _ _))
  clear hbx e0 e1
  by_cases hkk : k = 3 ∨ k = 4 ∨ k = 5 ∨ k = 6 ∨ k = 7
  · go_enter Tryd.func46, Tryd.ntmps46
    go_upto_block 0 with fail
    go_cut [4] (fun s4 wx => s4 = .string (bstr (retext k x)) ∧ Below w.heap.size w wx ∧ wx.cell? ⟨w.heap.size, 0, none⟩ = some (.int .u8 k) ∧ wx.cell? ⟨w.heap.size, 1, none⟩ = some (.string (bstr x)))
    case first =>
      rcases hkk with rfl | hkk
      · have hpl := fun W => rplain_calls (bstr x) W (by omega)
        rw [bl_bstr] at hpl
        cases hP : plainB x with
        | true =>
          rw [hP] at hpl
          have HN : Hid (retext 3 x = x) := by
            show _ = _
            unfold retext; rw [if_pos rfl, if_pos hP]
          clear hP
          go_wp2_with fail
          refine (hpl _).mono ?_
          clear hpl
          rintro e w2 ⟨rfl, hb2⟩
          have HH := Lib.hid (HBX.out _ hb2)
          clear hb2
          go_wp2
          go_meet
          exact ⟨by rw [HN.out], HH.out⟩
        | false =>
          rw [hP] at hpl
          have HN : Hid (retext 3 x = 124 :: (x ++ [124])) := by
            show _ = _
            unfold retext; rw [if_pos rfl, if_neg (by rw [hP]; simp)]
          have hbt := bar_text x
          clear hP
          go_wp2_with fail
          refine (hpl _).mono ?_
          clear hpl
          rintro e w2 ⟨rfl, hb2⟩
          have HH := Lib.hid (HBX.out _ hb2)
          clear hb2
          go_wp2
          go_meet
          exact ⟨by rw [HN.out], HH.out⟩
      · rcases hkk with rfl | hkk
        · have HN : Hid (retext 4 x = x) := rfl
          go_wp2
          go_meet
          exact ⟨by rw [HN.out], hbe.out⟩
        · rcases hkk with rfl | hkk
          · go_wp2
            go_loop [5, 6] (fun v u => ∃ i : Nat, u = .int .i64 (i : Int) ∧ i ≤ x.length ∧ v = .string (bstr (34 :: dbl (x.take i)))) (fun _ u => x.length - (intOf u).toNat)
            case atStart => exact ⟨0, rfl, Nat.zero_le _, rfl⟩
            case round =>
              obtain ⟨i, rfl, hi, rfl⟩ := hrel
              have hdl := dbl_len (x.take i)
              have hdl2 : (bstr (34 :: dbl (x.take i))).size ≤ 2097153 := by
                rw [bstr_size]
                have : (x.take i).length ≤ x.length := by simp; omega
                simp only [List.length_cons]; omega
              by_cases hlt : i < x.length
              · have hb := bat_at (bstr x) i
                have hbx : bat (bstr x) i = x[i] := by unfold bat; rw [bl_bstr]; simp [hlt]
                have hpc := fun W => run_piece x i hlt W
                have hds := dbl_step x i hlt
                rw [hbx] at hb
                have hxl : (bstr x).size = x.length := rfl
                have z2 : (⟨#[34]⟩ : ByteArray).size = 1 := rfl
                by_cases h34 : bi x[i] = 34
                · rw [if_pos h34] at hds
                  have hap : bstr (34 :: dbl (x.take i)) ++ bstr [x[i]] ++ ⟨#[34]⟩ = bstr (34 :: dbl (x.take (i + 1))) := by
                    rw [hds]
                    apply ByteArray.ext
                    simp [bstr]
                  have f1 : (bi x[i] == 34) = true := by simpa using h34
                  clear hds hdl h34 hbx
                  generalize x[i] = c at *
                  generalize bstr (34 :: dbl (x.take i)) = y at *
                  have z4 : (bstr [c]).size = 1 := rfl
                  go_wp2
                  go_round
                  case rel => exact ⟨i + 1, by go_num, hlt, by rw [← hap]⟩
                  case measure => simp [intOf]; omega
                · rw [if_neg h34] at hds
                  have hap : bstr (34 :: dbl (x.take i)) ++ bstr [x[i]] = bstr (34 :: dbl (x.take (i + 1))) := by
                    rw [hds]
                    apply ByteArray.ext
                    simp [bstr]
                  have f1 : (bi x[i] == 34) = false := by simpa using h34
                  clear hds hdl h34 hbx
                  generalize x[i] = c at *
                  generalize bstr (34 :: dbl (x.take i)) = y at *
                  have z4 : (bstr [c]).size = 1 := rfl
                  go_wp2
                  go_round
                  case rel => exact ⟨i + 1, by go_num, hlt, by rw [← hap]⟩
                  case measure => simp [intOf]; omega
              · obtain rfl : i = x.length := by omega
                rw [List.take_length] at *
                have hqt : bstr (34 :: dbl x) ++ ⟨#[34]⟩ = bstr (34 :: (dbl x ++ [34])) := by
                  apply ByteArray.ext
                  simp [bstr]
                have HN : Hid (retext 5 x = 34 :: (dbl x ++ [34])) := rfl
                have z2 : (⟨#[34]⟩ : ByteArray).size = 1 := rfl
                go_wp2
                go_meet
                exact ⟨by rw [HN.out], hbe.out⟩
          · rcases hkk with rfl | rfl
            · have hct := colon_text x
              have HN : Hid (retext 6 x = 58 :: x) := rfl
              go_wp2
              go_meet
              exact ⟨by rw [HN.out], hbe.out⟩
            · have HN : Hid (retext 7 x = x) := rfl
              go_wp2
              go_meet
              exact ⟨by rw [HN.out], hbe.out⟩
    case rest =>
      obtain ⟨rfl, hb1, c0, c1⟩ := hcut
      have HRL2 : Hid ((retext k x).length ≤ 200002) := Nat.le_trans HRL.out (by omega)
      have hk3 : Hid (3 ≤ k) := by show _ ≤ _; omega
      clear hkk
      have hcv := conv_text (bstr (retext k x))
      have hst := fun W fr => rstring_tokens (bstr (retext k x)) (by rw [bstr_size]; have := HRL.out; omega) _ rfl W fr
      have HB1 := Lib.hid hb1
      have HC : Hid (∀ W, Below wc.heap.size wc W → W.cell? ⟨w.heap.size, 0, none⟩ = some (.int .u8 k) ∧ W.cell? ⟨w.heap.size, 1, none⟩ = some (.string (bstr x))) := fun W hb => ⟨(hb.cell (World.block_lt_of_cell? wc _ c0)).trans c0, (hb.cell (World.block_lt_of_cell? wc _ c1)).trans c1⟩
      clear hb1
      have hok : Hid (okTok k x = okTok k x) := rfl
      have hok2 : Hid (∀ R : List Tok × Nat × Int, lexB (retext k x) = R → okTok k x = ((R.2.2 == 0) && ((R.1.length == 1) && (((R.1.getD 0 ⟨0, [], 0⟩).kind == k) && (((R.1.getD 0 ⟨0, [], 0⟩).text == x) && decide (3 ≤ k)))))) := fun R h => by subst h; rfl
      have hbl : bl (bstr (retext k x)) = retext k x := rfl
      rw [hbl] at hst
      have hOK := Lib.hid (hok2.out _ rfl)
      clear hok hok2 hbl
      go_wp2_with fail
      refine (hst _ _).mono ?_
      clear hst
      generalize lexB (retext k x) = R at *
      obtain ⟨T, q, er⟩ := R
      rintro e w4 ⟨⟨A4, c4, rfl, hT4⟩, hb4⟩
      simp only at hT4 ⊢
      obtain ⟨a0, a1⟩ := HC.out _ hb4
      have HB4 := Lib.hid hb4
      clear hb4 c0 c1 HC
      by_cases her : er = 0
      · subst her
        by_cases hlen : T.length = 1
        · obtain ⟨t, rfl⟩ : ∃ t, T = [t] := by
            match T, hlen with
            | [t], _ => exact ⟨t, rfl⟩
          obtain ⟨g', o', rfl, b0, b1, b2⟩ := hT4.out 0 (by simp)
          simp only [List.getElem_cons_zero, Nat.zero_mul, Nat.add_zero] at b0 b1 b2
          have hlen1 : ([t] : List Tok).length = 1 := rfl
          rw [hlen1]
          have hOK2 : Hid (okTok k x = ((t.kind == k) && ((t.text == x) && decide (3 ≤ k)))) := by show _ = _; rw [hOK.out]; simp
          clear hOK hT4 hlen hlen1
          generalize t.kind = tk at *
          generalize t.text = tx at *
          by_cases hkk : tk = k
          · subst hkk
            have f1 : (tk == tk) = true := by simp
            by_cases htx : tx = x
            · subst htx
              have f2 : ((bstr tx).toList == (bstr tx).toList) = true := by simp
              have hOK3 : Hid (okTok tk tx = decide (3 ≤ tk)) := by show _ = _; rw [hOK2.out]; simp
              clear hOK2
              by_cases h3 : (3 : Int) ≤ tk
              · have HE : Hid (okTok tk tx = true) := by show _ = _; rw [hOK3.out]; simpa using h3
                have dge : decide ((3 : Int) ≤ tk) = true := by simpa using h3
                clear hOK3
                go_wp2
                go_quiet (fail)
                go_wp2
                go_ret2
                rw [HE.out]
                exact ⟨⟨_, rfl, HRL2.out, fun _ => rfl⟩, bel_trans HB1.out (pw_drewN HB4.out _)⟩
              · exact absurd hk3.out h3
            · have f2 : ((bstr tx).toList == (bstr x).toList) = false := by rw [bstr_list', bstr_list']; simpa using htx
              have hOK3 : Hid (okTok tk x = false) := by
                show _ = _
                have : (tx == x) = false := by simpa using htx
                rw [hOK2.out, this]; simp
              clear hOK2 htx
              go_wp2
              go_quiet (fail)
              go_wp2
              go_ret2
              rw [hOK3.out]
              exact ⟨⟨_, rfl, HRL2.out, fun _ => rfl⟩, bel_trans HB1.out (pw_drewN HB4.out _)⟩
          · have f1 : (tk == k) = false := by simpa using hkk
            have hOK3 : Hid (okTok k x = false) := by show _ = _; rw [hOK2.out, f1]; rfl
            clear hOK2 hkk
            go_wp2
            go_quiet (fail)
            go_wp2
            go_ret2
            rw [hOK3.out]
            exact ⟨⟨_, rfl, HRL2.out, fun _ => rfl⟩, bel_trans HB1.out (pw_drewN HB4.out _)⟩
        · have hOK3 : Hid (okTok k x = false) := by
            show _ = _
            have : (T.length == 1) = false := by simpa using hlen
            rw [hOK.out, this]; simp
          have f1 : ((T.length : Int) == 1) = false := by simp; omega
          clear hOK hT4 hlen
          go_wp2
          go_quiet (fail)
          go_wp2
          go_ret2
          rw [hOK3.out]
          exact ⟨⟨_, rfl, HRL2.out, fun _ => rfl⟩, bel_trans HB1.out (pw_drewN HB4.out _)⟩
      · have hOK3 : Hid (okTok k x = false) := by
          show _ = _
          have : (er == 0) = false := by simpa using her
          rw [hOK.out, this]; rfl
        have f1 : (er == 0) = false := by simpa using her
        clear hOK hT4 her
        go_wp2
        go_quiet (fail)
        go_wp2
        go_ret2
        rw [hOK3.out]
        exact ⟨⟨_, rfl, HRL2.out, fun _ => rfl⟩, bel_trans HB1.out (pw_drewN HB4.out _)⟩
  · have e3 : (k == 3) = false := by simp; omega
    have e4 : (k == 4) = false := by simp; omega
    have e5 : (k == 5) = false := by simp; omega
    have e6 : (k == 6) = false := by simp; omega
    have e7 : (k == 7) = false := by simp; omega
    have hok : Hid (okTok k x = false) := by
      show _ = _
      cases h : okTok k x with
      | false => rfl
      | true => have := okTok_kinds h; omega
    clear hkk
    go_enter Tryd.func46, Tryd.ntmps46
    go_wp2
    go_ret2
    rw [hok.out]
    exact ⟨⟨[], rfl, by simp, fun h => by cases h⟩, hbe.out.1⟩
end Go.Proofs.YtppbijbgnhmdaaaDoor

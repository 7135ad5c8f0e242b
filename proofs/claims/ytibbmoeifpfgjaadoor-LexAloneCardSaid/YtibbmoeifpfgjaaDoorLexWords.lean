/- What the reader takes for a token: words. -/
import Derived.Test.YtibbmoeifpfgjaaDoorLexMark
namespace Go.Proofs.YtibbmoeifpfgjaaDoor
open Go.RowKit

theorem cutW_cases (s : ByteArray) : ∃ A B f, cutW s = .tuple #[.string A, .string B, .bool f] ∧ A.size ≤ s.size ∧ B.size ≤ s.size ∧ f = decide (dotAt (bl s) < s.size) ∧ (f = true → bl A = (bl s).take (dotAt (bl s)) ∧ bl B = (bl s).drop (dotAt (bl s) + 1)) := by
  unfold cutW
  by_cases h : dotAt (bl s) < s.size
  · refine ⟨_, _, _, if_pos h, ?_, ?_, (decide_eq_true h).symm, fun _ => ⟨rfl, rfl⟩⟩
    · rw [bstr_size, List.length_take, bl_length]; omega
    · rw [bstr_size, List.length_drop, bl_length]; omega
  · exact ⟨_, _, _, if_neg h, Nat.le_refl _, Nat.zero_le _, (decide_eq_false h).symm, fun h => by cases h⟩

/-- What word does, put by. -/
def WordGives (w : World) (g : Nat) (A : Option Addr) (n cap p : Nat) (t : List UInt8) : Prop := ∀ W, w.grownBy W (some g) → Rdr W g A n cap p →
  Calls Tryd.prog 24 #[.pointer (some ⟨g, 0, none⟩)] W fun e w' => e = .returned (.string (bstr t)) ∧ Rdr w' g A n cap (p + t.length) ∧ W.grownBy w' (some g)

set_option maxHeartbeats 8000000 in
set_option maxRecDepth 100000 in
theorem token_word (g : Nat) (A : Option Addr) (cap p : Nat) (bs : List UInt8) (w : World) (hr : Rdr w g A bs.length cap p) (hb : Bys w A bs) (hg : ∀ ad, A = some ad → ad.block ≠ g ∧ ad.block < w.heap.size) (hp : p < bs.length) (hl : bs.length ≤ 1048576) (hcap : bs.length ≤ cap) (hc : ¬ bi bs[p] = 40 ∧ ¬ bi bs[p] = 41 ∧ ¬ bi bs[p] = 124 ∧ ¬ bi bs[p] = 34 ∧ ¬ bi bs[p] = 58 ∧ ¬ bi bs[p] = 35) :
    Calls Tryd.prog 16 #[.pointer (some ⟨g, 0, none⟩)] w fun e w' => TPost w g A cap p bs (tok bs[p] (bs.drop (p + 1))) e w' := by
  have h1 := hr.at_
  have h2 := hr.b
  have hgw := hr.lt
  obtain ⟨ad, rfl, hcell⟩ := tok_cell hb p hp
  have HT0 := tok_word (bs.drop (p + 1)) hc
  rw [← List.drop_eq_getElem_cons hp] at HT0
  have HT := Lib.hid HT0
  clear HT0
  have HW : WordGives w g (some ad) bs.length cap p ((bs.drop p).takeWhile isLetter) := fun W h1 h2 => word_calls g (some ad) cap p bs W h2 (hb.kept h1 hg) (fun a e => ⟨(hg a e).1, Nat.lt_of_lt_of_le (hg a e).2 h1.size⟩) (Nat.le_of_lt hp) hl hcap
  have hlen : Hid (p + ((bs.drop p).takeWhile isLetter).length ≤ bs.length) := by
    have h1 := (List.takeWhile_sublist isLetter (l := bs.drop p)).length_le
    have h2 : (bs.drop p).length = bs.length - p := List.length_drop ..
    show _ ≤ _
    omega
  obtain ⟨c1, c2, c3, c4, c5, c6⟩ := hc
  have b1 : (bi bs[p] == 40) = false := by simpa using c1
  have b2 : (bi bs[p] == 41) = false := by simpa using c2
  have b3 : (bi bs[p] == 124) = false := by simpa using c3
  have b4 : (bi bs[p] == 34) = false := by simpa using c4
  have b5 : (bi bs[p] == 58) = false := by simpa using c5
  have b6 : (bi bs[p] == 35) = false := by simpa using c6
  clear c1 c2 c3 c4 c5 c6
  generalize bs[p] = c at hcell HT b1 b2 b3 b4 b5 b6 ⊢
  generalize (bs.drop p).takeWhile isLetter = t at HT HW hlen
  have htl : (bstr t).size ≤ 1048576 := by rw [bstr_size]; have := hlen.out; omega
  have htl2 : (bstr t).size ≤ 140737488351232 := by omega
  go_enter Tryd.func16, Tryd.ntmps16
  go_wp2
  go_quiet (fail)
  have hs := tstart w g (some ad) cap p bs hr nq
  generalize (w.alloc (.cells #[.int .u8 0, .string ⟨#[]⟩, .int .i64 ((p : Nat) : Int)] 33)).drewN nq = W at hs ⊢
  generalize w.heap.size = H at hs ⊢
  have hgH := hs.gH
  have k0 := hs.tb.c0
  have k1 := hs.tb.c1
  have k2 := hs.tb.c2
  have f0 := hs.tb.fr 0
  have f1 := hs.tb.fr 1
  have f2 := hs.tb.fr 2
  have r1 := hs.rd.at_
  have r5 := hs.rd.free 257
  clear h1 h2 hcell hgw
  go_wp2_with fail
  refine (HW _ hs.gr hs.rd).mono ?_
  rintro e w2 ⟨rfl, hrd, hgr⟩
  have hm2 := hs.call hgr hrd
  clear k0 k1 k2 f0 f1 f2 r1 r5 hgr hrd HW b1 b2 b3 b4 b5 b6
  have k0 := hm2.tb.c0
  have k1 := hm2.tb.c1
  have k2 := hm2.tb.c2
  have f0 := hm2.tb.fr 0
  have f1 := hm2.tb.fr 1
  have f2 := hm2.tb.fr 2
  have hm3 := hm2.set1 (bstr t)
  go_wp2_with fail
  refine (cut_calls (bstr t) _ htl2).mono ?_
  obtain ⟨A0, B0, f, hv, hA, hB, hf, hAB⟩ := cutW_cases (bstr t)
  rw [hv]
  have HF := Lib.hid hf
  have HAB := Lib.hid hAB
  have hA2 : A0.size ≤ 140737488351232 := by omega
  have hB2 : B0.size ≤ 140737488351232 := by omega
  clear hv hf hAB hA hB
  rintro e w3 ⟨rfl, m, rfl⟩
  cases ht : t.isEmpty with
  | true =>
    have he : (bstr t).toList.isEmpty = true := (bstr_empty t).trans ht
    have HE := Lib.hid (List.isEmpty_iff.1 ht)
    clear ht
    go_wp2
    refine ((((hm3.drewN m).set0 _).set1 _).set2).bad hlen.out 30 (by decide) rfl rfl rfl ?_
    rw [HT.out]; unfold tokWord; rw [if_pos HE.out]
  | false =>
    have he : (bstr t).toList.isEmpty = false := (bstr_empty t).trans ht
    have HE : Hid (¬ t = []) := fun h => by rw [h] at ht; cases ht
    have h0 : Hid (0 < t.length) := by
      cases t with
      | nil => cases ht
      | cons x r => exact Nat.succ_pos _
    clear ht
    go_wp2_with fail
    refine (plain_calls (bstr t) _ htl2).mono ?_
    rw [bl_bstr]
    rintro e w4 ⟨rfl, hbel⟩
    have hm4 := (hm3.drewN m).below hbel
    clear k0 k1 k2 f0 f1 f2 hbel
    have k0 := hm4.tb.c0
    have k1 := hm4.tb.c1
    have k2 := hm4.tb.c2
    have f0 := hm4.tb.fr 0
    have f1 := hm4.tb.fr 1
    have f2 := hm4.tb.fr 2
    cases hpl : plainB t with
    | true =>
      have HP := Lib.hid hpl
      clear hpl
      go_wp2
      refine ((((hm4.set0 _).set0 _).set1 _).set2).fin hlen.out h0.out rfl rfl rfl ?_
      rw [HT.out]; unfold tokWord; rw [if_neg HE.out, if_pos HP.out]
    | false =>
      have HP := Lib.hid hpl
      clear hpl
      go_wp2_with fail
      refine (numeral_calls g (some ad) bs.length cap _ (bstr t) _ hm4.rd htl2).mono ?_
      rw [bl_bstr]
      rintro e w5 ⟨rfl, m2, rfl⟩
      cases hnum : numeralB t with
      | true =>
        have HNU := Lib.hid hnum
        clear hnum
        go_wp2
        refine (((((hm4.drewN m2).set0 _).set0 _).set1 _).set2).fin hlen.out h0.out rfl rfl rfl ?_
        rw [HT.out]; unfold tokWord; rw [if_neg HE.out, if_neg (by rw [HP.out]; simp), if_pos HNU.out]
      | false =>
        have HNU := Lib.hid hnum
        clear hnum
        have HX : Hid (tokWord t = if dotAt t < t.length ∧ numeralB (t.take (dotAt t)) = true ∧ (!(t.drop (dotAt t + 1)).isEmpty && (t.drop (dotAt t + 1)).all (inCl 2)) = true then .ok 7 t t.length else .err 5) := by
          show _ = _
          unfold tokWord
          rw [if_neg HE.out, if_neg (by rw [HP.out]; simp), if_neg (by rw [HNU.out]; simp)]
        clear HP HNU
        cases f with
        | false =>
          go_wp2
          refine ((((hm4.drewN m2).set0 _).set1 _).set2).bad hlen.out 5 (by decide) rfl rfl rfl ?_
          rw [HT.out, HX.out, if_neg]
          intro h
          have := HF.out
          rw [decide_eq_true (show dotAt (bl (bstr t)) < (bstr t).size from h.1)] at this
          cases this
        | true =>
          obtain ⟨eA, eB⟩ := HAB.out rfl
          have HA := Lib.hid eA
          have HB := Lib.hid eB
          clear eA eB HAB
          have HD := Lib.hid (show dotAt t < t.length from of_decide_eq_true HF.out.symm)
          go_wp2_with fail
          refine (numeral_calls g (some ad) bs.length cap _ A0 _ (hm4.drewN m2).rd hA2).mono ?_
          rw [HA.out]
          rintro e w6 ⟨rfl, m3, rfl⟩
          cases hn2 : numeralB ((bl (bstr t)).take (dotAt (bl (bstr t)))) with
          | false =>
            have HN2 := Lib.hid hn2
            clear hn2
            go_wp2
            refine ((((hm4.drewN _).set0 _).set1 _).set2).bad hlen.out 5 (by decide) rfl rfl rfl ?_
            rw [HT.out, HX.out, if_neg]
            intro h
            have h1 := HN2.out
            rw [bl_bstr] at h1
            rw [h1] at h
            cases h.2.1
          | true =>
            have HN2 := Lib.hid hn2
            clear hn2
            go_wp2_with fail
            refine (all_calls g (some ad) bs.length cap _ B0 2 _ (hm4.drewN _).rd hB2).mono ?_
            rw [HB.out]
            rintro e w7 ⟨rfl, m4, rfl⟩
            cases hn3 : (!((bl (bstr t)).drop (dotAt (bl (bstr t)) + 1)).isEmpty && ((bl (bstr t)).drop (dotAt (bl (bstr t)) + 1)).all (inCl 2)) with
            | false =>
              have HN3 := Lib.hid hn3
              clear hn3
              go_wp2
              refine ((((hm4.drewN _).set0 _).set1 _).set2).bad hlen.out 5 (by decide) rfl rfl rfl ?_
              rw [HT.out, HX.out, if_neg]
              intro h
              have h1 := HN3.out
              rw [bl_bstr] at h1
              rw [h1] at h
              cases h.2.2
            | true =>
              have HN3 := Lib.hid hn3
              clear hn3
              go_wp2
              refine (((((hm4.drewN _).set0 _).set0 _).set1 _).set2).fin hlen.out h0.out rfl rfl rfl ?_
              rw [HT.out, HX.out, if_pos ⟨HD.out, HN2.out, HN3.out⟩]

/-- A token: whatever its first byte. -/
theorem token_calls (g : Nat) (A : Option Addr) (cap p : Nat) (bs : List UInt8) (w : World) (hr : Rdr w g A bs.length cap p) (hb : Bys w A bs) (hg : ∀ ad, A = some ad → ad.block ≠ g ∧ ad.block < w.heap.size) (hp : p < bs.length) (hl : bs.length ≤ 1048576) (hcap : bs.length ≤ cap) :
    Calls Tryd.prog 16 #[.pointer (some ⟨g, 0, none⟩)] w fun e w' => TPost w g A cap p bs (tok bs[p] (bs.drop (p + 1))) e w' := by
  by_cases h1 : bi bs[p] = 40 ∨ bi bs[p] = 41
  · exact token_paren g A cap p bs w hr hb hg hp hl h1
  · by_cases h2 : bi bs[p] = 124 ∨ bi bs[p] = 34
    · exact token_quote g A cap p bs w hr hb hg hp hl h2
    · by_cases h3 : bi bs[p] = 58 ∨ bi bs[p] = 35
      · exact token_mark g A cap p bs w hr hb hg hp hl hcap h3
      · exact token_word g A cap p bs w hr hb hg hp hl hcap (by omega)
end Go.Proofs.YtibbmoeifpfgjaaDoor

/- The law on lists of trees: it answers true for every two rows of trees. -/
import Derived.Test.YtppbijbgnhmdaaaDoorBackFacts
import Derived.Test.YtppbijbgnhmdaaaDoorLawTexts
namespace Go.Proofs.YtppbijbgnhmdaaaDoor
open Go.RowKit Forest

theorem textS_len (l : Bool) (k : Int) (x : List UInt8) (F : Forest) (d : Bool) : (textS l k x F d).1.length ≤ 1048576 := by
  unfold textS
  cases wrT l k x F with
  | none => simp
  | some s =>
    cases d with
    | true => simp
    | false =>
      by_cases h : 1048576 < s.length
      · simp [h]
      · simp [h]; omega
theorem depT_le (l : Bool) (F : Forest) : depT l 0 F ≤ 201 := by
  cases l with
  | false => simp [depT]
  | true => have := (dep_list F).1; omega
/-- What stands all through. -/
structure LGood (w : World) (b1 b2 : Nat) (F G : Forest) (A B : Option Addr) (c d : Nat) (W : World) : Prop where
  v : Var0 W
  f : Lies W F A 0
  g : Lies W G B 0
  bt : TBox b1 ⟨true, 1, [40], 0, F⟩ A c W
  bu : TBox b2 ⟨true, 1, [40], 0, G⟩ B d W
  bel : Below w.heap.size w W
theorem LGood.below {w : World} {b1 b2 : Nat} {F G : Forest} {A B : Option Addr} {c d : Nat} {W W2 : World} (h : LGood w b1 b2 F G A B c d W) (hb : Below W.heap.size W W2) : LGood w b1 b2 F G A B c d W2 :=
  ⟨h.v.below hb, h.f.below hb, h.g.below hb, h.bt.below hb, h.bu.below hb, bel_trans h.bel hb⟩
/-- Between two trees: the likeness so far. -/
structure SInv (F G F' G' : Forest) (same : Bool) : Prop where
  yes : same = true → F'.len = G'.len ∧ eqF F' G' = eqF F G ∧ F.len = G.len
  no : same = false → eqF F G = false
theorem SInv.start (F G : Forest) : SInv F G F G (decide (F.len = G.len)) :=
  ⟨fun h => ⟨by simpa using h, rfl, by simpa using h⟩, fun h => by
    cases he : eqF F G with
    | false => rfl
    | true => exact absurd (eqF_len F G he) (by simpa using h)⟩
theorem SInv.stop {F G G' : Forest} {same : Bool} (h : SInv F G .nil G' same) : same = eqF F G := by
  cases same with
  | false => exact (h.no rfl).symm
  | true =>
    obtain ⟨h1, h2, -⟩ := h.yes rfl
    cases G' with
    | nil => rw [← h2]; rfl
    | cons _ _ _ _ _ _ => simp [Forest.len] at h1
theorem SInv.step {F G : Forest} {l : Bool} {k : Int} {x : List UInt8} {a : Int} {kids rest : Forest} {l' : Bool} {k' : Int} {x' : List UInt8} {a' : Int} {kids' rest' : Forest} (h : SInv F G (.cons l k x a kids rest) (.cons l' k' x' a' kids' rest') true) :
    SInv F G rest rest' (eqT l k x kids l' k' x' kids') := by
  obtain ⟨h1, h2, h4⟩ := h.yes rfl
  have h3 : (eqT l k x kids l' k' x' kids' && eqF rest rest') = eqF F G := h2
  refine ⟨fun q => ⟨by simpa [Forest.len] using h1, by rw [q, Bool.true_and] at h3; exact h3, h4⟩, fun q => by rw [q, Bool.false_and] at h3; exact h3.symm⟩

theorem lgood_one {w w1 : World} (h : Below w.heap.size w w1) (F G : Forest) (A B : Option Addr) (c d : Nat) (hH : ∀ W, Below w.heap.size w W → Var0 W ∧ Lies W F A 0 ∧ Lies W G B 0) :
    ∀ W, Below ((w1.alloc (.cells #[.bool true, .int .u8 1, .string (bstr [40]), .int .i64 0, .slice A F.len c] 27)).alloc (.cells #[.bool true, .int .u8 1, .string (bstr [40]), .int .i64 0, .slice B G.len d] 27)).heap.size ((w1.alloc (.cells #[.bool true, .int .u8 1, .string (bstr [40]), .int .i64 0, .slice A F.len c] 27)).alloc (.cells #[.bool true, .int .u8 1, .string (bstr [40]), .int .i64 0, .slice B G.len d] 27)) W →
      LGood w w1.heap.size (w1.heap.size + 1) F G A B c d W := fun W hW => by
  have h1 : Below w1.heap.size w1 (w1.alloc (.cells #[.bool true, .int .u8 1, .string (bstr [40]), .int .i64 0, .slice A F.len c] 27)) := (Below.refl _ w1).alloc (Nat.le_refl _) _
  have x1 := TBox.new w1 ⟨true, 1, [40], 0, F⟩ A c
  have x2 := TBox.new (w1.alloc (.cells #[.bool true, .int .u8 1, .string (bstr [40]), .int .i64 0, .slice A F.len c] 27)) ⟨true, 1, [40], 0, G⟩ B d
  have h2 : Below (w1.alloc (.cells #[.bool true, .int .u8 1, .string (bstr [40]), .int .i64 0, .slice A F.len c] 27)).heap.size (w1.alloc (.cells #[.bool true, .int .u8 1, .string (bstr [40]), .int .i64 0, .slice A F.len c] 27)) ((w1.alloc (.cells #[.bool true, .int .u8 1, .string (bstr [40]), .int .i64 0, .slice A F.len c] 27)).alloc (.cells #[.bool true, .int .u8 1, .string (bstr [40]), .int .i64 0, .slice B G.len d] 27)) := (Below.refl _ _).alloc (Nat.le_refl _) _
  have hw := bel_trans h (bel_trans h1 (bel_trans h2 hW))
  obtain ⟨a1, a2, a3⟩ := hH W hw
  rw [World.size_alloc] at x2
  exact ⟨a1, a2, a3, TBox.below (TBox.below x1 h2) hW, TBox.below x2 hW, hw⟩
theorem LGood.swap {w : World} {b1 b2 : Nat} {F G : Forest} {A B : Option Addr} {c d : Nat} {W : World} (h : LGood w b1 b2 G F B A d c W) : LGood w b2 b1 F G A B c d W := ⟨h.v, h.g, h.f, h.bu, h.bt, h.bel⟩

set_option maxHeartbeats 2000000 in
set_option maxRecDepth 100000 in
theorem law_lists (F G : Forest) (A B : Option Addr) (c d : Nat) (w : World) (hv : Var0 w) (hF : Lies w F A 0) (hG : Lies w G B 0) (hc : F.len ≤ c) (hcm : c ≤ maxLen) (hd : G.len ≤ d) (hdm : d ≤ maxLen) (fF : Fits F) (fG : Fits G) :
    Calls Tryd.prog 4 #[.slice A F.len c, .slice B G.len d] w fun e w' => e = .returned (.bool true) ∧ Below w.heap.size w w' := by
  by_cases h20 : 20 < F.len ∨ 20 < G.len
  · have hdd : decide ((20 : Int) < (F.len : Int)) = true ∨ (decide ((20 : Int) < (F.len : Int)) = false ∧ decide ((20 : Int) < (G.len : Int)) = true) := by
      rcases Nat.lt_or_ge 20 F.len with h | h
      · exact .inl (by simp; omega)
      · exact .inr ⟨by simp; omega, by simp; omega⟩
    have KN := Lib.hid (known_calls w hv)
    clear h20
    rcases hdd with d1 | ⟨d1, d2⟩
    all_goals
      go_enter Tryd.func4, Tryd.ntmps4
      go_wp2_with (go_at_call 9; refine KN.out.mono ?_; rintro e w1 ⟨rfl, hb1⟩)
      go_ret
      exact ⟨rfl, hb1⟩
  · have d1 : decide ((20 : Int) < (F.len : Int)) = false := by simp; omega
    have d2 : decide ((20 : Int) < (G.len : Int)) = false := by simp; omega
    have hf20 : F.len ≤ 20 := by omega
    have hg20 : G.len ≤ 20 := by omega
    have HF0 : Hid (∀ W, Below w.heap.size w W → Var0 W ∧ Lies W F A 0 ∧ Lies W G B 0) := fun W h => ⟨hv.below h, hF.below h, hG.below h⟩
    clear h20 hv hF hG
    go_enter Tryd.func4, Tryd.ntmps4
    go_upto_region 4 with fail
    obtain ⟨w1, hw1⟩ : ∃ w1, w1 = w.alloc (.cells #[.int .u8 1, .string ⟨#[40]⟩, .int .i64 0] 24) := ⟨_, rfl⟩
    have o0 : w1.cell? ⟨w.heap.size, 0, none⟩ = some (.int .u8 1) := by rw [hw1]; exact World.cell?_alloc_mark w _ _ (0, 0) 0
    have o1 : w1.cell? ⟨w.heap.size, 1, none⟩ = some (.string ⟨#[40]⟩) := by rw [hw1]; exact World.cell?_alloc_mark w _ _ (0, 0) 1
    have o2 : w1.cell? ⟨w.heap.size, 2, none⟩ = some (.int .i64 0) := by rw [hw1]; exact World.cell?_alloc_mark w _ _ (0, 0) 2
    have hb1 : Below w.heap.size w w1 := by rw [hw1]; exact (Below.refl _ w).alloc (Nat.le_refl _) _
    rw [← hw1]
    have HB1 := Lib.hid hb1
    clear hw1 hb1
    go_cut [6, 7] (fun s6 s7 wx => ∃ b1 b2 : Nat, s6 = .pointer (some ⟨b1, 0, none⟩) ∧ s7 = .pointer (some ⟨b2, 0, none⟩) ∧ Hid (LGood w b1 b2 F G A B c d wx))
    case first =>
      go_region_held3 (fun wx => wx.cell? ⟨w.heap.size, 0, none⟩ = some (.int .u8 1) ∧ wx.cell? ⟨w.heap.size, 1, none⟩ = some (.string ⟨#[40]⟩) ∧ wx.cell? ⟨w.heap.size, 2, none⟩ = some (.int .i64 0)) (first | go_keep) (first | fail)
      · go_wp2_with fail
        go_meet
        exact ⟨_, _, rfl, rfl, lgood_one HB1.out F G A B c d HF0.out _ (Below.refl _ _).drew⟩
      · go_wp2_with fail
        go_meet
        exact ⟨_, _, rfl, rfl, (lgood_one HB1.out G F B A d c (fun W h => ⟨(HF0.out W h).1, (HF0.out W h).2.2, (HF0.out W h).2.1⟩) _ (Below.refl _ _).drew).swap⟩
    case rest =>
      obtain ⟨b1, b2, rfl, rfl, hG⟩ := hcut
      have a0 := hG.out.bt 0
      have a1 := hG.out.bt 1
      have a2 := hG.out.bt 2
      have a3 := hG.out.bt 3
      have a4 := hG.out.bt 4
      have GT := Lib.hid (great_calls F true 1 [40] 0 A c wc hG.out.f hc hcm (by decide) fF)
      clear o0 o1 o2 HB1 HF0
      go_wp2_with fail
      refine GT.out.mono ?_
      clear a0 a1 a2 a3 a4 GT
      cases hgt : greatT F [40] with
      | true =>
        rintro e w2 ⟨rfl, hb2⟩
        have hG2 := hG.out.below hb2
        go_wp2_with (go_at_call 9; refine (known_calls _ hG2.v).mono ?_; rintro e w3 ⟨rfl, hb3⟩; have hb03 := bel_trans hG2.bel hb3)
        go_ret
        exact ⟨rfl, hb03⟩
      | false =>
        rintro e w2 ⟨rfl, hb2⟩
        have hG2 := hG.out.below hb2
        have a0 := hG2.bu 0
        have a1 := hG2.bu 1
        have a2 := hG2.bu 2
        have a3 := hG2.bu 3
        have a4 := hG2.bu 4
        have GU := Lib.hid (great_calls G true 1 [40] 0 B d w2 hG2.g hd hdm (by decide) fG)
        clear hG hb2
        go_wp2_with fail
        refine GU.out.mono ?_
        clear a0 a1 a2 a3 a4 GU
        cases hgu : greatT G [40] with
        | true =>
          rintro e w3 ⟨rfl, hb3⟩
          have hG3 := hG2.below hb3
          go_wp2_with (go_at_call 9; refine (known_calls _ hG3.v).mono ?_; rintro e w4 ⟨rfl, hb4⟩; have hb04 := bel_trans hG3.bel hb4)
          go_ret
          exact ⟨rfl, hb04⟩
        | false =>
          rintro e w3 ⟨rfl, hb3⟩
          have hG3 := hG2.below hb3
          have htF := great_tsz hgt
          have htG := great_tsz hgu
          clear hgt hgu hG2 hb3 fF fG
          have hsm0 : ((F.len : Int) == (G.len : Int)) = decide (F.len = G.len) := by
            by_cases h : F.len = G.len
            · simp [h]
            · simp [h]; omega
          have HS0 : Hid (SInv F G F G ((F.len : Int) == (G.len : Int))) := by show SInv _ _ _ _ _; rw [hsm0]; exact SInv.start F G
          clear hsm0
          go_wp2_with fail
          go_loopw [8, 9, 10, 11, 12] (fun s8 s9 s10 s11 s12 wr => ∃ (i deep : Nat) (want : List UInt8) (ok same : Bool) (F' G' : Forest), s8 = .string (bstr want) ∧ s9 = .bool ok ∧ s10 = .int .i64 (deep : Int) ∧ s11 = .bool same ∧ s12 = .int .i64 (i : Int) ∧ i + F'.len = F.len ∧ want.length ≤ 1 + i * 1048577 ∧ deep ≤ 201 ∧ Hid (LInv F F' i ok want deep ∧ SInv F G F' G' same ∧ Lies wr F' A i ∧ (same = true → Lies wr G' B i) ∧ tsz F' ≤ 4999 ∧ LGood w b1 b2 F G A B c d wr)) (fun _ _ _ _ v _ => F.len - (intOf v).toNat)
          case atStart => exact ⟨0, 0, [40], true, _, F, G, rfl, rfl, rfl, rfl, rfl, Nat.zero_add _, by decide, by decide, ⟨LInv.start F, HS0.out, hG3.f, fun _ => hG3.g, by simp at htF; omega, hG3⟩⟩
          case round =>
            obtain ⟨i, deep, want, ok, same, F', G', rfl, rfl, rfl, rfl, rfl, hlF, hwl, hdl, hHH⟩ := hrel
            obtain ⟨hLI, hSI, hLF, hLG, htz, hGr⟩ := hHH.out
            clear hHH hG3
            have hws : (bstr want).size ≤ 1 + i * 1048577 := hwl
            cases F' with
            | nil =>
              obtain ⟨fT, hwgT⟩ := fine_tsz htF
              obtain ⟨-, q2, q3, q4⟩ := hLI.stop (fun s hs => by have := wrT_len hs; omega)
              have hsame := hSI.stop
              obtain rfl : i = F.len := by simpa [Forest.len] using hlF
              have dd1 : decide ((F.len : Int) < (F.len : Int)) = false := by simp
              have tt := ttext_calls true 1 [40] 0 A F c wr hGr.v fT.hx hc hcm fT.fit fT.hgt hGr.f (fT.parts _ _ _ _ _)
              obtain ⟨S, hSS⟩ : ∃ S, S = textS true 1 [40] F (decide (200 < depT true 0 F)) := ⟨_, rfl⟩
              rw [← hSS] at tt q3 q4
              obtain ⟨s, es⟩ := S
              dsimp only at tt q4
              have hsm : ∀ W, Below wr.heap.size wr W → Calls Tryd.prog 15 #[.agg #[.bool true, .int .u8 1, .string (bstr [40]), .int .i64 0, .slice A F.len c], .agg #[.bool true, .int .u8 1, .string (bstr [40]), .int .i64 0, .slice B G.len d]] W fun e w' => e = .returned (.bool same) ∧ Below W.heap.size W w' := fun W hW => by
                have h := tsame_calls F G true true 1 1 [40] [40] 0 0 A B c d W (hGr.f.below hW) (hGr.g.below hW) hc hcm hd hdm
                have e : eqT true 1 [40] F true 1 [40] G = same := by rw [hsame]; simp [eqT]
                rw [e] at h; exact h
              have hdp : ∀ W, Below wr.heap.size wr W → deep < 200 → Calls Tryd.prog 13 #[.agg #[.bool true, .int .u8 1, .string (bstr [40]), .int .i64 0, .slice A F.len c]] W fun e w' => e = .returned (.int .i64 ((deep : Int) + 1)) ∧ Below W.heap.size W w' := fun W hW hlt => by
                have h := tdepth_calls true 1 [40] 0 A F c W fT.hx hc hcm fT.fit fT.hgt (hGr.f.below hW)
                rw [q2 hlt] at h
                simpa using h
              have HGR : Hid (∀ W, Below wr.heap.size wr W → LGood w b1 b2 F G A B c d W) := fun W h => hGr.below h
              have HSM := Lib.hid hsm
              have HDP := Lib.hid hdp
              have hcs : Hid ((ok = true ∧ deep < 200 ∧ s = want ++ [41] ∧ es = 0) ∨ ((ok = false ∨ ¬ deep < 200) ∧ (es == 0) = false)) := by
                show _ ∨ _
                by_cases hh : ok = true ∧ deep < 200
                · have h3 := q3 hh.1 hh.2
                  cases h3
                  exact .inl ⟨hh.1, hh.2, rfl, rfl⟩
                · refine .inr ⟨?_, by simpa using q4 hh⟩
                  cases ok with
                  | false => exact .inl rfl
                  | true => exact .inr (fun h => hh ⟨rfl, h⟩)
              obtain ⟨b0, b1', b2', b3', b4'⟩ : wr.cell? ⟨b1, 0, none⟩ = some (.bool true) ∧ wr.cell? ⟨b1, 1, none⟩ = some (.int .u8 1) ∧ wr.cell? ⟨b1, 2, none⟩ = some (.string (bstr [40])) ∧ wr.cell? ⟨b1, 3, none⟩ = some (.int .i64 0) ∧ wr.cell? ⟨b1, 4, none⟩ = some (.slice A F.len c) := ⟨hGr.bt 0, hGr.bt 1, hGr.bt 2, hGr.bt 3, hGr.bt 4⟩
              have HC : Hid (∀ W, Below wr.heap.size wr W → W.cell? ⟨b1, 0, none⟩ = some (.bool true) ∧ W.cell? ⟨b1, 1, none⟩ = some (.int .u8 1) ∧ W.cell? ⟨b1, 2, none⟩ = some (.string (bstr [40])) ∧ W.cell? ⟨b1, 3, none⟩ = some (.int .i64 0) ∧ W.cell? ⟨b1, 4, none⟩ = some (.slice A F.len c) ∧ W.cell? ⟨b2, 0, none⟩ = some (.bool true) ∧ W.cell? ⟨b2, 1, none⟩ = some (.int .u8 1) ∧ W.cell? ⟨b2, 2, none⟩ = some (.string (bstr [40])) ∧ W.cell? ⟨b2, 3, none⟩ = some (.int .i64 0) ∧ W.cell? ⟨b2, 4, none⟩ = some (.slice B G.len d)) := fun W h => by
                have hq := hGr.below h
                exact ⟨hq.bt 0, hq.bt 1, hq.bt 2, hq.bt 3, hq.bt 4, hq.bu 0, hq.bu 1, hq.bu 2, hq.bu 3, hq.bu 4⟩
              have TT := Lib.hid tt
              clear hSI hLI hLF hLG htz hGr hlF hwl tt q2 q3 q4 hSS hsm hdp hsame fT hwgT htF htG
              rcases hcs.out with ⟨rfl, hlt, rfl, rfl⟩ | ⟨hno, he0⟩
              · have dd2 : decide ((deep : Int) < 200) = true := by simp; omega
                have dd3 : decide (deep < 200) = true := by simpa using hlt
                have hst : Hid (bstr (want ++ [41]) = bstr want ++ ⟨#[41]⟩) := (bstr_append want [41]).symm
                have HLT := Lib.hid hlt
                clear hcs hlt
                rw [hst.out] at TT
                go_wp2_with (first | (go_at_call 11; refine TT.out.mono ?_; rintro e wz ⟨rfl, hbz⟩; (obtain ⟨n0, n1, n2, n3, n4, n5, n6, n7, n8, n9⟩ := HC.out _ hbz)) | (go_at_call 15; refine (HSM.out _ (by assumption)).mono ?_; rintro e wz ⟨rfl, hbz⟩; (have hbq := bel_trans (a := wr) (by assumption) hbz); (obtain ⟨n0, n1, n2, n3, n4, n5, n6, n7, n8, n9⟩ := HC.out _ hbq)) | (go_at_call 13; refine (HDP.out _ (by assumption) HLT.out).mono ?_; rintro e wz ⟨rfl, hbz⟩; (have hbq := bel_trans (a := wr) (by assumption) hbz)) | (go_at_call 9; refine (known_calls _ (HGR.out _ (by assumption)).v).mono ?_; rintro e wy ⟨rfl, hby⟩; (have hbf := bel_trans (HGR.out _ (by assumption)).bel hby)))
                go_ret
                exact ⟨rfl, hbf⟩
              · have hlt2 : (decide ((deep : Int) < 200) = true ∧ decide (deep < 200) = true ∧ Hid (deep < 200)) ∨ (decide ((deep : Int) < 200) = false ∧ decide (deep < 200) = false) := by
                  rcases Nat.lt_or_ge deep 200 with h | h
                  · exact .inl ⟨by simp; omega, by simpa using h, h⟩
                  · exact .inr ⟨by simp; omega, by simp; omega⟩
                have hcase : (ok = false ∧ decide ((deep : Int) < 200) = true ∧ decide (deep < 200) = true ∧ Hid (deep < 200)) ∨ (ok = false ∧ decide ((deep : Int) < 200) = false ∧ decide (deep < 200) = false ∧ True) ∨ (ok = true ∧ decide ((deep : Int) < 200) = false ∧ decide (deep < 200) = false ∧ True) := by
                  rcases hlt2 with ⟨h1, h2, h3⟩ | ⟨h1, h2⟩
                  · rcases hno with rfl | h
                    · exact .inl ⟨rfl, h1, h2, h3⟩
                    · exact absurd h3 h
                  · cases ok with
                    | false => exact .inr (.inl ⟨rfl, h1, h2, trivial⟩)
                    | true => exact .inr (.inr ⟨rfl, h1, h2, trivial⟩)
                have he1 : (es != 0) = true := by simpa using he0
                clear hcs hlt2 hno he0
                rcases hcase with ⟨rfl, dd2, dd3, HLT⟩ | ⟨rfl, dd2, dd3, HLT⟩ | ⟨rfl, dd2, dd3, HLT⟩
                all_goals
                  go_wp2_with (first | (go_at_call 11; refine TT.out.mono ?_; rintro e wz ⟨rfl, hbz⟩; (obtain ⟨n0, n1, n2, n3, n4, n5, n6, n7, n8, n9⟩ := HC.out _ hbz)) | (go_at_call 15; refine (HSM.out _ (by assumption)).mono ?_; rintro e wz ⟨rfl, hbz⟩; (have hbq := bel_trans (a := wr) (by assumption) hbz); (obtain ⟨n0, n1, n2, n3, n4, n5, n6, n7, n8, n9⟩ := HC.out _ hbq)) | (go_at_call 13; refine (HDP.out _ (by assumption) HLT.out).mono ?_; rintro e wz ⟨rfl, hbz⟩; (have hbq := bel_trans (a := wr) (by assumption) hbz)) | (go_at_call 9; refine (known_calls _ (HGR.out _ (by assumption)).v).mono ?_; rintro e wy ⟨rfl, hby⟩; (have hbf := bel_trans (HGR.out _ (by assumption)).bel hby)))
                  go_ret
                  exact ⟨rfl, hbf⟩
            | cons l1 k1 x1 a1 kids rest =>
              have hlt : i < F.len := by simp [Forest.len] at hlF; omega
              have dd1 : decide ((i : Int) < (F.len : Int)) = true := by simp; omega
              have hrl : i + 1 + rest.len = F.len := by simp [Forest.len] at hlF; omega
              obtain ⟨⟨g, o, rfl, h0, h1, h2, h3, A', c', h4, h5, h6, h7⟩, hLr⟩ := hLF
              have htk : 1 + x1.length / 8 + tsz kids ≤ 5000 ∧ tsz rest ≤ 4999 := by unfold tsz at htz; omega
              obtain ⟨hFine, hwg⟩ := fine_tsz htk.1
              obtain ⟨S, hSS⟩ : ∃ S, S = textS l1 k1 x1 kids (decide (200 < depT l1 0 kids)) := ⟨_, rfl⟩
              have hLI2 := hLI.step (fun s hs => by have := wrT_len hs; omega)
              have hsl := textS_len l1 k1 x1 kids (decide (200 < depT l1 0 kids))
              have tt := ttext_calls l1 k1 x1 a1 A' kids c' wr hGr.v hFine.hx h5 h6 hFine.fit hFine.hgt h7 (hFine.parts _ _ _ _ _)
              rw [← hSS] at hLI2 hsl tt
              obtain ⟨s, es⟩ := S
              dsimp only at hLI2 hsl tt
              have hbd : decide (es = 0) = (es == 0) := by by_cases h : es = 0 <;> simp [h]
              rw [hbd] at hLI2
              have hdp := depT_le l1 kids
              obtain ⟨D, hD⟩ : ∃ D, D = depT l1 0 kids := ⟨_, rfl⟩
              rw [← hD] at hLI2 hdp
              have HD := Lib.hid hD
              have hmx : max deep D ≤ 201 := by omega
              have hwl2 : ((if i = 0 then want else want ++ [32]) ++ s).length ≤ 1 + (i + 1) * 1048577 := by
                rw [List.length_append]
                by_cases hz : i = 0
                · rw [if_pos hz]; omega
                · rw [if_neg hz, List.length_append, List.length_singleton]; omega
              have hss : (bstr s).size ≤ 1048576 := hsl
              have hi20 : i ≤ 20 := by omega
              have TT := Lib.hid tt
              have HL : Hid (∀ W, Below wr.heap.size wr W → Lies W rest (some ⟨g, o, none⟩) (i + 1) ∧ Lies W kids A' 0 ∧ W.cell? ⟨g, o + i * 5, none⟩ = some (.bool l1) ∧ W.cell? ⟨g, o + i * 5 + 1, none⟩ = some (.int .u8 k1) ∧ W.cell? ⟨g, o + i * 5 + 2, none⟩ = some (.string (bstr x1)) ∧ W.cell? ⟨g, o + i * 5 + 3, none⟩ = some (.int .i64 a1) ∧ W.cell? ⟨g, o + i * 5 + 4, none⟩ = some (.slice A' kids.len c')) := fun W h =>
                ⟨hLr.below h, h7.below h, (h.cell (World.block_lt_of_cell? wr _ h0)).trans h0, (h.cell (World.block_lt_of_cell? wr _ h1)).trans h1, (h.cell (World.block_lt_of_cell? wr _ h2)).trans h2, (h.cell (World.block_lt_of_cell? wr _ h3)).trans h3, (h.cell (World.block_lt_of_cell? wr _ h4)).trans h4⟩
              have HGR : Hid (∀ W, Below wr.heap.size wr W → LGood w b1 b2 F G (some ⟨g, o, none⟩) B c d W) := fun W h => hGr.below h
              have hhi : (decide (0 < i) = false ∧ Hid (i = 0)) ∨ (decide (0 < i) = true ∧ Hid (i ≠ 0)) := by
                rcases Nat.eq_zero_or_pos i with h | h
                · exact .inl ⟨by simp; omega, h⟩
                · exact .inr ⟨by simp; omega, Nat.ne_of_gt h⟩
              have hhd : (decide (deep < D) = false ∧ Hid (max deep D = deep)) ∨ (decide (deep < D) = true ∧ Hid (max deep D = D)) := by
                rcases Nat.lt_or_ge deep D with h | h
                · exact .inr ⟨by simp; omega, Nat.max_eq_right (Nat.le_of_lt h)⟩
                · exact .inl ⟨by simp; omega, Nat.max_eq_left h⟩
              have htz2 := htk.2
              have HLI := Lib.hid hLI2
              have HTZ := Lib.hid htz2
              have HMX := Lib.hid hmx
              have HWL := Lib.hid hwl2
              have hst0 : Hid (i = 0 → bstr want ++ bstr s = bstr ((if i = 0 then want else want ++ [32]) ++ s)) := fun h => by rw [if_pos h, bstr_append]
              have hst1 : Hid (i ≠ 0 → bstr want ++ ⟨#[32]⟩ ++ bstr s = bstr ((if i = 0 then want else want ++ [32]) ++ s)) := fun h => by
                rw [if_neg h, ← bstr_append, ← bstr_append]; rfl
              clear hLI hLI2 hSS tt hbd hD hwl hwl2 hmx htk htz htz2 hlF hLr h7 hwg hsl hGr hdp
              cases same with
              | false =>
                have HSI : Hid (SInv F G rest .nil false) := ⟨fun h => by simp at h, fun _ => hSI.no rfl⟩
                clear hSI hLG
                cases ok <;> rcases hhi with ⟨hi0, hi1⟩ | ⟨hi0, hi1⟩ <;> rcases hhd with ⟨hd0, hd1⟩ | ⟨hd0, hd1⟩
                all_goals
                  go_wp2_with (first | (go_at_call 11; refine TT.out.mono ?_; rintro e wz ⟨rfl, hbz⟩; (obtain ⟨-, -, n0, n1, n2, n3, n4⟩ := HL.out _ hbz)) | (go_at_call 13; refine (tdepth_calls l1 k1 x1 a1 A' kids c' _ hFine.hx h5 h6 hFine.fit hFine.hgt (HL.out _ ?hbx).2.1).mono ?_; (case hbx => assumption); rw [← HD.out]; rintro e wz ⟨rfl, hbz⟩; (have hbq := bel_trans (a := wr) (by assumption) hbz); (obtain ⟨-, -, n0, n1, n2, n3, n4⟩ := HL.out _ hbq)))
                  go_quiet (fail)
                  go_wp2
                  go_round
                  case rel => exact ⟨i + 1, max deep D, (if i = 0 then want else want ++ [32]) ++ s, _, false, rest, .nil, (by first | rw [hst0.out hi1.out] | rw [hst1.out hi1.out]), rfl, by rw [hd1.out], rfl, by go_num, hrl, HWL.out, HMX.out, ⟨HLI.out, HSI.out, (HL.out _ (pw_drewN (by assumption) _)).1, (fun h => by simp at h), HTZ.out, HGR.out _ (pw_drewN (by assumption) _)⟩⟩
                  case measure => simp [intOf]; omega
              | true =>
                cases G' with
                | nil => exact absurd (hSI.yes rfl).1 (by simp [Forest.len])
                | cons l2 k2 x2 a2 kids' rest' =>
                  have hlG : i < G.len := by have := (hSI.yes rfl).2.2; omega
                  have hlG9 : decide ((i : Int) < (G.len : Int)) = true := by simp; omega
                  obtain ⟨⟨g', o', rfl, y0, y1, y2, y3, B', d', y4, m5, m6, y7⟩, hMr⟩ := hLG rfl
                  have HM : Hid (∀ W, Below wr.heap.size wr W → Lies W rest' (some ⟨g', o', none⟩) (i + 1) ∧ Lies W kids' B' 0 ∧ W.cell? ⟨g', o' + i * 5, none⟩ = some (.bool l2) ∧ W.cell? ⟨g', o' + i * 5 + 1, none⟩ = some (.int .u8 k2) ∧ W.cell? ⟨g', o' + i * 5 + 2, none⟩ = some (.string (bstr x2)) ∧ W.cell? ⟨g', o' + i * 5 + 3, none⟩ = some (.int .i64 a2) ∧ W.cell? ⟨g', o' + i * 5 + 4, none⟩ = some (.slice B' kids'.len d')) := fun W h =>
                    ⟨hMr.below h, y7.below h, (h.cell (World.block_lt_of_cell? wr _ y0)).trans y0, (h.cell (World.block_lt_of_cell? wr _ y1)).trans y1, (h.cell (World.block_lt_of_cell? wr _ y2)).trans y2, (h.cell (World.block_lt_of_cell? wr _ y3)).trans y3, (h.cell (World.block_lt_of_cell? wr _ y4)).trans y4⟩
                  obtain ⟨q, hq⟩ : ∃ q, q = eqT l1 k1 x1 kids l2 k2 x2 kids' := ⟨_, rfl⟩
                  have hSI2 := hSI.step
                  rw [← hq] at hSI2
                  have HSI := Lib.hid hSI2
                  have HQ : Hid (eqT l1 k1 x1 kids l2 k2 x2 kids' = q) := hq.symm
                  clear hSI hSI2 hq hLG hMr y0 y1 y2 y3 y4 y7
                  have HS : Hid (∀ wx, Below wr.heap.size wr wx → Below wr.heap.size wr wx ∧ wx.cell? ⟨g, o + i * 5, none⟩ = some (.bool l1) ∧ wx.cell? ⟨g, o + i * 5 + 1, none⟩ = some (.int .u8 k1) ∧ wx.cell? ⟨g, o + i * 5 + 2, none⟩ = some (.string (bstr x1)) ∧ wx.cell? ⟨g, o + i * 5 + 3, none⟩ = some (.int .i64 a1) ∧ wx.cell? ⟨g, o + i * 5 + 4, none⟩ = some (.slice A' kids.len c') ∧ wx.cell? ⟨g', o' + i * 5, none⟩ = some (.bool l2) ∧ wx.cell? ⟨g', o' + i * 5 + 1, none⟩ = some (.int .u8 k2) ∧ wx.cell? ⟨g', o' + i * 5 + 2, none⟩ = some (.string (bstr x2)) ∧ wx.cell? ⟨g', o' + i * 5 + 3, none⟩ = some (.int .i64 a2) ∧ wx.cell? ⟨g', o' + i * 5 + 4, none⟩ = some (.slice B' kids'.len d')) := fun wx h => by
                    obtain ⟨-, -, n0, n1, n2, n3, n4⟩ := HL.out wx h
                    obtain ⟨-, -, z0, z1, z2, z3, z4⟩ := HM.out wx h
                    exact ⟨h, n0, n1, n2, n3, n4, z0, z1, z2, z3, z4⟩
                  cases ok <;> rcases hhi with ⟨hi0, hi1⟩ | ⟨hi0, hi1⟩ <;> rcases hhd with ⟨hd0, hd1⟩ | ⟨hd0, hd1⟩
                  all_goals
                    go_wp2_with (first | (go_at_call 11; refine TT.out.mono ?_; rintro e wz ⟨rfl, hbz⟩; (obtain ⟨-, -, n0, n1, n2, n3, n4⟩ := HL.out _ hbz)) | (go_at_call 13; refine (tdepth_calls l1 k1 x1 a1 A' kids c' _ hFine.hx h5 h6 hFine.fit hFine.hgt (HL.out _ ?hbx).2.1).mono ?_; (case hbx => assumption); rw [← HD.out]; rintro e wz ⟨rfl, hbz⟩; (have hbq := bel_trans (a := wr) (by assumption) hbz); (obtain ⟨-, -, n0, n1, n2, n3, n4⟩ := HL.out _ hbq)))
                    go_region_held3 (fun wx => Below wr.heap.size wr wx ∧ wx.cell? ⟨g, o + i * 5, none⟩ = some (.bool l1) ∧ wx.cell? ⟨g, o + i * 5 + 1, none⟩ = some (.int .u8 k1) ∧ wx.cell? ⟨g, o + i * 5 + 2, none⟩ = some (.string (bstr x1)) ∧ wx.cell? ⟨g, o + i * 5 + 3, none⟩ = some (.int .i64 a1) ∧ wx.cell? ⟨g, o + i * 5 + 4, none⟩ = some (.slice A' kids.len c') ∧ wx.cell? ⟨g', o' + i * 5, none⟩ = some (.bool l2) ∧ wx.cell? ⟨g', o' + i * 5 + 1, none⟩ = some (.int .u8 k2) ∧ wx.cell? ⟨g', o' + i * 5 + 2, none⟩ = some (.string (bstr x2)) ∧ wx.cell? ⟨g', o' + i * 5 + 3, none⟩ = some (.int .i64 a2) ∧ wx.cell? ⟨g', o' + i * 5 + 4, none⟩ = some (.slice B' kids'.len d')) (first | exact HS.out _ (Below.drew (by assumption)) | exact HS.out _ (bel_trans (And.left ‹Below wr.heap.size wr _ ∧ _›) ‹Below _ _ _›)) (first | (go_at_call 15; refine (tsame_calls kids kids' l1 l2 k1 k2 x1 x2 a1 a2 A' B' c' d' _ ?_ ?_ h5 h6 m5 m6).mono ?_; exact (HL.out _ (And.left ‹Below wr.heap.size wr _ ∧ _›)).2.1; exact (HM.out _ (And.left ‹Below wr.heap.size wr _ ∧ _›)).2.1; rw [HQ.out]; rintro e wx ⟨rfl, hbx⟩))
                    have hbl := And.left ‹Below wr.heap.size wr _ ∧ _›
                    go_wp2
                    go_round
                    case rel => exact ⟨i + 1, max deep D, (if i = 0 then want else want ++ [32]) ++ s, _, q, rest, rest', (by first | rw [hst0.out hi1.out] | rw [hst1.out hi1.out]), rfl, by rw [hd1.out], rfl, by go_num, hrl, HWL.out, HMX.out, ⟨HLI.out, HSI.out, (HL.out _ hbl).1, (fun _ => (HM.out _ hbl).1), HTZ.out, HGR.out _ hbl⟩⟩
                    case measure => simp [intOf]; omega
end Go.Proofs.YtppbijbgnhmdaaaDoor

/- The law that trees' texts are read as those trees: it answers true for every tree and all bytes. -/
import Derived.Test.YtppbijbgnhmdaaaDoorBackFacts
import Derived.Test.YtppbijbgnhmdaaaDoorLawTexts
namespace Go.Proofs.YtppbijbgnhmdaaaDoor
open Go.RowKit Forest

/-- The reference's Tokens of a text. -/
theorem rstr_toks (s : ByteArray) (hs : s.size ≤ 140737488351232) (M : List Tok) (q : Nat) (er : Int) (hR : lexB (bl s) = (M, q, er)) (L : List TokI) (hL : L = M.map Tok.i) (W : World) (fr : Nat × Nat) :
    Calls Tryd.prog 22 #[.slice (some ⟨W.heap.size, 0, none⟩) s.size (grownCap W s.size 0 5)] (W.drew.alloc (.cells (bytesRow s (grownCap W s.size 0 5)) 5 fr)) fun e w' =>
      (∃ A c, e = .returned (.tuple #[.slice A L.length c, .int .i64 ((q : Nat) : Int), .int .i64 er]) ∧ L.length ≤ c ∧ c ≤ maxLen ∧ TksI w' A L) ∧ Below W.heap.size W w' := by
  subst hL
  refine (rtokens_calls _ (grownCap W s.size 0 5) (bl s) _ (bys_new W s _ _ fr) (grownCap_ge W s.size 0 _) hs).mono ?_
  rw [hR]
  rintro e w' ⟨v, rfl, hown, hbel⟩
  dsimp only at hown ⊢
  obtain ⟨A, c, rfl, hT, _⟩ := own_tks hown rfl
  obtain ⟨hcc, hcm⟩ := own_bounds hown
  have hb1 : Below W.heap.size W (W.drew.alloc (.cells (bytesRow s (grownCap W s.size 0 5)) 5 fr)) := (Below.refl _ W).drew.alloc (Nat.le_refl _) _
  rw [List.length_map]
  exact ⟨⟨A, c, rfl, hcc, hcm, hT.i⟩, gb_none (gb_trans (gb_below hb1 none) (gb_below hbel none))⟩
/-- The reference's Tokens of bytes. -/
theorem rbys_toks (A : Option Addr) (cap : Nat) (bs : List UInt8) (w : World) (hb : Bys w A bs) (hcap : bs.length ≤ cap) (hlen : bs.length ≤ 140737488351232) (M : List Tok) (q : Nat) (er : Int) (hR : (M, q, er) = lexB bs) (L : List TokI) (hL : L = M.map Tok.i) :
    Calls Tryd.prog 22 #[.slice A bs.length cap] w fun e w' =>
      (∃ A c, e = .returned (.tuple #[.slice A L.length c, .int .i64 ((q : Nat) : Int), .int .i64 er]) ∧ L.length ≤ c ∧ c ≤ maxLen ∧ TksI w' A L) ∧ Below w.heap.size w w' := by
  subst hL
  refine (rtokens_calls A cap bs w hb hcap hlen).mono ?_
  rw [← hR]
  rintro e w' ⟨v, rfl, hown, hbel⟩
  dsimp only at hown ⊢
  obtain ⟨A, c, rfl, hT, _⟩ := own_tks hown rfl
  obtain ⟨hcc, hcm⟩ := own_bounds hown
  rw [List.length_map]
  exact ⟨⟨A, c, rfl, hcc, hcm, hT.i⟩, hbel⟩
theorem blank_text (s : List UInt8) : (⟨#[32]⟩ : ByteArray) ++ bstr s ++ ⟨#[10]⟩ = bstr (32 :: (s ++ [10])) := by
  apply ByteArray.ext
  simp [bstr]

/-- What stands while the first half runs. -/
structure BGood (w : World) (b : Nat) (T : Tr) (A : Option Addr) (c : Nat) (A1 : Option Addr) (bs : List UInt8) (W : World) : Prop where
  v : Var0 W
  t : Lies W T.F A 0
  bt : TBox b T A c W
  y : Bys W A1 bs
  bel : Below w.heap.size w W
theorem BGood.below {w : World} {b : Nat} {T : Tr} {A : Option Addr} {c : Nat} {A1 : Option Addr} {bs : List UInt8} {W W2 : World} (h : BGood w b T A c A1 bs W) (hb : Below W.heap.size W W2) : BGood w b T A c A1 bs W2 :=
  ⟨h.v.below hb, h.t.below hb, h.bt.below hb, h.y.below hb, bel_trans h.bel hb⟩

set_option maxHeartbeats 2000000 in
set_option maxRecDepth 100000 in
theorem law_back (T : Tr) (A : Option Addr) (c : Nat) (A1 : Option Addr) (cap : Nat) (bs : List UInt8) (w : World) (hv : Var0 w) (hT : TArg T A c w) (hy : Bys w A1 bs) (hcap : bs.length ≤ cap) (hl : bs.length ≤ 140737488351232) :
    Calls Tryd.prog 6 #[.agg #[.bool T.l, .int .u8 T.k, .string (bstr T.x), .int .i64 T.a, .slice A T.F.len c], .slice A1 bs.length cap] w fun e w' => e = .returned (.bool true) ∧ Below w.heap.size w w' := by
  obtain ⟨w1, hw1⟩ : ∃ w1, w1 = w.alloc (.cells #[.bool T.l, .int .u8 T.k, .string (bstr T.x), .int .i64 T.a, .slice A T.F.len c] 27) := ⟨_, rfl⟩
  have hb1 : Below w.heap.size w w1 := by rw [hw1]; exact (Below.refl _ w).alloc (Nat.le_refl _) _
  have hG1 : BGood w w.heap.size T A c A1 bs w1 := ⟨hv.below hb1, hT.inn.lies.below hb1, by rw [hw1]; exact TBox.new w T A c, hy.below hb1, hb1⟩
  have hx1 := hG1.bt
  rw [hw1] at hx1
  have a0 := hx1 0
  have a1 := hx1 1
  have a2 := hx1 2
  have a3 := hx1 3
  have a4 := hx1 4
  have HW1 := Lib.hid hw1
  have GT := Lib.hid (great_calls T.F T.l T.k T.x T.a A c w1 hG1.t hT.inn.len hT.inn.cap hT.x hT.fits)
  clear hx1 hw1 hb1
  go_enter Tryd.func6, Tryd.ntmps6
  go_wp2_with fail
  rw [← HW1.out]
  refine GT.out.mono ?_
  clear a0 a1 a2 a3 a4 HW1
  by_cases hbig : greatT T.F T.x = true ∨ 5000 < bs.length
  · have hd : greatT T.F T.x = true ∨ (greatT T.F T.x = false ∧ decide ((5000 : Int) < (bs.length : Int)) = true) := by
      cases hg : greatT T.F T.x with
      | true => exact .inl rfl
      | false => exact .inr ⟨rfl, by rw [hg] at hbig; simp at hbig ⊢; omega⟩
    rcases hd with hg | ⟨hg, d1⟩
    · rw [hg]
      rintro e w2 ⟨rfl, hb2⟩
      have hG2 := hG1.below hb2
      go_wp2_with (go_at_call 9; refine (known_calls _ hG2.v).mono ?_; rintro e w3 ⟨rfl, hb3⟩; have hb03 := bel_trans hG2.bel hb3)
      go_ret
      exact ⟨rfl, hb03⟩
    · rw [hg]
      rintro e w2 ⟨rfl, hb2⟩
      have hG2 := hG1.below hb2
      go_wp2_with (go_at_call 9; refine (known_calls _ hG2.v).mono ?_; rintro e w3 ⟨rfl, hb3⟩; have hb03 := bel_trans hG2.bel hb3)
      go_ret
      exact ⟨rfl, hb03⟩
  · have hg : greatT T.F T.x = false := by
      cases hg : greatT T.F T.x with
      | true => exact absurd (.inl hg) hbig
      | false => rfl
    have hlb : bs.length ≤ 5000 := by
      rcases Nat.lt_or_ge 5000 bs.length with h | h
      · exact absurd (.inr h) hbig
      · exact h
    have d1 : decide ((5000 : Int) < (bs.length : Int)) = false := by simp; omega
    rw [hg]
    rintro e w2 ⟨rfl, hb2⟩
    have hG2 := hG1.below hb2
    have fT := great_fine hg
    have hwg : wgtT T.x T.F ≤ 1000000 := (fine_tsz (great_tsz hg)).2
    obtain ⟨S, hSS⟩ : ∃ S, S = textS T.l T.k T.x T.F (decide (200 < depT T.l 0 T.F)) := ⟨_, rfl⟩
    obtain ⟨s, es⟩ := S
    have hS : Hid (((es == 0) = true ∧ s.length ≤ 1000000 ∧ ∃ L q U, lexB (32 :: (s ++ [10])) = (L, q, 0) ∧ nextS (L.map Tok.i) 0 = (U, (L.length : Int), 0) ∧ eqT T.l T.k T.x T.F U.l U.k U.x U.F = true) ∨ (es == 0) = false) := by
      show _ ∨ _
      cases hw : wrT T.l T.k T.x T.F with
      | none =>
        have e : textS T.l T.k T.x T.F (decide (200 < depT T.l 0 T.F)) = ([], 5) := by simp [textS, hw]
        rw [e] at hSS; cases hSS; exact .inr rfl
      | some s' =>
        have hlen := wrT_len hw
        by_cases hd : 200 < depT T.l 0 T.F
        · have e : textS T.l T.k T.x T.F (decide (200 < depT T.l 0 T.F)) = ([], 40) := by simp [textS, hw, hd]
          rw [e] at hSS; cases hSS; exact .inr rfl
        · obtain ⟨L, q, U, e1, e2, e3⟩ := text_back T hw (by omega) (by omega)
          have hnl : ¬ 1048576 < s'.length := by omega
          have e : textS T.l T.k T.x T.F (decide (200 < depT T.l 0 T.F)) = (s', 0) := by simp [textS, hw, hd, hnl]
          rw [e] at hSS; cases hSS
          exact .inl ⟨rfl, by omega, L, q, U, e1, e2, e3⟩
    have a0 := hG2.bt 0
    have a1 := hG2.bt 1
    have a2 := hG2.bt 2
    have a3 := hG2.bt 3
    have a4 := hG2.bt 4
    have tt := ttext_calls T.l T.k T.x T.a A T.F c w2 hG2.v fT.hx hT.inn.len hT.inn.cap fT.fit fT.hgt hG2.t (fT.parts _ _ _ _ _)
    rw [← hSS] at tt
    have TT := Lib.hid tt
    have hln := hT.inn.len
    have hcp := hT.inn.cap
    clear hb2 hG1 GT hbig hg hwg fT hv hT hy hSS tt
    go_upto_if 42 with (go_at_call 11; refine TT.out.mono ?_; rintro e w3 ⟨rfl, hb3⟩; have hG3 := hG2.below hb3; have b0 := hG3.bt 0; have b1 := hG3.bt 1; have b2 := hG3.bt 2; have b3 := hG3.bt 3; have b4 := hG3.bt 4)
    have HG3 := Lib.hid hG3
    clear a0 a1 a2 a3 a4 hb3 hG2 TT hG3
    go_cut [] from 42 to 75 (fun wx => Hid (BGood w w.heap.size T A c A1 bs wx))
    case first =>
      rcases hS.out with ⟨he, hsl, L, q, U, e1, e2, e3⟩ | he
      · obtain ⟨LI, hLI⟩ : ∃ LI, LI = L.map Tok.i := ⟨_, rfl⟩
        have hlc := (lex_again (32 :: (s ++ [10])) (by simp; omega)).2.2
        rw [e1] at hlc
        have hll : LI.length = L.length := by rw [hLI]; simp
        have hl2 : LI.length ≤ 1048576 := by simp at hlc; omega
        rw [← hLI, ← hll] at e2
        have hsz : ((⟨#[32]⟩ : ByteArray) ++ bstr s ++ ⟨#[10]⟩).size ≤ 140737488351232 := by
          rw [blank_text]; show (32 :: (s ++ [10])).length ≤ _; simp; omega
        have hst := rstr_toks (⟨#[32]⟩ ++ bstr s ++ ⟨#[10]⟩) hsz L q 0 (by rw [blank_text]; exact e1) LI hLI
        have hcv := conv_text (⟨#[32]⟩ ++ bstr s ++ ⟨#[10]⟩)
        have hss : (bstr s).size ≤ 1000000 := hsl
        have hX : ((⟨#[32]⟩ : ByteArray) ++ bstr s ++ ⟨#[10]⟩).size = 1 + (bstr s).size + 1 := by rw [blank_text]; show (32 :: (s ++ [10])).length = 1 + s.length + 1; simp; omega
        simp only [hX] at hst
        have HST := Lib.hid hst
        have HE2 := Lib.hid e2
        have HE3 := Lib.hid e3
        clear hst hlc hll hLI e1 e2 e3 hS hsz hX
        go_wp2_with fail
        refine (HST.out w3 _).mono ?_
        clear hcv HST
        rintro e w4 ⟨⟨A4, c4, rfl, hc4, hm4, hT4⟩, hb4⟩
        go_wp2_with fail
        refine (tnext_calls LI A4 c4 0 w4 hT4 hc4 hm4 hl2).mono ?_
        rw [HE2.out]
        rintro e w5 ⟨A5, c5, rfl, q1, q2, q3, hb5⟩
        simp only [Tr.v]
        dsimp only at q1 q3
        obtain ⟨w6, hw6⟩ : ∃ w6, w6 = w5.alloc (.cells #[.bool U.l, .int .u8 U.k, .string (bstr U.x), .int .i64 U.a, .slice A5 U.F.len c5] 27) := ⟨_, rfl⟩
        have hb6 : Below w5.heap.size w5 w6 := by rw [hw6]; exact (Below.refl _ w5).alloc (Nat.le_refl _) _
        have hG6 := HG3.out.below (bel_trans hb4 (bel_trans hb5 hb6))
        have hxu : TBox w5.heap.size U A5 c5 w6 := by rw [hw6]; exact TBox.new w5 U A5 c5
        have hxt := hG6.bt
        have hsm := tsame_calls T.F U.F T.l U.l T.k U.k T.x U.x T.a U.a A A5 c c5 w6 hG6.t (q3.lies.below hb6) hln hcp q1 q2
        rw [HE3.out] at hsm
        rw [hw6] at hxu hxt
        have i0 := hxu 0
        have i1 := hxu 1
        have i2 := hxu 2
        have i3 := hxu 3
        have i4 := hxu 4
        have j0 := hxt 0
        have j1 := hxt 1
        have j2 := hxt 2
        have j3 := hxt 3
        have j4 := hxt 4
        have HW6 := Lib.hid hw6
        have HSM := Lib.hid hsm
        clear b0 b1 b2 b3 b4 hxu hxt hsm hw6 hT4 q3 hb4 hb5 hb6
        go_wp2_with fail
        rw [← HW6.out]
        clear i0 i1 i2 i3 i4 j0 j1 j2 j3 j4
        refine HSM.out.mono ?_
        rintro e w7 ⟨rfl, hb7⟩
        go_wp2_with fail
        go_meet
        exact hG6.below hb7
      · go_wp2_with fail
        go_meet
        exact HG3.out
    case rest =>
      obtain ⟨RB, hRB⟩ : ∃ R, R = lexB bs := ⟨_, rfl⟩
      have hAG := all_good bs hlb
      have hcnt := (bytes_good bs hlb).2.2
      rw [← hRB] at hAG hcnt
      obtain ⟨M, qb, eb⟩ := RB
      dsimp only at hAG hcnt
      obtain ⟨MI, hMI⟩ : ∃ MI, MI = M.map Tok.i := ⟨_, rfl⟩
      rw [← hMI] at hAG
      have hml : MI.length ≤ 1048576 := by rw [hMI]; simp; omega
      obtain ⟨RA, hRA⟩ : ∃ R, R = allL MI 0 := ⟨_, rfl⟩
      rw [← hRA] at hAG
      obtain ⟨F, at_, ea⟩ := RA
      dsimp only at hAG
      have HBT := Lib.hid (rbys_toks A1 cap bs wc hcut.out.y hcap hl M qb eb hRB MI hMI)
      have HRA := Lib.hid hRA
      have HAG := Lib.hid hAG
      clear hRA hAG hRB hMI hcnt hS HG3 hln hcp
      go_wp2_with fail
      refine HBT.out.mono ?_
      rintro e w4 ⟨⟨A4, c4, rfl, hc4, hm4, hT4⟩, hb4⟩
      go_wp2_with fail
      refine (tall_calls MI A4 c4 w4 hT4 hc4 hm4 hml).mono ?_
      rw [← HRA.out]
      rintro e w5 ⟨B, d, rfl, hd1, hd2, hF5, hb5⟩
      dsimp only at hd1 hF5 ⊢
      have hFl := hF5.lies
      have HV : Hid (∀ W, Below w5.heap.size w5 W → Var0 W ∧ Below w.heap.size w W) := fun W h => ⟨(hcut.out.v.below (bel_trans hb4 hb5)).below h, bel_trans (bel_trans hcut.out.bel (bel_trans hb4 hb5)) h⟩
      clear hF5 hb4 hb5 hT4 HRA HBT hcut
      go_wp2
      go_loopw [19] (fun v wr => ∃ (i : Nat) (F' : Forest), v = .int .i64 (i : Int) ∧ i + F'.len = F.len ∧ Hid (Lies wr F' B i ∧ AllT GoodTr F' ∧ Below w5.heap.size w5 wr)) (fun v _ => F.len - (intOf v).toNat)
      case atStart => exact ⟨0, F, rfl, Nat.zero_add _, ⟨hFl, HAG.out, .refl _ _⟩⟩
      case round =>
        obtain ⟨i, F', rfl, hlF, hHH⟩ := hrel
        obtain ⟨hLF, hAF, hbr⟩ := hHH.out
        clear hHH hFl HAG
        cases F' with
        | nil =>
          obtain rfl : i = F.len := by simpa [Forest.len] using hlF
          have dd1 : decide ((F.len : Int) < (F.len : Int)) = false := by simp
          obtain ⟨v9, bw9⟩ := HV.out wr hbr
          clear hLF hAF hbr hlF
          go_wp2_with (go_at_call 9; refine (known_calls _ v9).mono ?_; rintro e w9 ⟨rfl, hb9⟩; have bw10 := bel_trans bw9 hb9)
          go_ret
          exact ⟨rfl, bw10⟩
        | cons l1 k1 x1 a1 kids rest =>
          have hlt : i < F.len := by simp [Forest.len] at hlF; omega
          have dd1 : decide ((i : Int) < (F.len : Int)) = true := by simp; omega
          have hrl : i + 1 + rest.len = F.len := by simp [Forest.len] at hlF; omega
          have hi9 : i < 9223372036854775807 := by unfold maxLen at hd2; omega
          obtain ⟨⟨g, o, rfl, h0, h1, h2, h3, A', c', h4, h5, h6, h7⟩, hLr⟩ := hLF
          obtain ⟨hgt, hAr⟩ := hAF
          obtain ⟨hFine, hcase⟩ := good_tree hgt
          dsimp only at hFine hcase
          have tt := ttext_calls l1 k1 x1 a1 A' kids c' wr (HV.out wr hbr).1 hFine.hx h5 h6 hFine.fit hFine.hgt h7 (hFine.parts _ _ _ _ _)
          have HAR := Lib.hid hAr
          clear hFine hgt hAr hlF
          rcases hcase with ⟨s2, M2, q2, U, hsl, hS, hlex, hnx, heq⟩ | ⟨hT, hS⟩
          · rw [hS] at tt
            dsimp only at tt
            obtain ⟨LI, hLI⟩ : ∃ LI, LI = M2.map Tok.i := ⟨_, rfl⟩
            have hlc := (lex_again s2 (by omega)).2.2
            rw [hlex] at hlc
            have hll : LI.length = M2.length := by rw [hLI]; simp
            have hl2 : LI.length ≤ 1048576 := by dsimp only at hlc; omega
            rw [← hLI, ← hll] at hnx
            have hsz : (bstr s2).size ≤ 140737488351232 := by show s2.length ≤ _; omega
            have HST := Lib.hid (rstr_toks (bstr s2) hsz M2 q2 0 hlex LI hLI)
            have hcv := conv_text (bstr s2)
            have HNX := Lib.hid hnx
            have HEQ := Lib.hid heq
            have TT := Lib.hid tt
            have HC : Hid (∀ W, Below wr.heap.size wr W → Lies W rest (some ⟨g, o, none⟩) (i + 1) ∧ Lies W kids A' 0 ∧ W.cell? ⟨g, o + i * 5, none⟩ = some (.bool l1) ∧ W.cell? ⟨g, o + i * 5 + 1, none⟩ = some (.int .u8 k1) ∧ W.cell? ⟨g, o + i * 5 + 2, none⟩ = some (.string (bstr x1)) ∧ W.cell? ⟨g, o + i * 5 + 3, none⟩ = some (.int .i64 a1) ∧ W.cell? ⟨g, o + i * 5 + 4, none⟩ = some (.slice A' kids.len c')) := fun W h =>
              ⟨hLr.below h, h7.below h, (h.cell (World.block_lt_of_cell? wr _ h0)).trans h0, (h.cell (World.block_lt_of_cell? wr _ h1)).trans h1, (h.cell (World.block_lt_of_cell? wr _ h2)).trans h2, (h.cell (World.block_lt_of_cell? wr _ h3)).trans h3, (h.cell (World.block_lt_of_cell? wr _ h4)).trans h4⟩
            have HBR := Lib.hid hbr
            clear hS hlc hll hsz hLI hlex hnx heq tt hLr h7 hbr
            go_wp2_with fail
            refine TT.out.mono ?_
            clear h0 h1 h2 h3 h4 TT
            rintro e w6 ⟨rfl, hb6⟩
            go_wp2_with fail
            refine (HST.out w6 _).mono ?_
            clear hcv HST
            rintro e w7 ⟨⟨A7, c7, rfl, hc7, hm7, hT7⟩, hb7⟩
            go_wp2_with fail
            refine (tnext_calls LI A7 c7 0 w7 hT7 hc7 hm7 hl2).mono ?_
            rw [HNX.out]
            rintro e w8 ⟨A8, c8, rfl, q1, q2, q3, hb8⟩
            simp only [Tr.v]
            dsimp only at q1 q3
            go_wp2_with fail
            obtain ⟨w9, hw9⟩ : ∃ w9, w9 = w8.alloc (.cells #[.bool U.l, .int .u8 U.k, .string (bstr U.x), .int .i64 U.a, .slice A8 U.F.len c8] 27) := ⟨_, rfl⟩
            have hb89 : Below w8.heap.size w8 w9 := by rw [hw9]; exact (Below.refl _ w8).alloc (Nat.le_refl _) _
            have hb9 : Below wr.heap.size wr w9 := bel_trans hb6 (bel_trans hb7 (bel_trans hb8 hb89))
            have hbx : TBox w8.heap.size U A8 c8 w9 := by rw [hw9]; exact TBox.new w8 U A8 c8
            have q4 : Lies w9 U.F A8 0 := q3.lies.below hb89
            rw [← hw9]
            have HALL : Hid (∀ W, Below w9.heap.size w9 W → TBox w8.heap.size U A8 c8 W ∧ Lies W U.F A8 0) := fun W h => ⟨hbx.below h, q4.below h⟩
            clear hw9 hb89 hb6 hb7 hb8 hT7 q3
            have HS : Hid (∀ wx, Below w9.heap.size w9 wx → Below w9.heap.size w9 wx ∧ wx.cell? ⟨w8.heap.size, 0, none⟩ = some (.bool U.l) ∧ wx.cell? ⟨w8.heap.size, 1, none⟩ = some (.int .u8 U.k) ∧ wx.cell? ⟨w8.heap.size, 2, none⟩ = some (.string (bstr U.x)) ∧ wx.cell? ⟨w8.heap.size, 3, none⟩ = some (.int .i64 U.a) ∧ wx.cell? ⟨w8.heap.size, 4, none⟩ = some (.slice A8 U.F.len c8) ∧ wx.cell? ⟨g, o + i * 5, none⟩ = some (.bool l1) ∧ wx.cell? ⟨g, o + i * 5 + 1, none⟩ = some (.int .u8 k1) ∧ wx.cell? ⟨g, o + i * 5 + 2, none⟩ = some (.string (bstr x1)) ∧ wx.cell? ⟨g, o + i * 5 + 3, none⟩ = some (.int .i64 a1) ∧ wx.cell? ⟨g, o + i * 5 + 4, none⟩ = some (.slice A' kids.len c')) := fun wx h => by
              obtain ⟨n0, n1, n2, n3, n4, n5, n6⟩ := HC.out wx (bel_trans hb9 h)
              have hb := (HALL.out wx h).1
              exact ⟨h, hb 0, hb 1, hb 2, hb 3, hb 4, n2, n3, n4, n5, n6⟩
            clear hbx q4
            go_region_held3 (fun wx => Below w9.heap.size w9 wx ∧ wx.cell? ⟨w8.heap.size, 0, none⟩ = some (.bool U.l) ∧ wx.cell? ⟨w8.heap.size, 1, none⟩ = some (.int .u8 U.k) ∧ wx.cell? ⟨w8.heap.size, 2, none⟩ = some (.string (bstr U.x)) ∧ wx.cell? ⟨w8.heap.size, 3, none⟩ = some (.int .i64 U.a) ∧ wx.cell? ⟨w8.heap.size, 4, none⟩ = some (.slice A8 U.F.len c8) ∧ wx.cell? ⟨g, o + i * 5, none⟩ = some (.bool l1) ∧ wx.cell? ⟨g, o + i * 5 + 1, none⟩ = some (.int .u8 k1) ∧ wx.cell? ⟨g, o + i * 5 + 2, none⟩ = some (.string (bstr x1)) ∧ wx.cell? ⟨g, o + i * 5 + 3, none⟩ = some (.int .i64 a1) ∧ wx.cell? ⟨g, o + i * 5 + 4, none⟩ = some (.slice A' kids.len c')) (first | exact HS.out _ (Below.refl _ w9).drew | exact HS.out _ (bel_trans (And.left ‹Below w9.heap.size w9 _ ∧ _›) ‹Below _ _ _›)) (first | (go_at_call 15; refine (tsame_calls U.F kids U.l l1 U.k k1 U.x x1 U.a a1 A8 A' c8 c' _ ?_ ?_ q1 q2 h5 h6).mono ?_; exact (HALL.out _ (And.left ‹Below w9.heap.size w9 _ ∧ _›)).2; exact (HC.out _ (bel_trans hb9 (And.left ‹Below w9.heap.size w9 _ ∧ _›))).2.1; rw [HEQ.out]; rintro e wx ⟨rfl, hbx⟩))
            have hbz := bel_trans hb9 (And.left ‹Below w9.heap.size w9 _ ∧ _›)
            go_wp2
            go_round
            case rel => exact ⟨i + 1, rest, by go_num, hrl, (HC.out _ hbz).1, HAR.out, bel_trans HBR.out hbz⟩
            case measure => simp [intOf]; omega
          · rw [hS] at tt
            simp only [deepTr, Tr.mk.injEq] at hT
            obtain ⟨rfl, rfl, rfl, rfl, rfl⟩ := hT
            dsimp only at tt
            obtain ⟨⟨g2, o2, rfl, m0, m1, m2, m3, A2, c2, m4, m5, m6, m7⟩, -⟩ := h7
            have TT := Lib.hid tt
            have HC : Hid (∀ W, Below wr.heap.size wr W → Lies W rest (some ⟨g, o, none⟩) (i + 1) ∧ W.cell? ⟨g, o + i * 5 + 4, none⟩ = some (.slice (some ⟨g2, o2, none⟩) 1 c') ∧ W.cell? ⟨g2, o2 + 2, none⟩ = some (.string (bstr [100, 101, 101, 112]))) := fun W h =>
              ⟨hLr.below h, (h.cell (World.block_lt_of_cell? wr _ h4)).trans h4, (h.cell (World.block_lt_of_cell? wr _ m2)).trans (by simpa using m2)⟩
            have HBR := Lib.hid hbr
            have ht1 : (bstr [100, 101, 101, 112]).toList = [100, 101, 101, 112] := bstr_list _
            clear hS tt hLr hbr m0 m1 m2 m3 m4 m5 m6 m7
            go_wp2_with fail
            refine TT.out.mono ?_
            clear h0 h1 h2 h3 h4 TT
            rintro e w6 ⟨rfl, hb6⟩
            obtain ⟨n0, n4, n7⟩ := HC.out w6 hb6
            have HN0 := Lib.hid n0
            have HB6 := Lib.hid hb6
            clear n0 hb6
            go_wp2
            go_round
            case rel => exact ⟨i + 1, rest, by go_num, hrl, HN0.out, HAR.out, bel_trans HBR.out HB6.out⟩
            case measure => simp [intOf]; omega
end Go.Proofs.YtppbijbgnhmdaaaDoor

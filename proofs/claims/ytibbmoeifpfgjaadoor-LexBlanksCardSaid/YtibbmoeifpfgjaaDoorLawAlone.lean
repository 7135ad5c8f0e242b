/- The law LexAlone: the walk. -/
import Derived.Test.YtibbmoeifpfgjaaDoorLawText
import Derived.Test.YtibbmoeifpfgjaaDoorLawTokens
namespace Go.Proofs.YtibbmoeifpfgjaaDoor
open Go.RowKit

theorem dbl_ge (l : List UInt8) : l.length ≤ (dbl l).length := by
  induction l with
  | nil => simp
  | cons a r ih =>
    simp only [dbl, List.length_append, List.length_cons]
    split <;> simp <;> omega
theorem retext_ge (k : Int) (x : List UInt8) : x.length ≤ (retext k x).length := by
  have := dbl_ge x
  unfold retext
  repeat' split
  all_goals simp
  all_goals omega

theorem le_sum : ∀ {l : List Nat} {n : Nat}, n ∈ l → n ≤ l.sum
  | [], n, h => by cases h
  | a :: r, n, h => by
    rw [List.sum_cons]
    rcases List.mem_cons.1 h with rfl | h
    · omega
    · have := le_sum h; omega
/-- What is known of a token of some bytes: it is itself when written alone; its place. -/
structure Good (bs : List UInt8) (T : List Tok) (i : Nat) (k : Int) (x : List UInt8) (p : Nat) : Prop where
  alone : lexB (retext k x) = ([{ kind := k, text := x, at_ := 0 }], (retext k x).length, 0)
  len : (retext k x).length ≤ 2000
  lenx : x.length ≤ 2000
  at_ : p < bs.length
def lastOf (T : List Tok) (i : Nat) : Int := if i = 0 then -1 else (((T.getD (i - 1) ⟨0, [], 0⟩).at_ : Nat) : Int)

/-- Tokens([]byte(s)), whatever the world. -/
theorem string_tokens (s : ByteArray) (hs : s.size ≤ 140737488351232) (R : List Tok × Nat × Int) (hR : lexB (bl s) = R) (W : World) (fr : Nat × Nat) :
    Calls Tryd.prog 9 #[.slice (some ⟨W.heap.size, 0, none⟩) s.size (grownCap W s.size 0 5)] (W.drew.alloc (.cells (bytesRow s (grownCap W s.size 0 5)) 5 fr)) fun e w' =>
      (∃ A c, e = .returned (.tuple #[.slice A R.1.length c, .int .i64 ((R.2.1 : Nat) : Int), .int .i64 R.2.2]) ∧ Tks w' A R.1) ∧ Below W.heap.size W w' := by
  subst hR
  refine (tokens_calls _ (grownCap W s.size 0 5) (bl s) _ (bys_new W s _ _ fr) (grownCap_ge W s.size 0 _) hs).mono ?_
  rintro e w' ⟨v, rfl, hown, hbel⟩
  obtain ⟨A, c, rfl, hT⟩ := tks_new hown rfl
  have hb1 : Below W.heap.size W (W.drew.alloc (.cells (bytesRow s (grownCap W s.size 0 5)) 5 fr)) := (Below.refl _ W).drew.alloc (Nat.le_refl _) _
  exact ⟨⟨A, c, rfl, hT⟩, gb_none (gb_trans (gb_below hb1 none) (gb_below hbel none))⟩

set_option maxHeartbeats 8000000 in
set_option maxRecDepth 100000 in
theorem law_alone (A : Option Addr) (cap : Nat) (bs : List UInt8) (w : World) (hb : Bys w A bs) (hcap : bs.length ≤ cap) (hl : bs.length ≤ 140737488351232) :
    Calls Tryd.prog 7 #[.slice A bs.length cap] w fun e w' => e = .returned (.bool true) ∧ Below w.heap.size w w' := by
  have hk := fun W => known_calls W
  by_cases h1 : 2000 < bs.length
  · have d1 : decide ((2000 : Int) < (bs.length : Int)) = true := by simp; omega
    go_enter Tryd.func7, Tryd.ntmps7
    go_wp2_with fail
    refine (hk _).mono ?_
    rintro e w' ⟨rfl, hbel⟩
    go_wp2
    go_ret
    exact ⟨rfl, hbel⟩
  · have d1 : decide ((2000 : Int) < (bs.length : Int)) = false := by simp; omega
    have hgood : Hid (∀ i, ∀ h : i < (lexB bs).1.length, Good bs (lexB bs).1 i ((lexB bs).1[i]).kind ((lexB bs).1[i]).text ((lexB bs).1[i]).at_ ∧ lastOf (lexB bs).1 i < (((lexB bs).1[i]).at_ : Int)) := fun i h => by
      have hm : (lexB bs).1[i] ∈ (lexB bs).1 := List.getElem_mem h
      obtain ⟨ha, hs, _⟩ := lex_again bs (by omega)
      have hlen : (retext ((lexB bs).1[i]).kind ((lexB bs).1[i]).text).length ≤ 2000 := by
        have := le_sum (List.mem_map.2 ⟨_, hm, rfl⟩ : (retext ((lexB bs).1[i]).kind ((lexB bs).1[i]).text).length ∈ (lexB bs).1.map fun t => (retext t.kind t.text).length)
        omega
      refine ⟨⟨lex_alone (ha _ hm) (by omega), hlen, Nat.le_trans (retext_ge _ _) hlen, (lex_cut bs (by omega) i h).1⟩, ?_⟩
      unfold lastOf
      by_cases h0 : i = 0
      · rw [if_pos h0]; omega
      · rw [if_neg h0, List.getD, List.getElem?_eq_getElem (by omega)]
        have := lex_rise bs (by omega) i (i - 1) h (by omega)
        simp; omega
    have hcount := Lib.hid (Nat.le_trans (lex_count bs) (show bs.length ≤ 2000 by omega))
    have htk := tokens_calls A cap bs w hb hcap hl
    go_enter Tryd.func7, Tryd.ntmps7
    go_wp2_with fail
    refine htk.mono ?_
    clear htk
    rintro e w2 ⟨v, rfl, hown, hb2⟩
    generalize lexB bs = R at hown hgood hcount ⊢
    obtain ⟨T, q, er⟩ := R
    simp only at hown
    obtain ⟨A2, c2, rfl, hT⟩ := tks_new hown rfl
    simp only
    clear hown
    go_wp2
    go_loopw [6, 7] (fun v u wr => ∃ i : Nat, u = .int .i64 (i : Int) ∧ i ≤ T.length ∧ v = .int .i64 (lastOf T i) ∧ Below w.heap.size w wr ∧ Below w2.heap.size w2 wr) (fun _ u _ => T.length - (intOf u).toNat)
    case atStart => exact ⟨0, rfl, Nat.zero_le _, rfl, hb2, .refl _ _⟩
    case round =>
      obtain ⟨i, rfl, hi, rfl, hbw, hbw2⟩ := hrel
      have hcl := hcount.out
      by_cases hlt : i < T.length
      · obtain ⟨hG, hlast⟩ := hgood.out i hlt
        have hT1 := hT.below hbw2
        obtain ⟨g, o, rfl, a0, a1, a2⟩ := hT1.out i hlt
        have hnext : lastOf T (i + 1) = (((T[i]).at_ : Nat) : Int) := by
          unfold lastOf
          rw [if_neg (by omega), Nat.add_sub_cancel, List.getD, List.getElem?_eq_getElem hlt]; rfl
        have HN := Lib.hid hnext
        have HA : Hid (∀ W, Below wr.heap.size wr W → W.cell? ⟨g, o + i * 3, none⟩ = some (.int .u8 (T[i]).kind) ∧ W.cell? ⟨g, o + i * 3 + 1, none⟩ = some (.string (bstr (T[i]).text)) ∧ W.cell? ⟨g, o + i * 3 + 2, none⟩ = some (.int .i64 (((T[i]).at_ : Nat) : Int))) := fun W h =>
          ⟨(h.cell (World.block_lt_of_cell? wr _ a0)).trans a0, (h.cell (World.block_lt_of_cell? wr _ a1)).trans a1, (h.cell (World.block_lt_of_cell? wr _ a2)).trans a2⟩
        have HG := Lib.hid hG
        clear hnext
        generalize (T[i]).kind = k at hG HG HA a0
        generalize (T[i]).text = x at hG HG HA a1
        generalize (T[i]).at_ = p at hG HG HA a2 hlast HN
        generalize lastOf T i = last at hlast
        have htx := text_calls k x (p : Int) wr (Nat.le_trans hG.lenx (by omega))
        have hcv := conv_text (bstr (retext k x))
        have hsz : (bstr (retext k x)).size ≤ 2000 := hG.len
        have hat := hG.at_
        have HBW := Lib.hid hbw
        have HBW2 := Lib.hid hbw2
        clear hG hbw hbw2
        go_wp2_with fail
        refine htx.mono ?_
        rintro e w3 ⟨rfl, hb3⟩
        have hal : lexB (bl (bstr (retext k x))) = ([{ kind := k, text := x, at_ := 0 }], (bstr (retext k x)).size, 0) := HG.out.alone
        have hst := string_tokens (bstr (retext k x)) (by omega) _ hal
        clear hal htx HG a0 a1 a2
        generalize bstr (retext k x) = s at *
        go_wp2_with fail
        refine (hst w3 _).mono ?_
        clear hst
        rintro e w4 ⟨⟨A4, c4, rfl, hT4⟩, hb4⟩
        obtain ⟨g', o', rfl, b0, b1, b2⟩ := hT4.out 0 (by simp)
        replace b0 : w4.cell? ⟨g', o', none⟩ = some (.int .u8 k) := b0
        replace b1 : w4.cell? ⟨g', o' + 1, none⟩ = some (.string (bstr x)) := b1
        replace b2 : w4.cell? ⟨g', o' + 2, none⟩ = some (.int .i64 0) := b2
        have hlen1 : ([{ kind := k, text := x, at_ := 0 }] : List Tok).length = 1 := rfl
        simp only
        rw [hlen1]
        have HB34 := Lib.hid (gb_none (gb_trans (gb_below hb3 none) (gb_below hb4 none)))
        obtain ⟨a0, a1, a2⟩ := HA.out _ HB34.out
        have e1 : decide ((p : Int) ≤ last) = false := decide_eq_false (by omega)
        have e2 : decide ((bs.length : Int) ≤ (p : Int)) = false := decide_eq_false (by omega)
        clear hT4 hb3 hb4 hT1 hlen1
        go_wp2
        go_quiet (fail)
        go_wp2
        have hbf : Below wr.heap.size wr (w4.drewN nq) := pw_drewN HB34.out nq
        go_round
        case rel => exact ⟨i + 1, by go_num, hlt, by rw [HN.out], gb_none (gb_trans (gb_below HBW.out none) (gb_below hbf none)), gb_none (gb_trans (gb_below HBW2.out none) (gb_below hbf none))⟩
        case measure => simp [intOf]; omega
      · obtain rfl : i = T.length := by omega
        go_wp2_with fail
        refine (hk _).mono ?_
        rintro e w' ⟨rfl, hbel⟩
        go_wp2
        go_ret
        exact ⟨rfl, gb_none (gb_trans (gb_below hbw none) (gb_below hbel none))⟩
end Go.Proofs.YtibbmoeifpfgjaaDoor

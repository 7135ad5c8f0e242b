/- What Tokens of the reference hands back: the tokens that the plain function tells. -/
import Derived.Test.YtppbijbgnhmdaaaDoorRefOne
import Derived.Test.YtppbijbgnhmdaaaDoorLexTokens
namespace Go.Proofs.YtppbijbgnhmdaaaDoor
open Go.RowKit

theorem own_below {w W : World} {base size n : Nat} {e : TypeId} {v : Value} {xs : List Value} (h : w.ownsRow base e size v n xs) (hb : Below w.heap.size w W) : W.ownsRow base e size v n xs :=
  h.kept (row := none) (gb_below hb none) (by cases hv : v.ownBlock <;> simp)

structure RRel (w : World) (bs : List UInt8) (v : Value) (wr : World) (q : Nat) (acc : List Tok) : Prop where
  hq : q ≤ bs.length
  bel : Below w.heap.size w wr
  own : wr.ownsRow w.heap.size 24 3 v acc.length (toksCells acc)
  hacc : acc.length ≤ q
  spec : toksAt bs 0 = ahead acc (toksAt bs q)

theorem RRel.to {w : World} {bs : List UInt8} {v : Value} {wr : World} {q : Nat} {acc : List Tok} (h : RRel w bs v wr q acc) {j : Nat} (hqj : q < j) (hj : j ≤ bs.length) (hs : toksAt bs q = toksAt bs j) : RRel w bs v wr j acc :=
  ⟨hj, h.bel, h.own, by have := h.hacc; omega, h.spec.trans (by rw [hs])⟩

set_option maxHeartbeats 8000000 in
set_option maxRecDepth 100000 in
theorem rtokens_calls (A : Option Addr) (cap : Nat) (bs : List UInt8) (w : World) (hb : Bys w A bs) (hcap : bs.length ≤ cap) (hlen : bs.length ≤ 140737488351232) :
    Calls Tryd.prog 22 #[.slice A bs.length cap] w fun e w' => LexPost w (lexB bs) e w' := by
  by_cases hl : 1048576 < bs.length
  · have HX : Hid (lexB bs = ([], 0, 3)) := if_pos hl
    go_enter Tryd.func22, Tryd.ntmps22
    go_wp2
    go_ret3
    rw [HX.out]
    exact ⟨_, rfl, World.ownsRow_nil _ _ _ _, Below.refl _ _⟩
  · have hl2 : bs.length ≤ 1048576 := by omega
    have HX : Hid (lexB bs = toksAt bs 0) := if_neg hl
    clear hl
    go_enter Tryd.func22, Tryd.ntmps22
    go_wp2
    go_loopg [5, 6] bs.length (fun k v u wr => ∃ q acc, k = bs.length - q ∧ u = .int .i64 ((q : Nat) : Int) ∧ RRel w bs v wr q acc)
    case atStart => exact ⟨0, [], rfl, rfl, Nat.zero_le _, .refl _ _, World.ownsRow_nil _ _ _ _, Nat.le_refl _, rfl⟩
    case round =>
      obtain ⟨q, acc, hk, rfl, hrel⟩ := hrel
      have HK := Lib.hid hk
      clear hk
      have hq := hrel.hq
      have hrel0 := Lib.hid hrel
      have hb1 : Bys wr A bs := hb.below hrel.bel
      by_cases hlt : q < bs.length
      · obtain ⟨ad, rfl, hc⟩ := hb1.out q hlt
        have hrb := bi_range bs[q]
        have hbl := blank_calls bs[q] wr
        cases hbk : isBlank bs[q] with
        | true =>
          rw [hbk] at hbl
          have HS := Lib.hid (toksAt_blank bs q hlt hbk)
          clear hbk
          generalize bs[q] = c at hc hrb hbl
          go_wp2_with (go_at_call 38; refine hbl.mono ?_; rintro e w' ⟨rfl, rfl⟩)
          go_roundg (bs.length - (q + 1))
          case measure => have := HK.out; omega
          case rel => exact ⟨q + 1, acc, rfl, by go_num, hrel.to (Nat.lt_succ_self _) hlt HS.out⟩
        | false =>
          rw [hbk] at hbl
          by_cases hsm : bi bs[q] = 59
          · have HS := Lib.hid (toksAt_semi bs q hlt hbk hsm)
            have hsn : (bi bs[q] != 10) = true := by rw [hsm]; rfl
            have f1 : (bi bs[q] == 59) = true := by simpa using hsm
            clear hbk
            generalize hcq : bs[q] = c at hc hrb hbl f1
            have HCQ := Lib.hid hcq
            clear hcq
            go_wp2_with (go_at_call 38; refine hbl.mono ?_; rintro e w' ⟨rfl, rfl⟩)
            clear hc hbl f1 hrb
            go_loop [6] (fun u => ∃ j : Nat, u = .int .i64 (j : Int) ∧ q ≤ j ∧ ∃ h : j ≤ bs.length, ∀ i, q ≤ i → ∀ h : i < j, (bi (bs[i]'(by omega)) != 10) = true) (fun u => bs.length - (intOf u).toNat)
            case atStart => exact ⟨q, rfl, Nat.le_refl _, hq, fun i h1 h2 => by omega⟩
            case round =>
              obtain ⟨j, rfl, hqj, hj, hall⟩ := hrel
              have HA := Lib.hid hall
              clear hall
              by_cases hlj : j < bs.length
              · obtain ⟨ad', e, hc⟩ := hb1.out j hlj
                cases e
                cases hn : (bi bs[j] != 10) with
                | true =>
                  have HN := Lib.hid hn
                  have hn2 := hn
                  clear hn
                  have HNX : Hid (∀ i, q ≤ i → ∀ h : i < j + 1, (bi (bs[i]'(by omega)) != 10) = true) := fun i h1 h2 => by
                    rcases Nat.lt_or_ge i j with h | h
                    · exact HA.out i h1 h
                    · have : i = j := by omega
                      subst this; exact HN.out
                  clear HN
                  generalize bs[j] = d at hc hn2
                  go_wp2
                  go_round
                  case rel => exact ⟨j + 1, by go_num, by omega, hlj, HNX.out⟩
                  case measure => simp [intOf]; omega
                | false =>
                  have HE := Lib.hid (HS.out j hqj hj HA.out (fun _ => hn))
                  have hlt2 : Hid (q < j) := by
                    show q < j
                    rcases Nat.lt_or_ge q j with h | h
                    · exact h
                    · have : q = j := by omega
                      subst this
                      rw [hsn] at hn; cases hn
                  clear HS hsn
                  generalize bs[j] = d at hc hn
                  go_wp2
                  go_roundg (bs.length - j)
                  case measure => have := HK.out; have := hlt2.out; omega
                  case rel => exact ⟨j, acc, rfl, rfl, hrel0.out.to hlt2.out hj HE.out⟩
              · obtain rfl : j = bs.length := by omega
                have HE := Lib.hid (HS.out bs.length hqj hj HA.out (fun h => absurd h (Nat.lt_irrefl _)))
                clear HS
                go_wp2
                go_roundg 0
                case measure => have := HK.out; omega
                case rel => exact ⟨bs.length, acc, by omega, rfl, hrel0.out.to hlt (Nat.le_refl _) HE.out⟩
          · have HE := Lib.hid (fun e (ht : tok bs[q] (bs.drop (q + 1)) = .err e) => toksAt_err bs q hlt hbk hsm ht)
            have HO := Lib.hid (fun k x n (ht : tok bs[q] (bs.drop (q + 1)) = .ok k x n) => toksAt_ok bs q hlt hbk hsm ht)
            have HL := Lib.hid (fun k x n (ht : tok bs[q] (bs.drop (q + 1)) = .ok k x n) => tok_len bs[q] (bs.drop (q + 1)) ht)
            have hdl : Hid ((bs.drop (q + 1)).length + 1 = bs.length - q) := by
              show _ = _
              rw [List.length_drop]; omega
            have hcall := Lib.hid (one_calls (some ad) cap q bs wr hb1 hlt hl2 hcap)
            have f1 : (bi bs[q] == 59) = false := by simpa using hsm
            clear hsm hbk
            generalize bs[q] = c at hc hrb hbl f1 HE HO HL hcall
            generalize tok c (bs.drop (q + 1)) = r at HE HO HL hcall
            go_wp2_with (first | (go_at_call 38; refine hbl.mono ?_; rintro e w' ⟨rfl, rfl⟩) | fail)
            refine hcall.out.mono ?_
            clear hcall hbl
            rintro e w2 ⟨hbw, v2, rfl, hro⟩
            have hbel2 : Below w.heap.size w w2 := gb_none (gb_trans (gb_below hrel.bel none) (gb_below hbw none))
            have hown2 := own_below hrel.own hbw
            cases r with
            | err c2 =>
              obtain ⟨hne, k, s, a, n, rfl⟩ := hro
              have hne2 : (c2 != 0) = true := by simpa using hne
              have HS := Lib.hid (hrel.spec.trans (congrArg (ahead acc) (HE.out c2 rfl)))
              clear HE HO HL hne
              go_wp2
              go_ret3
              rw [HX.out, HS.out]
              refine ⟨_, rfl, ?_, hbel2.alloc hbel2.size _⟩
              rw [ahead, List.append_nil]
              exact hown2.alloc _
            | ok k x n =>
              subst hro
              have HS := Lib.hid (hrel.spec.trans (congrArg (ahead acc) (HO.out k x n rfl)))
              obtain ⟨hn0, hn1⟩ := HL.out k x n rfl
              have hqn : q + n ≤ bs.length := by have := hdl.out; omega
              clear HE HO HL hn1
              go_wp2_with (at_builtin; refine append_one w.heap.size rfl _ _ 37 24 (.agg #[.int .u8 0, .string ⟨#[]⟩, .int .i64 0]) 3 32 rfl Tryd.underlying37 info_tok rfl (by omega) (by omega) _ acc.length (toksCells acc) #[.int .u8 k, .string (bstr x), .int .i64 ((q : Nat) : Int)] rfl (by rfl) _ (by rfl) (by simp) (tok_one k x q) (hown2.alloc _) (by have := hbel2.size; simp; omega) (by have := hrel.hacc; omega) ?_; intro v1 w3 hown3 hg3 hat3 hnil3)
              go_roundg (bs.length - (q + n))
              case measure => have := HK.out; omega
              case rel =>
                refine ⟨q + n, acc ++ [{ kind := k, text := x, at_ := q }], rfl, by go_num, hqn, ?_, ?_, ?_, ?_⟩
                · exact (hbel2.alloc hbel2.size (.cells #[.int .u8 k, .string (bstr x), .int .i64 ((q : Nat) : Int)] 24)).grown hg3 (by have := hbel2.size; simp; omega) (fun b hb => ((hown2.lt b hb).1))
                · rw [toksCells_snoc, List.length_append]
                  exact hown3
                · have := hrel.hacc; simp; omega
                · rw [HS.out]; simp [ahead]
      · obtain rfl : q = bs.length := by omega
        have HS := Lib.hid (hrel.spec.trans (by rw [toksAt_end]))
        go_wp2
        go_ret3
        rw [HX.out, HS.out]
        refine ⟨_, rfl, ?_, hrel.bel⟩
        rw [ahead, List.append_nil]
        exact hrel.own
end Go.Proofs.YtppbijbgnhmdaaaDoor

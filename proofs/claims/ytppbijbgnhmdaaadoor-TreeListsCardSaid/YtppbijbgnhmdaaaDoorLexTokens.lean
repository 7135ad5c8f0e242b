/- What Tokens of package lex hands back: the tokens that the plain function tells. -/
import Derived.Test.YtppbijbgnhmdaaaDoorLexToken
namespace Go.Proofs.YtppbijbgnhmdaaaDoor
open Go.RowKit

/-- A token's cells. -/
def tokCells (t : Tok) : List Value := [.int .u8 t.kind, .string (bstr t.text), .int .i64 ((t.at_ : Nat) : Int)]
def toksCells (l : List Tok) : List Value := l.flatMap tokCells
theorem toksCells_snoc (l : List Tok) (t : Tok) : toksCells (l ++ [t]) = toksCells l ++ tokCells t := by simp [toksCells]

/-- What Tokens hands back. -/
def LexPost (w : World) (r : List Tok × Nat × Int) (e : Ending) (w' : World) : Prop :=
  ∃ v, e = .returned (.tuple #[v, .int .i64 ((r.2.1 : Nat) : Int), .int .i64 r.2.2]) ∧ w'.ownsRow w.heap.size 24 3 v r.1.length (toksCells r.1) ∧ Below w.heap.size w w'

structure LRel (w : World) (g : Nat) (A : Option Addr) (cap : Nat) (bs : List UInt8) (v : Value) (wr : World) (q : Nat) (acc : List Tok) : Prop where
  hq : q ≤ bs.length
  rd : Rdr wr g A bs.length cap q
  bel : Below w.heap.size w wr
  own : wr.ownsRow w.heap.size 24 3 v acc.length (toksCells acc)
  hacc : acc.length ≤ q
  spec : toksAt bs 0 = ahead acc (toksAt bs q)

theorem own_ne {w : World} {g base : Nat} {A : Option Addr} {n cap q size m : Nat} {v : Value} {xs : List Value} (h : w.ownsRow base 24 size v m xs) (hr : Rdr w g A n cap q) : v.ownBlock ≠ some g := by
  rcases h.2 with ⟨rfl, _⟩ | ⟨g', c, cur, rfl, _, hh, _⟩
  · simp [Value.ownBlock]
  · intro e
    have e2 : g' = g := by simpa [Value.ownBlock] using e
    subst e2
    rw [hr.blk] at hh
    injection hh with hh
    injection hh with _ ht
    cases ht

theorem Bys.lt {w : World} {A : Option Addr} {bs : List UInt8} (h : Bys w A bs) (h0 : 0 < bs.length) : ∀ ad, A = some ad → ad.block < w.heap.size := fun ad e => by
  obtain ⟨ad', e', hc⟩ := h.out 0 h0
  obtain rfl : ad = ad' := Option.some.inj (e.symm.trans e')
  have hbk : (ad.add 0).block = ad.block := by unfold Addr.add; split <;> rfl
  have := World.block_lt_of_cell? w _ hc
  rw [hbk] at this; exact this
theorem Bys.below {w W : World} {A : Option Addr} {bs : List UInt8} (h : Bys w A bs) (hb : Below w.heap.size w W) : Bys W A bs := by
  constructor
  intro i hi
  obtain ⟨ad, e, hc⟩ := h.out i hi
  exact ⟨ad, e, (hb.cell (World.block_lt_of_cell? w _ hc)).trans hc⟩
theorem LRel.step {w : World} {g : Nat} {A : Option Addr} {cap : Nat} {bs : List UInt8} {v : Value} {wr : World} {q : Nat} {acc : List Tok} (h : LRel w g A cap bs v wr q acc) (hgw : w.heap.size ≤ g) {j : Nat} (hqj : q < j) (hj : j ≤ bs.length)
    (hs : toksAt bs q = toksAt bs j) {W : World} (hr : Rdr W g A bs.length cap j) (hgr : wr.grownBy W (some g)) : LRel w g A cap bs v W j acc :=
  ⟨hj, hr, h.bel.grown hgr h.bel.size (fun k hk => by injection hk; omega), h.own.kept hgr (.inr (own_ne h.own h.rd)), by have := h.hacc; omega, h.spec.trans (by rw [hs])⟩

structure SRel (wo : World) (g : Nat) (A : Option Addr) (cap : Nat) (bs : List UInt8) (q : Nat) (wi : World) (j : Nat) : Prop where
  hqj : q ≤ j
  hj : j ≤ bs.length
  rd : Rdr wi g A bs.length cap j
  gr : wo.grownBy wi (some g)
  all : ∀ i, q ≤ i → ∀ h : i < j, (bi (bs[i]'(by omega)) != 10) = true

theorem tok_one (k : Int) (x : List UInt8) (q : Nat) : ∀ u ∈ (#[Value.int .u8 k, .string (bstr x), .int .i64 ((q : Nat) : Int)] : Array Value).toList, u.oneCell' = true := by
  intro u hu
  simp at hu
  rcases hu with rfl | rfl | rfl <;> rfl

theorem info_tok : (Tryd.prog.info? 24).map (fun i => (i.zero, i.size, i.bytes)) = some (some (.agg #[.int .u8 0, .string ⟨#[]⟩, .int .i64 0]), 3, 32) := by kernel_rfl

set_option maxHeartbeats 8000000 in
set_option maxRecDepth 100000 in
theorem tokens_calls (A : Option Addr) (cap : Nat) (bs : List UInt8) (w : World) (hb : Bys w A bs) (hcap : bs.length ≤ cap) (hlen : bs.length ≤ 140737488351232) :
    Calls Tryd.prog 45 #[.slice A bs.length cap] w fun e w' => LexPost w (lexB bs) e w' := by
  by_cases hl : 1048576 < bs.length
  · have HX : Hid (lexB bs = ([], 0, 3)) := if_pos hl
    go_enter Tryd.func45, Tryd.ntmps45
    go_wp2
    go_ret3
    rw [HX.out]
    exact ⟨_, rfl, World.ownsRow_nil _ _ _ _, Below.refl _ _⟩
  · have hl2 : bs.length ≤ 1048576 := by omega
    have HX : Hid (lexB bs = toksAt bs 0) := if_neg hl
    clear hl
    have hcall := classes_calls w
    have hbd := Lib.hid (build_reader A bs.length cap)
    have hrow : Hid (∀ w1 : World, Rdr (w1.alloc (.cells (rdCells A bs.length cap 0) 91)) w1.heap.size A bs.length cap 0) := fun w1 => ⟨heap_alloc_new w1 _⟩
    generalize tabArr = T at *
    generalize rdCells A bs.length cap 0 = R at *
    go_enter Tryd.func45, Tryd.ntmps45
    go_wp2_with fail
    refine hcall.mono ?_
    rintro e w1 ⟨rfl, hb1⟩
    clear hcall
    go_wp2_with (refine wpList_build rfl 91 _ rfl #[(0, .agg T), (1, .slice A bs.length cap)] (by simp [Act.eval]) _ (hbd.out _) ?_)
    have hR := hrow.out w1
    have hB : Below w.heap.size w (w1.alloc (.cells R 91)) := hb1.alloc hb1.size _
    have hgw := hb1.size
    generalize w1.alloc (.cells R 91) = W at hR hB ⊢
    generalize w1.heap.size = g at hR hgw ⊢
    clear hbd hrow hb1
    go_loopg [6] bs.length (fun k v wr => ∃ q acc, k = bs.length - q ∧ LRel w g A cap bs v wr q acc)
    case atStart => exact ⟨0, [], rfl, Nat.zero_le _, hR, hB, World.ownsRow_nil _ _ _ _, Nat.le_refl _, rfl⟩
    case round =>
      obtain ⟨q, acc, hk, hrel⟩ := hrel
      have HK := Lib.hid hk
      clear hk
      have hq := hrel.hq
      have h1 := hrel.rd.at_
      have h2 := hrel.rd.b
      have h5 := hrel.rd.free 257
      have hb1 : Bys wr A bs := hb.below hrel.bel
      by_cases hlt : q < bs.length
      · have hg := hb.lt (by omega)
        have hgA : ∀ ad, A = some ad → ad.block ≠ g := fun ad e h => by have := hg ad e; omega
        obtain ⟨ad, rfl, hc⟩ := hb1.out q hlt
        have hrb := bi_range bs[q]
        have h3 := hrel.rd.tab bs[q]
        cases hbk : isBlank bs[q] with
        | true =>
          have HS := Lib.hid (toksAt_blank bs q hlt hbk)
          unfold isBlank at hbk
          generalize bs[q] = c at hc hrb h3 hbk
          go_wp2
          go_quiet (fail)
          go_wp2
          go_roundg (bs.length - (q + 1))
          case measure => have := HK.out; omega
          case rel => exact ⟨q + 1, acc, rfl, hrel.step hgw (Nat.lt_succ_self _) hlt HS.out ((hrel.rd.drewN _).set1) (gb_set (gb_drewN (World.grownBy.refl _ _) _) _ _)⟩
        | false =>
          by_cases hsm : bi bs[q] = 59
          · have HS := Lib.hid (toksAt_semi bs q hlt hbk hsm)
            unfold isBlank at hbk
            have f1 : (bi bs[q] == 59) = true := by simpa using hsm
            generalize bs[q] = c at hc hrb h3 hbk f1
            go_wp2
            go_quiet (fail)
            go_wp2
            obtain ⟨wo, rfl⟩ : ∃ wo : World, wo = wr := ⟨_, rfl⟩
            clear h1 h2 h3 h5 hc hbk f1 hrb
            go_loopg [] (bs.length - q) (fun k wi => ∃ j, k = bs.length - j ∧ SRel wo g (some ad) cap bs q wi j)
            case atStart => exact ⟨q, rfl, Nat.le_refl _, hq, hrel.rd.drewN _, gb_drewN (World.grownBy.refl _ _) _, fun i h1 h2 => by omega⟩
            case round =>
              obtain ⟨j, hk, hin⟩ := hrel
              have HJ := Lib.hid hk
              clear hk
              have hj := hin.hj
              have hqj := hin.hqj
              have h1 := hin.rd.at_
              have h5 := hin.rd.free 257
              have hb2 : Bys wr (some ad) bs := (hb1.kept hin.gr (fun a e => ⟨hgA a e, Nat.lt_of_lt_of_le (hg a e) hrel.bel.size⟩))
              by_cases hlj : j < bs.length
              · obtain ⟨ad', e, hc⟩ := hb2.out j hlj
                cases e
                cases hn : (bi bs[j] != 10) with
                | true =>
                  have HN := Lib.hid hn
                  have hn2 := hn
                  clear hn
                  have HNX : Hid (∀ i, q ≤ i → ∀ h : i < j + 1, (bi (bs[i]'(by omega)) != 10) = true) := fun i h1 h2 => by
                    rcases Nat.lt_or_ge i j with h | h
                    · exact hin.all i h1 h
                    · have : i = j := by omega
                      subst this; exact HN.out
                  clear HN
                  generalize bs[j] = d at hc hn2
                  go_wp2
                  go_roundg (bs.length - (j + 1))
                  case measure => have := HJ.out; omega
                  case rel => exact ⟨j + 1, rfl, by omega, hlj, hin.rd.set1, gb_set hin.gr _ _, HNX.out⟩
                | false =>
                  have HE := Lib.hid (HS.out j hqj hj hin.all (fun _ => hn))
                  have hlt2 : Hid (q < j) := by
                    rcases Nat.lt_or_ge q j with h | h
                    · exact h
                    · have : q = j := by omega
                      subst this
                      rw [hsm] at hn; cases hn
                  clear HS
                  generalize bs[j] = d at hc hn
                  go_wp2
                  go_roundg (bs.length - j)
                  case measure => have := HK.out; have := hlt2.out; omega
                  case rel => exact ⟨j, acc, rfl, hrel.step hgw hlt2.out hj HE.out hin.rd hin.gr⟩
              · obtain rfl : j = bs.length := by omega
                have HE := Lib.hid (HS.out bs.length hqj hj hin.all (fun h => absurd h (Nat.lt_irrefl _)))
                clear HS
                go_wp2
                go_roundg 0
                case measure => have := HK.out; omega
                case rel => exact ⟨bs.length, acc, by omega, hrel.step hgw hlt (Nat.le_refl _) HE.out hin.rd hin.gr⟩
          · have HE := Lib.hid (fun e (ht : tok bs[q] (bs.drop (q + 1)) = .err e) => toksAt_err bs q hlt hbk hsm ht)
            have HO := Lib.hid (fun k x n (ht : tok bs[q] (bs.drop (q + 1)) = .ok k x n) => toksAt_ok bs q hlt hbk hsm ht)
            have hcall := Lib.hid (fun m => token_calls g (some ad) cap q bs (wr.drewN m) (hrel.rd.drewN m) (hb1.drewN m) (fun a e => ⟨hgA a e, Nat.lt_of_lt_of_le (hg a e) hrel.bel.size⟩) hlt hl2 hcap)
            unfold isBlank at hbk
            have f1 : (bi bs[q] == 59) = false := by simpa using hsm
            clear hsm
            generalize bs[q] = c at hc hrb h3 hbk f1 HE HO hcall
            generalize tok c (bs.drop (q + 1)) = r at HE HO hcall
            go_wp2
            go_quiet (fail)
            go_wp2_with fail
            refine (hcall.out _).mono ?_
            clear hcall
            rintro e w2 ⟨hgr, hq2⟩
            have hbel2 : Below w.heap.size w w2 := (pw_drewN hrel.bel nq).grown hgr hrel.bel.size (fun k hk => by injection hk; omega)
            have hown2 := (own_drewN hrel.own nq).kept hgr (.inr (own_ne hrel.own hrel.rd))
            cases r with
            | err c2 =>
              obtain ⟨hne, ⟨k, s, a, rfl⟩, q2, hq3, hrd⟩ := hq2
              have hne2 : (c2 != 0) = true := by simpa using hne
              have HS := Lib.hid (hrel.spec.trans (congrArg (ahead acc) (HE.out c2 rfl)))
              clear HE HO hgr hne
              go_wp2
              go_ret3
              rw [HX.out, HS.out]
              refine ⟨_, rfl, ?_, hbel2.alloc hbel2.size _⟩
              rw [ahead, List.append_nil]
              exact hown2.alloc _
            | ok k x n =>
              obtain ⟨rfl, hqn, hn0, hrd⟩ := hq2
              have HS := Lib.hid (hrel.spec.trans (congrArg (ahead acc) (HO.out k x n rfl)))
              clear HE HO
              go_wp2_with (at_builtin; refine append_one w.heap.size rfl _ _ 37 24 (.agg #[.int .u8 0, .string ⟨#[]⟩, .int .i64 0]) 3 32 rfl Tryd.underlying37 info_tok rfl (by omega) (by omega) _ acc.length (toksCells acc) #[.int .u8 k, .string (bstr x), .int .i64 ((q : Nat) : Int)] rfl (by rfl) _ (by rfl) (by simp) (tok_one k x q) (hown2.alloc _) (by have := hbel2.size; simp; omega) (by have := hrel.hacc; omega) ?_; intro v1 w3 hown3 hg3 hat3 hnil3)
              go_roundg (bs.length - (q + n))
              case measure => have := HK.out; omega
              case rel =>
                refine ⟨q + n, acc ++ [{ kind := k, text := x, at_ := q }], rfl, hqn, ?_, ?_, ?_, ?_, ?_⟩
                · have hra := hrd.alloc (.cells #[.int .u8 k, .string (bstr x), .int .i64 ((q : Nat) : Int)] 24)
                  exact hra.kept (hg3.block g hra.lt (fun e => own_ne hown2 hrd e.symm))
                · exact (hbel2.alloc hbel2.size (.cells #[.int .u8 k, .string (bstr x), .int .i64 ((q : Nat) : Int)] 24)).grown hg3 (by have := hbel2.size; simp; omega) (fun b hb => ((hown2.lt b hb).1))
                · rw [toksCells_snoc, List.length_append]
                  exact hown3
                · have := hrel.hacc; simp; omega
                · rw [HS.out]; simp [ahead]
      · obtain rfl : q = bs.length := by omega
        have HS := Lib.hid (hrel.spec.trans (by rw [toksAt_end]))
        go_wp2
        go_ret3
        rw [HX.out, HS.out]
        refine ⟨_, rfl, ?_, hrel.bel⟩
        rw [ahead, List.append_nil]
        exact hrel.own
end Go.Proofs.YtppbijbgnhmdaaaDoor

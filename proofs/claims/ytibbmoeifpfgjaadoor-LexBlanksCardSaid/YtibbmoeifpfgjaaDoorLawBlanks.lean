/- The law LexBlanks: the walk. -/
import Derived.Test.YtibbmoeifpfgjaaDoorLawAlone
namespace Go.Proofs.YtibbmoeifpfgjaaDoor
open Go.RowKit

theorem bel_trans {a b c : World} (h : Below a.heap.size a b) (k : Below b.heap.size b c) : Below a.heap.size a c := gb_none (gb_trans (gb_below h none) (gb_below k none))
/-- The rows of blanks. -/
def blanksAt (n : Nat) : List UInt8 := if n = 0 then [32] else if n = 1 then [10] else if n = 2 then [9, 32, 13] else if n = 3 then [59, 32, 40, 97, 32, 124, 10] else [32, 59, 10, 10]
theorem blanks_between (n : Nat) : Between (blanksAt n) := by
  unfold blanksAt
  repeat' split
  · exact between0
  · exact between1
  · exact between2
  · exact between3
  · exact between4
theorem blanks_len (n : Nat) : (blanksAt n).length ≤ 7 := by
  unfold blanksAt
  repeat' split
  all_goals simp
/-- Which row stands behind the token i. -/
def blkOf (ys : List UInt8) (i : Nat) : List UInt8 := blanksAt ((ys.getD i 0).toNat % 5)

theorem joinB_append (blk : Nat → List UInt8) : ∀ (l r : List Tok) (j : Nat), joinB blk j (l ++ r) = joinB blk j l ++ joinB blk (j + l.length) r
  | [], r, j => by simp [joinB]
  | t :: l, r, j => by
    have e : j + (t :: l).length = j + 1 + l.length := by simp; omega
    rw [List.cons_append, e]
    simp only [joinB]
    rw [joinB_append blk l r (j + 1)]
    simp
theorem joinB_step (blk : Nat → List UInt8) (T : List Tok) (i : Nat) (h : i < T.length) : joinB blk 0 (T.take (i + 1)) = joinB blk 0 (T.take i) ++ retext (T[i]).kind (T[i]).text ++ blk i := by
  rw [List.take_succ_eq_append_getElem h, joinB_append]
  have : 0 + (T.take i).length = i := by simp; omega
  rw [this]
  simp [joinB]
theorem joinB_pre (blk : Nat → List UInt8) (T : List Tok) (i : Nat) : (joinB blk 0 (T.take i)).length ≤ (joinB blk 0 T).length := by
  have e := joinB_append blk (T.take i) (T.drop i) 0
  rw [List.take_append_drop] at e
  rw [e, List.length_append]; omega

/-- What is known of tokens written anew with blanks between. -/
structure Anew (T T2 : List Tok) (L : List UInt8) (q2 : Nat) (blk : Nat → List UInt8) : Prop where
  lex : lexB (joinB blk 0 T) = (T2, q2, 0)
  len : T2.length = T.length
  same : ∀ i, ∀ h : i < T.length, ∀ h2 : i < T2.length, (T2[i]).kind = (T[i]).kind ∧ (T2[i]).text = (T[i]).text
  cnt : T.length ≤ 2000
  size : (joinB blk 0 T).length ≤ 16000
  lens : ∀ i, ∀ h : i < T.length, ((T[i]).text).length ≤ 2000 ∧ (retext (T[i]).kind (T[i]).text).length ≤ 2000
theorem anew (bs : List UInt8) (blk : Nat → List UInt8) (hblk : ∀ i, Between (blk i)) (hlen : ∀ i, (blk i).length ≤ 7) (h : bs.length ≤ 2000) : ∃ T2 q2, Anew (lexB bs).1 T2 bs q2 blk := by
  obtain ⟨ha, hs, hc⟩ := lex_again bs (by omega)
  have hj := joinB_len blk 7 hlen (lexB bs).1 0
  have hsz : (joinB blk 0 (lexB bs).1).length ≤ 16000 := by
    have : 7 * (lexB bs).1.length ≤ 7 * 2000 := by omega
    omega
  obtain ⟨h0, hm⟩ := lex_between bs blk hblk (by omega) (by omega)
  have hl : (lexB (joinB blk 0 (lexB bs).1)).1.length = (lexB bs).1.length := by
    have := congrArg List.length hm
    simpa using this
  refine ⟨_, (lexB (joinB blk 0 (lexB bs).1)).2.1, ?_, hl, fun i h1 h2 => ?_, by omega, hsz, fun i h1 => ?_⟩
  · rw [← h0]
  · have e1 := congrArg (fun l => l[i]?) hm
    simp only [List.getElem?_map, List.getElem?_eq_getElem h1, List.getElem?_eq_getElem h2, Option.map_some, Option.some.injEq, Prod.mk.injEq] at e1
    exact e1
  · have hmem : (lexB bs).1[i] ∈ (lexB bs).1 := List.getElem_mem h1
    have h3 : (retext ((lexB bs).1[i]).kind ((lexB bs).1[i]).text).length ≤ 2000 := by
      have := le_sum (List.mem_map.2 ⟨_, hmem, rfl⟩ : (retext ((lexB bs).1[i]).kind ((lexB bs).1[i]).text).length ∈ (lexB bs).1.map fun t => (retext t.kind t.text).length)
      omega
    exact ⟨Nat.le_trans (retext_ge _ _) h3, h3⟩

set_option maxHeartbeats 8000000 in
set_option maxRecDepth 100000 in
theorem law_blanks (A B : Option Addr) (cap cap2 : Nat) (bs ys : List UInt8) (w : World) (hb : Bys w A bs) (hcap : bs.length ≤ cap) (hl : bs.length ≤ 140737488351232) (hy : Bys w B ys) (hly : ys.length ≤ 140737488351232) :
    Calls Tryd.prog 5 #[.slice A bs.length cap, .slice B ys.length cap2] w fun e w' => e = .returned (.bool true) ∧ Below w.heap.size w w' := by
  have hk := fun W => known_calls W
  by_cases h1 : 2000 < bs.length
  · have d1 : decide ((2000 : Int) < (bs.length : Int)) = true := by simp; omega
    go_enter Tryd.func5, Tryd.ntmps5
    go_wp2_with fail
    refine (hk _).mono ?_
    rintro e w' ⟨rfl, hbel⟩
    go_wp2
    go_ret
    exact ⟨rfl, hbel⟩
  · have d1 : decide ((2000 : Int) < (bs.length : Int)) = false := by simp; omega
    have htk := tokens_calls A cap bs w hb hcap hl
    go_enter Tryd.func5, Tryd.ntmps5
    go_wp2_with fail
    refine htk.mono ?_
    clear htk
    rintro e w2 ⟨v, rfl, hown, hb2⟩
    obtain ⟨T2, q2, hA⟩ := anew bs (blkOf ys) (fun i => blanks_between _) (fun i => blanks_len _) (by omega)
    generalize lexB bs = R at hown hA ⊢
    obtain ⟨T, q, er⟩ := R
    simp only at hown
    obtain ⟨A2, c2, rfl, hT⟩ := tks_new hown rfl
    simp only
    clear hown
    simp only at hA
    have HA := Lib.hid hA
    have hT2 : Hid (∀ W, Below w2.heap.size w2 W → Tks W A2 T) := fun W h => hT.below h
    have HB2 := Lib.hid hb2
    have HYS : Hid (∀ W, Below w.heap.size w W → Bys W B ys) := fun W h => hy.below h
    clear hA hT hb hcap hl hb2 hy
    go_wp2
    have hbl : Hid (∀ m, m < 5 → (w2.alloc (Obj.cells #[.string ⟨#[32]⟩, .string ⟨#[10]⟩, .string ⟨#[9, 32, 13]⟩, .string ⟨#[59, 32, 40, 97, 32, 124, 10]⟩, .string ⟨#[32, 59, 10, 10]⟩] 34)).cell? ⟨w2.heap.size, m, none⟩ = some (.string (bstr (blanksAt m)))) := fun m hm => by
      rw [World.cell?_alloc_mark]
      match m, hm with
      | 0, _ | 1, _ | 2, _ | 3, _ | 4, _ => rfl
      | n + 5, hm => omega
    have HW : Hid (Below w2.heap.size w2 (w2.alloc (Obj.cells #[.string ⟨#[32]⟩, .string ⟨#[10]⟩, .string ⟨#[9, 32, 13]⟩, .string ⟨#[59, 32, 40, 97, 32, 124, 10]⟩, .string ⟨#[32, 59, 10, 10]⟩] 34))) := (Below.refl _ w2).alloc (Nat.le_refl _) _
    generalize w2.alloc (Obj.cells #[.string ⟨#[32]⟩, .string ⟨#[10]⟩, .string ⟨#[9, 32, 13]⟩, .string ⟨#[59, 32, 40, 97, 32, 124, 10]⟩, .string ⟨#[32, 59, 10, 10]⟩] 34) = W1 at hbl HW ⊢
    go_loopw [9, 10] (fun v u wr => ∃ i : Nat, u = .int .i64 (i : Int) ∧ i ≤ T.length ∧ v = .string (bstr (joinB (blkOf ys) 0 (T.take i))) ∧ Below W1.heap.size W1 wr) (fun _ u _ => T.length - (intOf u).toNat)
    case atStart => exact ⟨0, rfl, Nat.zero_le _, rfl, .refl _ _⟩
    case round =>
      obtain ⟨i, rfl, hi, rfl, hbw⟩ := hrel
      have hcnt := HA.out.cnt
      by_cases hlt : i < T.length
      · have hb2r : Below w2.heap.size w2 wr := gb_none (gb_trans (gb_below HW.out none) (gb_below hbw none))
        obtain ⟨g, o, rfl, a0, a1, a2⟩ := (hT2.out wr hb2r).out i hlt
        obtain ⟨hx1, hx2⟩ := HA.out.lens i hlt
        have hs1 : (bstr (joinB (blkOf ys) 0 (T.take i))).size ≤ 16000 := Nat.le_trans (joinB_pre (blkOf ys) T i) HA.out.size
        have hs2 : (bstr (retext (T[i]).kind (T[i]).text)).size ≤ 2000 := hx2
        have HST := Lib.hid (joinB_step (blkOf ys) T i hlt)
        have htx := text_calls (T[i]).kind (T[i]).text (((T[i]).at_ : Nat) : Int) wr (Nat.le_trans hx1 (by omega))
        have HBW := Lib.hid hbw
        have HYR : Hid (∀ W, Below wr.heap.size wr W → Bys W B ys) := fun W h => HYS.out W (bel_trans (bel_trans HB2.out hb2r) h)
        have HCB : Hid (∀ W, Below wr.heap.size wr W → ∀ m, m < 5 → W.cell? ⟨w2.heap.size, m, none⟩ = some (.string (bstr (blanksAt m)))) := fun W h m hm => by
          have h1 := hbl.out m hm
          have h2 := (hbw.cell (World.block_lt_of_cell? W1 _ h1)).trans h1
          exact (h.cell (World.block_lt_of_cell? wr _ h2)).trans h2
        clear hx1 hx2 hb2r hbw
        generalize (T[i]).kind = k at *
        generalize (T[i]).text = x at *
        generalize (T[i]).at_ = p at *
        generalize retext k x = tx at *
        generalize joinB (blkOf ys) 0 (T.take i) = s0 at *
        go_wp2_with fail
        refine htx.mono ?_
        rintro e w3 ⟨rfl, hb3⟩
        have HB3 := Lib.hid (gb_none (gb_trans (gb_below HBW.out none) (gb_below hb3 none)))
        have hcb := HCB.out w3 hb3
        by_cases hiy : i < ys.length
        · obtain ⟨ad, rfl, hcy⟩ := (HYR.out w3 hb3).out i hiy
          have hblk : blkOf ys i = blanksAt ((ys[i]).toNat % 5) := by
            unfold blkOf
            rw [List.getD, List.getElem?_eq_getElem hiy]; rfl
          rw [hblk] at HST
          obtain ⟨m, hm, hm5⟩ : ∃ m, m = (ys[i]).toNat % 5 ∧ m < 5 := ⟨_, rfl, Nat.mod_lt _ (by omega)⟩
          have hrem : (bi ys[i]).tmod 5 = (m : Int) := by
            have h0 := (bi_range ys[i]).1
            rw [Int.tmod_eq_emod_of_nonneg h0, hm]
            unfold bi; omega
          have hry := bi_range ys[i]
          rw [← hm] at HST
          have hcm := hcb m hm5
          have hs3 : (bstr (blanksAt m)).size ≤ 7 := blanks_len m
          clear hcb htx hblk hm HYR
          generalize blanksAt m = bm at *
          generalize bi ys[i] = y at *
          go_wp2
          go_round
          case rel => exact ⟨i + 1, by go_num, hlt, by rw [HST.out, bstr_append, bstr_append], HB3.out⟩
          case measure => simp [intOf]; omega
        · have hblk : blkOf ys i = blanksAt 0 := by
            unfold blkOf
            rw [List.getD, List.getElem?_eq_none (by omega)]; rfl
          rw [hblk] at HST
          have hcm := hcb 0 (by omega)
          have hs3 : (bstr (blanksAt 0)).size ≤ 7 := blanks_len 0
          have hiy2 : decide ((i : Int) < (ys.length : Int)) = false := decide_eq_false (by omega)
          clear hcb htx hblk HYR
          generalize blanksAt 0 = bm at *
          go_wp2
          go_round
          case rel => exact ⟨i + 1, by go_num, hlt, by rw [HST.out, bstr_append, bstr_append], HB3.out⟩
          case measure => simp [intOf]; omega
      · obtain rfl : i = T.length := by omega
        rw [List.take_length]
        have hs1 : (bstr (joinB (blkOf ys) 0 T)).size ≤ 16000 := HA.out.size
        have hcv := conv_text (bstr (joinB (blkOf ys) 0 T))
        have hal : lexB (bl (bstr (joinB (blkOf ys) 0 T))) = (T2, q2, 0) := HA.out.lex
        have hst := string_tokens (bstr (joinB (blkOf ys) 0 T)) (by omega) _ hal
        clear hal
        generalize bstr (joinB (blkOf ys) 0 T) = s at *
        have HBR := Lib.hid (bel_trans HW.out hbw)
        clear hbl hbw HW
        go_wp2_with fail
        refine (hst wr _).mono ?_
        clear hst
        rintro e w4 ⟨⟨A4, c4, rfl, hT4⟩, hb4⟩
        have HL := HA.out.len
        have HSM := Lib.hid HA.out.same
        have HB4 := Lib.hid (bel_trans (bel_trans HB2.out HBR.out) hb4)
        have hT1 := hT2.out w4 (bel_trans HBR.out hb4)
        clear hb4 HBR hT2 HB2 HYS
        simp only
        rw [HL]
        have HTT : Hid (Tks w4 A4 T2 ∧ Tks w4 A2 T) := ⟨hT4, hT1⟩
        clear hT4 hT1
        go_wp2
        go_loopw [15] (fun v wr => ∃ i m, v = .int .i64 ((i : Nat) : Int) ∧ i ≤ T.length ∧ wr = w4.drewN m) (fun v _ => T.length - (intOf v).toNat)
        case atStart => exact ⟨0, 0, rfl, Nat.zero_le _, rfl⟩
        case round =>
          obtain ⟨j, m, rfl, hj, rfl⟩ := hrel
          by_cases hlj : j < T.length
          · obtain ⟨t1, t2⟩ := HTT.out
            obtain ⟨g, o, rfl, a0, a1, a2⟩ := t1.out j (by omega)
            obtain ⟨g', o', rfl, b0, b1, b2⟩ := t2.out j hlj
            obtain ⟨e0, e1⟩ := HSM.out j hlj (by omega)
            rw [e0] at a0
            rw [e1] at a1
            clear t1 t2 a2 b2 e0 e1
            generalize (T[j]).kind = k at *
            generalize (T[j]).text = x at *
            go_wp2
            go_quiet (fail)
            go_wp2
            go_round
            case rel => exact ⟨j + 1, _, by go_num, hlj, rfl⟩
            case measure => simp [intOf]; omega
          · obtain rfl : j = T.length := by omega
            go_wp2_with fail
            refine (hk _).mono ?_
            rintro e w' ⟨rfl, hbel⟩
            go_wp2
            go_ret
            exact ⟨rfl, bel_trans (pw_drewN HB4.out m) hbel⟩
end Go.Proofs.YtibbmoeifpfgjaaDoor

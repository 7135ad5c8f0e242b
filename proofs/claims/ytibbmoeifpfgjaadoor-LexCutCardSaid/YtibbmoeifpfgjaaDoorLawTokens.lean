/- The law LexTokens: the walk. -/
import Derived.Test.YtibbmoeifpfgjaaDoorLawKnown
import Derived.Laws.AppendOwnNone
namespace Go.Proofs.YtibbmoeifpfgjaaDoor
open Go.RowKit

theorem toks_count : ∀ (k p : Nat) (l : List UInt8), (toks k p l).1.length ≤ l.length
  | 0, p, l => by simp [toks]
  | k + 1, p, [] => by simp [toks]
  | k + 1, p, c :: r => by
    simp only [toks]
    split
    · have := toks_count k (p + 1) r; simp; omega
    · split
      · have h1 := toks_count k (p + ((c :: r).takeWhile (fun b => bi b != 10)).length) ((c :: r).dropWhile (fun b => bi b != 10))
        have h2 := (List.dropWhile_sublist (fun b => bi b != 10) (l := c :: r)).length_le
        omega
      · cases ht : tok c r with
        | err e => simp
        | ok kd x n =>
          have h1 := toks_count k (p + n) ((c :: r).drop n)
          have h2 := tok_len c r ht
          simp only [List.length_drop, List.length_cons] at h1 ⊢
          omega
theorem lex_count (bs : List UInt8) : (lexB bs).1.length ≤ bs.length := by
  unfold lexB
  split
  · simp
  · have := toks_count (bs.length - 0) 0 (bs.drop 0)
    simpa [toksAt] using this

theorem info_byte2 : ∃ i, Tryd.prog.info? 5 = some i ∧ i.zero = some (.int .u8 0) ∧ i.size = 1 ∧ i.bytes = 1 := by
  have h := info_byte
  obtain ⟨i, hi, hz⟩ := Option.map_eq_some_iff.1 h
  simp only [Prod.mk.injEq] at hz
  exact ⟨i, hi, hz.1, hz.2.1, hz.2.2⟩

/-- append(v, x...) of bytes, v the call's own, x any slice of bytes. -/
theorem append_bys {ops : Array Oper} {rest : List Oper} {o : Oper} {a : Act} {Q : Exit → Act → World → Prop} {W : World} (base : Nat) (hgd : o.guard = none) (s x : Operand)
    (ho : o.op = .call { callee := .builtin .append, args := #[s, x], argTypes := #[22, 22] })
    (v : Value) (l : List UInt8) (hs : a.eval s = v) (HO : W.ownsRow base 5 1 v l.length (cellsOf l)) (A : Option Addr) (c : Nat) (bs : List UInt8) (hx : a.eval x = .slice A bs.length c) (hA : Bys W A bs) (hnil : A = none → bs = [] ∧ c = 0)
    (hbase : base ≤ W.heap.size) (hl : l.length + bs.length ≤ 140737488355328)
    (h : ∀ v1 w1, w1.ownsRow base 5 1 v1 (l.length + bs.length) (cellsOf (l ++ bs)) → W.grownBy w1 v.ownBlock → wpList Tryd.prog ops Q rest (a.put o.dst v1) w1) :
    wpList Tryd.prog ops Q (o :: rest) a W := by
  obtain ⟨i0, hi, hz0, hz1, hz2⟩ := info_byte2
  cases A with
  | none =>
    obtain ⟨rfl, rfl⟩ := hnil rfl
    refine wpList_append_own_none hgd s x 22 ho base 5 i0 1 Tryd.underlying22 hi v _ _ hs HO hx (h v W ?_ (World.grownBy.refl _ _))
    rw [List.append_nil]; exact HO
  | some ad =>
    refine wpList_append_own W hgd s x 22 ho base 5 i0 _ 1 1 Tryd.underlying22 hi hz0 hz1 hz2 rfl Nat.one_pos v _ _ hs HO ad bs.length c (cellsOf bs) hx (by simp [cellsOf]) ?_ ?_ (by simp only [maxLen]; omega) (by omega) hbase ?_
    · intro j u hj
      have hjl : j < bs.length := by
        rcases Nat.lt_or_ge j bs.length with h | h
        · exact h
        · simp [cellsOf, List.getElem?_eq_none h] at hj
      obtain ⟨ad', e, hc⟩ := hA.out j hjl
      cases e
      simp [cellsOf, List.getElem?_eq_getElem hjl] at hj
      subst hj
      exact hc
    · intro u hu
      obtain ⟨b, _, rfl⟩ := List.mem_map.1 hu
      rfl
    · intro v1 w1 h1 h2 _
      refine h v1 w1 ?_ h2
      have e : cellsOf (l ++ bs) = cellsOf l ++ cellsOf bs := by simp [cellsOf]
      rw [e]; exact h1

theorem own_empty (w : World) : (w.alloc (.cells #[] 5)).ownsRow w.heap.size 5 1 (.slice (some ⟨w.heap.size, 0, none⟩) 0 0) 0 (cellsOf []) :=
  ⟨rfl, .inr ⟨_, 0, _, rfl, Nat.le_refl _, heap_alloc_new w _, Nat.le_refl _, by simp [maxLen], rfl, rfl⟩⟩

theorem run_head (W : World) (A : Option Addr) (n cap q : Nat) (hqc : q ≤ cap) :
    (Instr.slice 22 (.slice A n cap) none (some (.int .i64 ((q : Nat) : Int))) none).run Tryd.prog W = .ok (.slice A q cap) W := by
  have hs : (sizeOf (Tryd.prog.elem 22)).run Tryd.prog W = .ok 1 W := by kernel_rfl
  rw [run_slice_h W 22 A n cap (by kernel_rfl) .i64 q (by omega) (by omega), hs]
  have e : A.map (fun x => x.add 0) = A := by cases A <;> simp [Addr.add]
  simp [Result.andThen, sliced]
  exact fun _ => e

/-- The call's own copy of the bytes, and a byte behind it. -/
structure InRow (w W : World) (g cap : Nat) (bs : List UInt8) (x : UInt8) : Prop where
  bel : Below w.heap.size w W
  hg : w.heap.size ≤ g
  hc : bs.length + 1 ≤ cap
  out : ∃ cur, W.heap[g]? = some (.cells cur 5 (0, 0)) ∧ cur.size = cap ∧ cur[bs.length]? = some (.int .u8 (bi x)) ∧ ∀ i, ∀ h : i < bs.length, cur[i]? = some (.int .u8 (bi bs[i]))
theorem inRow {w W : World} {v : Value} {bs : List UInt8} {x : UInt8} {n : Nat} (hb : Below w.heap.size w W) (h : W.ownsRow w.heap.size 5 1 v n (cellsOf (bs ++ [x]))) (hn : n = bs.length + 1) : ∃ g cap, v = .slice (some ⟨g, 0, none⟩) (bs.length + 1) cap ∧ InRow w W g cap bs x := by
  subst hn
  rcases h.2 with ⟨_, h0⟩ | ⟨g, cap, cur, rfl, hbg, hg, hc, hs, hz, ht⟩
  · omega
  · refine ⟨g, cap, rfl, hb, hbg, hc, cur, hg, by omega, ?_, ?_⟩
    · have h2 : (cur.toList.take ((bs.length + 1) * 1))[bs.length]? = (cellsOf (bs ++ [x]))[bs.length]? := by rw [ht]
      rw [List.getElem?_take, if_pos (by omega)] at h2
      simpa [cellsOf] using h2
    · intro i hi
      have h2 : (cur.toList.take ((bs.length + 1) * 1))[i]? = (cellsOf (bs ++ [x]))[i]? := by rw [ht]
      rw [List.getElem?_take, if_pos (by omega)] at h2
      have h3 : i < (bs ++ [x]).length := by simp; omega
      have h4 : (cellsOf (bs ++ [x]))[i]? = some (.int .u8 (bi bs[i])) := by
        simp only [cellsOf, List.getElem?_map, List.getElem?_append_left hi, List.getElem?_eq_getElem hi]; rfl
      rw [h4] at h2
      simpa using h2
theorem InRow.bys {w W : World} {g cap : Nat} {bs : List UInt8} {x : UInt8} (h : InRow w W g cap bs x) : Bys W (some ⟨g, 0, none⟩) bs := ⟨fun i hi => by
  obtain ⟨cur, hg, hs, _, hc⟩ := h.out
  refine ⟨_, rfl, ?_⟩
  have e : (⟨g, 0, none⟩ : Addr).add i = ⟨g, i, none⟩ := by unfold Addr.add; split <;> simp_all
  rw [e, cell_of_row W g i cur _ _ hg]
  exact hc i hi⟩
theorem InRow.last {w W : World} {g cap : Nat} {bs : List UInt8} {x : UInt8} (h : InRow w W g cap bs x) : W.cell? ⟨g, bs.length, none⟩ = some (.int .u8 (bi x)) := by
  obtain ⟨cur, hg, hs, hc, _⟩ := h.out
  rw [cell_of_row W g _ cur _ _ hg]; exact hc
theorem InRow.lt {w W : World} {g cap : Nat} {bs : List UInt8} {x : UInt8} (h : InRow w W g cap bs x) : g < W.heap.size := by
  obtain ⟨cur, hg, _⟩ := h.out
  exact lt_of_block hg
theorem InRow.below {w W W2 : World} {g cap : Nat} {bs : List UInt8} {x : UInt8} (h : InRow w W g cap bs x) (hb : Below W.heap.size W W2) : InRow w W2 g cap bs x := by
  have hlt := h.lt
  obtain ⟨cur, hg, r⟩ := h.out
  exact ⟨gb_none (gb_trans (gb_below h.bel none) (gb_below hb none)), h.hg, h.hc, cur, (hb.block g hlt).trans hg, r⟩

theorem in_below {w w1 w2 : World} {v : Value} {n : Nat} {l : List UInt8} (h1 : (w.alloc (.cells #[] 5)).grownBy w1 (some w.heap.size)) (ho : w1.ownsRow w.heap.size 5 1 v n (cellsOf l)) (h2 : w1.grownBy w2 v.ownBlock) : Below w.heap.size w w2 := by
  have hb : Below w.heap.size w w1 := ((Below.refl _ w).alloc (Nat.le_refl _) _).grown h1 (by simp) (fun k hk => by injection hk; omega)
  exact hb.grown h2 hb.size (fun k hk => (ho.lt k hk).1)
theorem own77 {w w2 : World} {v : Value} {n : Nat} {l : List UInt8} (h : w2.ownsRow w.heap.size 5 1 v n (cellsOf l ++ (#[Value.int .u8 77] : Array Value).toList)) : w2.ownsRow w.heap.size 5 1 v n (cellsOf (l ++ [77])) := by
  have e : cellsOf (l ++ [77]) = cellsOf l ++ (#[Value.int .u8 77] : Array Value).toList := by simp [cellsOf]; rfl
  rw [e]; exact h

theorem tks_other {w W : World} {A : Option Addr} {l : List Tok} {g : Nat} (h : Tks w A l) (hg : w.grownBy W (some g)) (hne : ∀ g' o, A = some ⟨g', o, none⟩ → g' ≠ g) : Tks W A l := ⟨fun i hi => by
  obtain ⟨g', o, e, h0, h1, h2⟩ := h.out i hi
  have hlt := World.block_lt_of_cell? w _ h0
  have hn := hne g' o e
  have hc : ∀ k, W.cell? ⟨g', k, none⟩ = w.cell? ⟨g', k, none⟩ := fun k => World.cell?_of_block (hg.block g' hlt (fun e => hn (by injection e)))
  exact ⟨g', o, e, (hc _).trans h0, (hc _).trans h1, (hc _).trans h2⟩⟩

set_option maxHeartbeats 4000000 in
theorem law_tokens (A : Option Addr) (cap : Nat) (bs : List UInt8) (w : World) (hb : Bys w A bs) (hcap : bs.length ≤ cap) (hl : bs.length ≤ 140737488351232) (hn : A = none → bs = [] ∧ cap = 0) :
    Calls Tryd.prog 3 #[.slice A bs.length cap] w fun e w' => e = .returned (.bool true) ∧ Below w.heap.size w w' := by
  by_cases h1 : 20000 < bs.length ∧ bs.length ≤ 1048576
  · have hk := known_calls w
    have d1 : decide ((20000 : Int) < (bs.length : Int)) = true := by simp; omega
    have d2 : decide ((bs.length : Int) ≤ 1048576) = true := by simp; omega
    go_enter Tryd.func3, Tryd.ntmps3
    go_wp2_with fail
    refine hk.mono ?_
    rintro e w' ⟨rfl, hbel⟩
    go_wp2
    go_ret
    exact ⟨rfl, hbel⟩
  · have HN := Lib.hid hn
    clear hn
    have hd : decide ((20000 : Int) < (bs.length : Int)) = false ∨ (decide ((20000 : Int) < (bs.length : Int)) = true ∧ decide ((bs.length : Int) ≤ 1048576) = false) := by
      rcases (show bs.length ≤ 20000 ∨ 1048576 < bs.length from by omega) with h2 | h2
      · exact .inl (by simp; omega)
      · exact .inr ⟨by simp; omega, by simp; omega⟩
    clear h1
    rcases hd with d1 | ⟨d1, d2⟩
    all_goals
      go_enter Tryd.func3, Tryd.ntmps3
      go_wp2_with (first | (at_builtin; refine append_bys w.heap.size rfl _ _ rfl _ [] rfl (own_empty w) A cap bs rfl (hb.alloc _) HN.out (by simp) (by simp; omega) ?_; intro v1 w1 hown1 hg1; (rw [List.length_nil, Nat.zero_add, List.nil_append] at hown1); (replace hg1 : (w.alloc (.cells #[] 5)).grownBy w1 (some w.heap.size) := hg1)) | (at_builtin; refine append_one w.heap.size rfl _ _ 22 5 (.int .u8 0) 1 1 rfl Tryd.underlying22 info_byte rfl (by omega) (by omega) v1 bs.length (cellsOf bs) #[.int .u8 77] rfl rfl w1.heap.size rfl rfl (by simp; rfl) hown1 (by have := hg1.size; simp at this; omega) (by omega) ?_; intro v2 w2 hown2 hg2 hat2 hnil2; (obtain ⟨g, cap2, rfl, hin⟩ := inRow (x := 77) (in_below hg1 hown1 hg2) (own77 hown2) rfl); (have hsl := fun W => run_head W (some ⟨g, 0, none⟩) (bs.length + 1) cap2 bs.length (by have := hin.hc; omega))))
      have hcount := lex_count bs
      clear hown2 hat2 hnil2 hown1 hg1 hg2
      refine (tokens_calls (some ⟨g, 0, none⟩) cap2 bs w2 hin.bys (by have := hin.hc; omega) hl).mono ?_
      rintro e w3 ⟨v3, rfl, hown3, hbel3⟩
      have hin3 := hin.below hbel3
      have hw3 : w.heap.size ≤ w3.heap.size := hin3.bel.size
      have hb3 := hb.below hin3.bel
      have hrt := rtokens_calls A cap bs w3 hb3 hcap hl
      generalize lexB bs = R at hcount hown3 hrt ⊢
      obtain ⟨T, q, er⟩ := R
      simp only at hcount hown3
      obtain ⟨A3, c3, rfl, hT3, hb3'⟩ := own_tks hown3 rfl
      go_wp2_with fail
      refine hrt.mono ?_
      rintro e w4 ⟨v4, rfl, hown4, hbel4⟩
      obtain ⟨A4, c4, rfl, hT4, hb4'⟩ := own_tks hown4 rfl
      have hin4 := hin3.below hbel4
      have hb4 := hb.below hin4.bel
      have hT34 := hT3.below hbel4
      clear hrt hown3 hown4
      simp only
      go_wp2_with fail
      refine (same_calls A3 A4 c3 c4 T w4 hT34 hT4 (by omega)).mono ?_
      rintro e w5 ⟨rfl, m, rfl⟩
      have hcv1 := fun k => conv_bys (w4.drewN k) (some ⟨g, 0, none⟩) bs.length cap2 bs rfl (hin4.bys.drewN k)
      have hcv2 := fun k => conv_bys (w4.drewN k) A bs.length cap bs rfl (hb4.drewN k)
      have hsl2 := fun W => run_head W (some ⟨g, 0, none⟩) bs.length cap2 (bs.length + 1) hin4.hc
      simp only [Int.natCast_add, Int.natCast_one] at hsl2
      have hlast := hin4.last
      have hlast2 : (bi 77) = 77 := rfl
      rw [hlast2] at hlast
      go_wp2_with (go_quiet (fail))
      have hcur := hin4.out
      clear hcv1 hcv2 hsl hsl2 hlast hlast2
      have hTk : ∀ wr, w4.grownBy wr (some g) → Tks wr A3 T ∧ Tks wr A4 T := fun wr hgr => ⟨tks_other hT34 hgr (fun g' o e => by have := (hb3' g' o e).1; have := hin.lt; omega), tks_other hT4 hgr (fun g' o e => by have := (hb4' g' o e).1; have := hin3.lt; omega)⟩
      have HTK := Lib.hid hTk
      have HB4 := Lib.hid hin4.bel
      have HGW := Lib.hid hin4.hg
      have HTC : Hid (T.length ≤ 140737488351232) := Nat.le_trans hcount hl
      clear hTk hT3 hT4 hT34 hb3' hb4' hin hin3 hin4 hbel3 hbel4 hb3 hb4 hcount hw3
      go_loopw [10] (fun v wr => ∃ (i : Nat) (cur : Array Value), v = .int .i64 (i : Int) ∧ i ≤ bs.length ∧ w4.grownBy wr (some g) ∧ wr.heap[g]? = some (.cells cur 5 (0, 0)) ∧ cur.size = cap2 ∧ ∀ j, j < bs.length → ∃ z, cur[j]? = some (.int .u8 z)) (fun v _ => bs.length - (intOf v).toNat)
      case atStart =>
        obtain ⟨cur, e1, e2, _, e3⟩ := hcur
        exact ⟨0, cur, rfl, Nat.zero_le _, gb_drewN (World.grownBy.refl _ _) _, e1, e2, fun j hj => ⟨_, e3 j hj⟩⟩
      case round =>
        obtain ⟨i, cur, rfl, hi, hgr, hblk, hsz, hall⟩ := hrel
        by_cases hlt : i < bs.length
        · obtain ⟨z, hz⟩ := hall i hlt
          have hcell : wr.cell? ⟨g, i, none⟩ = some (.int .u8 z) := by rw [cell_of_row wr g i cur _ _ hblk]; exact hz
          have hfr : wr.frozen? ⟨g, i, none⟩ = false := by simp [World.frozen?, hblk]
          have HR : Hid (∀ z' : Int, w4.grownBy (wr.setCell ⟨g, i, none⟩ (.int .u8 z')) (some g) ∧ (wr.setCell ⟨g, i, none⟩ (.int .u8 z')).heap[g]? = some (.cells (cur.setIfInBounds i (.int .u8 z')) 5 (0, 0)) ∧ (cur.setIfInBounds i (.int .u8 z')).size = cap2 ∧ ∀ j, j < bs.length → ∃ z, (cur.setIfInBounds i (.int .u8 z'))[j]? = some (.int .u8 z)) := fun z' =>
            ⟨gb_set hgr _ _, heap_setCell_at hblk, by simpa using hsz, fun j hj => by
              by_cases hij : i = j
              · subst hij
                obtain ⟨z, hz⟩ := hall i hj
                have : i < cur.size := (Array.getElem?_eq_some_iff.1 hz).1
                exact ⟨z', by simp [this]⟩
              · obtain ⟨z, hz⟩ := hall j hj
                exact ⟨z, by simpa [Array.getElem?_setIfInBounds, hij] using hz⟩⟩
          clear hall hz hblk hgr
          go_wp2
          go_round
          case rel => exact ⟨i + 1, _, by go_num, hlt, HR.out _⟩
          case measure => simp [intOf]; omega
        · obtain rfl : i = bs.length := by omega
          obtain ⟨t3, t4⟩ := HTK.out wr hgr
          have hbw : Below w.heap.size w wr := HB4.out.grown hgr HB4.out.size (fun k hk => by injection hk; have := HGW.out; omega)
          have HBW := Lib.hid hbw
          clear hall hblk hsz hbw
          go_wp2_with fail
          refine (same_calls A3 A4 c3 c4 T wr t3 t4 HTC.out).mono ?_
          rintro e w5 ⟨rfl, m2, rfl⟩
          go_wp2_with fail
          refine (known_calls _).mono ?_
          rintro e w6 ⟨rfl, hb6⟩
          go_wp2
          go_ret
          exact ⟨rfl, gb_none (gb_trans (gb_below (pw_drewN HBW.out m2) none) (gb_below hb6 none))⟩
end Go.Proofs.YtibbmoeifpfgjaaDoor

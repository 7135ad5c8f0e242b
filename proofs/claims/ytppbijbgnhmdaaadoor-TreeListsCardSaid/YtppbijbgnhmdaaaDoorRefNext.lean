/- The reference's Next and All. -/
import Derived.Test.YtppbijbgnhmdaaaDoorRefTree
namespace Go.Proofs.YtppbijbgnhmdaaaDoor
open Go.RowKit Forest

/-- What Next hands back. -/
def NextPost (w : World) (r : Tr × Int × Int) (e : Ending) (w' : World) : Prop :=
  ∃ A c, e = .returned (.tuple #[r.1.v A c, .int .i64 r.2.1, .int .i64 r.2.2]) ∧ r.1.F.len ≤ c ∧ c ≤ maxLen ∧ LiesB (fun b => w.heap.size ≤ b) w' r.1.F A 0 ∧ Below w.heap.size w w'
theorem fin3 {fn : Func} (hf : fn.results = #[.cell 4 27, .tmp 5, .tmp 6]) {ac : Act} {W : World} {g : Nat} {cs : Array Value} {n e : Value} {R : Ending → World → Prop} (hd : ac.defers = []) (h4 : ac.tmps.getD 4 undef = .pointer (some ⟨g, 0, none⟩)) (h5 : ac.tmps.getD 5 undef = n) (h6 : ac.tmps.getD 6 undef = e)
    (hblk : W.heap[g]? = some (.cells cs 27 (0, 0))) (hs : cs.size = 5) (h : R (.returned (.tuple #[.agg cs, n, e])) W) : bodyPost Tryd.prog fn R Exit.ret ac W := by
  have hl := run_loadVar_row (P := Tryd.prog) W g 27 27 cs (0, 0) _ hblk Tryd.underlying27 rfl (by rw [hs]; kernel_rfl)
  have h4' : ac.tmps[4]?.getD undef = .pointer (some ⟨g, 0, none⟩) := by simpa using h4
  have h5' : ac.tmps[5]?.getD undef = n := by simpa using h5
  have h6' : ac.tmps[6]?.getD undef = e := by simpa using h6
  have hr : (results fn ac.tmps).run Tryd.prog W = .ok (.tuple #[.agg cs, n, e]) W := by
    simp [results, hf, h4', h5', h6', asAddr, hl]
  exact bodyPost_ret hr hd h
theorem zero_post (w : World) (n e : Int) : NextPost w (zeroTr, n, e) (.returned (.tuple #[.agg #[.bool false, .int .u8 0, .string ⟨#[]⟩, .int .i64 0, .slice none 0 0], .int .i64 n, .int .i64 e])) (w.alloc (.cells #[.bool false, .int .u8 0, .string ⟨#[]⟩, .int .i64 0, .slice none 0 0] 27)) :=
  ⟨none, 0, rfl, Nat.le_refl _, Nat.zero_le _, trivial, (Below.refl _ w).alloc (Nat.le_refl _) _⟩

set_option maxHeartbeats 4000000 in
set_option maxRecDepth 100000 in
theorem rnext_calls (l : List TokI) (A : Option Addr) (c : Nat) (frm : Int) (w : World) (hT : TksI w A l) (hc : l.length ≤ c) (hcm : c ≤ maxLen) (hl : l.length ≤ 1048576) :
    Calls Tryd.prog 18 #[.slice A l.length c, .int .i64 frm] w (NextPost w (nextS l frm)) := by
  have hf : Tryd.f18.results = #[.cell 4 27, .tmp 5, .tmp 6] := rfl
  by_cases hneg : frm < 0
  · have HN : Hid (nextS l frm = (zeroTr, frm, 2)) := by show _ = _; unfold nextS; rw [if_pos (.inl hneg)]
    rw [HN.out]
    have d0 : decide (frm < 0) = true := by simpa using hneg
    go_enter Tryd.func18, Tryd.ntmps18
    go_wp2
    exact fin3 hf rfl rfl rfl rfl (heap_alloc_new w _) rfl (zero_post w _ _)
  · have d0 : decide (frm < 0) = false := by simpa using hneg
    by_cases hgt : (l.length : Int) < frm
    · have HN : Hid (nextS l frm = (zeroTr, frm, 2)) := by show _ = _; unfold nextS; rw [if_pos (.inr hgt)]
      rw [HN.out]
      have d1 : decide ((l.length : Int) < frm) = true := by simpa using hgt
      go_enter Tryd.func18, Tryd.ntmps18
      go_wp2
      exact fin3 hf rfl rfl rfl rfl (heap_alloc_new w _) rfl (zero_post w _ _)
    · obtain ⟨p, rfl⟩ := Int.eq_ofNat_of_zero_le (show 0 ≤ frm by omega)
      have d1 : decide ((l.length : Int) < (p : Int)) = false := by simpa using hgt
      by_cases hlt : p < l.length
      · have hdr := drop_at l p hlt
        have hS0 := nextS_nat l p (Nat.le_of_lt hlt)
        rw [hdr] at hS0
        have d2 : ((p : Int) == (l.length : Int)) = false := by simp; omega
        obtain ⟨g, o, rfl, h0, h1, h2⟩ := hT.out p hlt
        have n0 := cell_alloc h0 (.cells #[.bool false, .int .u8 0, .string ⟨#[]⟩, .int .i64 0, .slice none 0 0] 27)
        have hb0 : Below w.heap.size w (w.alloc (.cells #[.bool false, .int .u8 0, .string ⟨#[]⟩, .int .i64 0, .slice none 0 0] 27)) := (Below.refl _ w).alloc (Nat.le_refl _) _
        have hi0 : (0 : Int) ≤ (p : Int) := Int.natCast_nonneg _
        have hi1 : (p : Int) < (l.length : Int) := by omega
        by_cases k2 : l[p].kind = 2
        · rw [nextT_close _ _ _ _ k2] at hS0
          rw [hS0]
          clear hS0 hdr hT
          generalize l[p].kind = k at *
          subst k2
          go_enter Tryd.func18, Tryd.ntmps18
          go_wp2
          exact fin3 hf rfl rfl rfl rfl (heap_alloc_new w _) rfl (zero_post w _ _)
        · have e2 : (l[p].kind == 2) = false := by simpa using k2
          have hcallE := end_calls (some ⟨g, o, none⟩) c l p _ (hT.below hb0) (by omega) (by omega)
          have hen := endR_one l[p] (l.drop (p + 1)) p k2
          have HTB := Lib.hid (hT.below hb0)
          rw [← hdr] at hen
          cases hone : oneL (l[p] :: l.drop (p + 1)) with
          | none =>
            rw [nextT_short _ _ _ _ k2 hone] at hS0
            rw [hdr, hone] at hen
            simp only at hen
            rw [← hdr] at hen
            rw [hS0]
            rw [hen] at hcallE
            clear hS0 hdr hT hen hone k2
            generalize l[p].kind = k at *
            go_enter Tryd.func18, Tryd.ntmps18
            go_wp2_with fail
            refine hcallE.mono ?_
            clear hcallE
            rintro e w1 ⟨rfl, rfl⟩
            have dE : decide (endV none < 0) = true := rfl
            go_wp2
            exact fin3 hf rfl rfl rfl rfl (heap_alloc_new w _) rfl (zero_post w _ _)
          | some q =>
            obtain ⟨T, j⟩ := q
            have hj := oneL_le hone
            have hpj : p + j ≤ l.length := by have := hj.2; simp at this; omega
            rw [nextT_one _ _ _ _ k2 hone] at hS0
            have hmo := mostR_one _ _ k2 hone
            rw [hdr, hone] at hen
            simp only at hen
            rw [← hdr] at hen hone hmo
            have hlt2 : ((l.drop p).take j).length = j := by simp; omega
            have hEV : endV (endR (l.drop p) 0 p) = (p : Int) + (j : Int) := by rw [hen]; simp [endV]
            rw [hEV] at hcallE
            have hsl := fun W => run_subT W g o l.length c p (p + j) (by omega) (by omega)
            simp only [Nat.add_sub_cancel_left, Int.natCast_add] at hsl
            have hcM := most_calls (some ⟨g, o + p * 3, none⟩) (c - p) ((l.drop p).take j) _ (HTB.out.sub p j) (by rw [hlt2]; omega)
            rw [hmo, hlt2] at hcM
            have dE : decide ((p : Int) + (j : Int) < 0) = false := by simp; omega
            clear hen hEV hmo hdr
            by_cases hdeep : 200 < depF T.f
            · rw [if_pos hdeep] at hS0
              rw [hS0]
              have dD : decide ((200 : Int) < ((depF T.f : Nat) : Int)) = true := by simp; omega
              clear hS0 hT hone k2 hlt2 hdeep
              generalize l[p].kind = k at *
              generalize depF T.f = D at *
              go_enter Tryd.func18, Tryd.ntmps18
              go_wp2_with fail
              refine hcallE.mono ?_
              clear hcallE
              rintro e w1 ⟨rfl, rfl⟩
              go_wp2_with fail
              refine hcM.mono ?_
              rintro e w1 ⟨rfl, rfl⟩
              go_wp2
              exact fin3 hf rfl rfl rfl rfl (heap_alloc_new w _) rfl (zero_post w _ _)
            · rw [if_neg hdeep] at hS0
              rw [hS0]
              have dD : decide ((200 : Int) < ((depF T.f : Nat) : Int)) = false := by simp; omega
              have hcT := rtree_calls j ((l.drop p).take j) T (some ⟨g, o + p * 3, none⟩) (c - p) _ (by rw [hlt2]; exact Nat.le_refl _) (by rw [hlt2]; exact oneL_take hone) (HTB.out.sub p j) (by rw [hlt2]; omega) (by omega) (by rw [hlt2]; omega)
              rw [hlt2] at hcT
              clear hS0 hT hone k2 hlt2 hdeep
              generalize l[p].kind = k at *
              generalize depF T.f = D at *
              go_enter Tryd.func18, Tryd.ntmps18
              go_wp2_with fail
              refine hcallE.mono ?_
              clear hcallE
              rintro e w1 ⟨rfl, rfl⟩
              go_wp2_with fail
              refine hcM.mono ?_
              rintro e w1 ⟨rfl, rfl⟩
              go_wp2_with fail
              refine hcT.mono ?_
              rintro e w2 ⟨A2, c2, rfl, q1, q2, q3, hb2⟩
              have hnew := heap_alloc_new w (.cells #[.bool false, .int .u8 0, .string ⟨#[]⟩, .int .i64 0, .slice none 0 0] 27)
              have hblk := (hb2.block _ (lt_of_block hnew)).trans hnew
              have cq : ∀ j u, (#[.bool false, .int .u8 0, .string ⟨#[]⟩, .int .i64 0, .slice none 0 0] : Array Value)[j]? = some u → w2.cell? ⟨w.heap.size, j, none⟩ = some u := fun j u hj => by
                rw [cell_of_row w2 w.heap.size j _ _ _ hblk]; exact hj
              have z0 := cq 0 _ rfl
              have z1 := cq 1 _ rfl
              have z2 := cq 2 _ rfl
              have z3 := cq 3 _ rfl
              have z4 := cq 4 _ rfl
              have r0 := frozen_of_row w2 w.heap.size 0 _ _ hblk
              have r1 := frozen_of_row w2 w.heap.size 1 _ _ hblk
              have r2 := frozen_of_row w2 w.heap.size 2 _ _ hblk
              have r3 := frozen_of_row w2 w.heap.size 3 _ _ hblk
              have r4 := frozen_of_row w2 w.heap.size 4 _ _ hblk
              have hb9 := Lib.hid (bel_trans hb0 hb2)
              have hq9 : Hid (LiesB (fun b => w.heap.size + 1 ≤ b) w2 T.F A2 0) := q3.imp (fun b hb => by rw [World.size_alloc] at hb; exact hb)
              have HB := Lib.hid hblk
              clear cq hnew hblk hcT hcM hb2 q3
              simp only [Tr.v]
              go_wp2
              exact fin3 hf rfl rfl rfl rfl (set5 HB.out rfl _ _ _ _ _) rfl ⟨A2, c2, rfl, q1, q2, (hq9.out.kept (kept_set5 (by omega) _ _ _ _ _)).imp (fun b hb => by omega), below_set5 hb9.out (Nat.le_refl _) _ _ _ _ _⟩
      · obtain rfl : p = l.length := by omega
        have hS0 := nextS_nat l l.length (Nat.le_refl _)
        rw [List.drop_eq_nil_of_le (Nat.le_refl _)] at hS0
        rw [hS0]
        clear hS0
        have d2 : ((l.length : Int) == (l.length : Int)) = true := by simp
        go_enter Tryd.func18, Tryd.ntmps18
        go_wp2
        exact fin3 hf rfl rfl rfl rfl (heap_alloc_new w _) rfl (zero_post w _ _)
end Go.Proofs.YtppbijbgnhmdaaaDoor

/- The reference's deep and All. -/
namespace Go.Proofs.YtppbijbgnhmdaaaDoor
open Go.RowKit Forest

/-- append(v, t) of one tree, v the call's own: behind at_builtin; the goal's world is the box of t over W. -/
theorem append_tree {ops : Array Oper} {rest : List Oper} {o : Oper} {a : Act} {Q : Exit → Act → World → Prop} {W : World} (base : Nat) (hgd : o.guard = none) (s x : Operand)
    (ho : o.op = .call { callee := .builtin .append, args := #[s, x], argTypes := #[25, 25] })
    (v : Value) (D : Forest) (HO : Own W base v D) (T : Tr) (A : Option Addr) (c : Nat) (h1 : T.F.len ≤ c) (h2 : c ≤ maxLen) (h3 : LiesB (fun b => base ≤ b ∧ v.ownBlock ≠ some b) W T.F A 0)
    (hs : a.eval s = v) (H : Nat) (hx : a.eval x = .slice (some ⟨H, 0, none⟩) 1 1) (hH : H = W.heap.size) (hbase : base ≤ W.heap.size) (hl : D.len + 1 ≤ 2199023255552)
    (h : ∀ v1 w1, Own w1 base v1 (D.app T.f) → W.grownBy w1 v.ownBlock → wpList Tryd.prog ops Q rest (a.put o.dst v1) w1) :
    wpList Tryd.prog ops Q (o :: rest) a (W.alloc (.cells #[.bool T.l, .int .u8 T.k, .string (bstr T.x), .int .i64 T.a, .slice A T.F.len c] 27)) := by
  obtain ⟨vs, o1, o2⟩ := HO.out
  refine append_one base hgd s x 25 27 _ 5 64 ho Tryd.underlying25 info_tree rfl (by omega) (by omega) v D.len vs #[.bool T.l, .int .u8 T.k, .string (bstr T.x), .int .i64 T.a, .slice A T.F.len c] rfl hs H hx hH (by simp [Value.oneCell']) o1 hbase (by omega) ?_
  intro v1 w1 hown hg hat _
  refine h v1 w1 (HO.snoc hbase h1 h2 h3 (fun vs' ho' _ => ?_) hg hat) hg
  obtain rfl := ownsRow_one ho' o1
  exact hown

set_option maxHeartbeats 2000000 in
theorem deep_calls (w : World) : Calls Tryd.prog 37 #[] w (GivesTree w deepTr) := by
  go_enter Tryd.func37, Tryd.ntmps37
  go_wp2
  refine bodyPost_ret (results_cell_row rfl _ _ w.heap.size 27 _ (0, 0) _ rfl ((Below.heap_alloc _ _ _ (by simp)).trans (heap_alloc_new w _)) Tryd.underlying27 rfl (by kernel_rfl)) rfl ⟨some ⟨w.heap.size + 1, 0, none⟩, 1, rfl, Nat.le_refl _, by simp [maxLen], ?_, below_two w _ _⟩
  have hc := fun j => World.cell?_alloc_mark (w.alloc (.cells #[.bool true, .int .u8 1, .string ⟨#[40]⟩, .int .i64 0, .slice (some ⟨w.heap.size + 1, 0, none⟩) 1 1] 27)) #[.bool false, .int .u8 7, .string ⟨#[100, 101, 101, 112]⟩, .int .i64 0, .slice none 0 0] 27 (0, 0) j
  rw [World.size_alloc] at hc
  exact ⟨⟨w.heap.size + 1, 0, rfl, by omega, hc 0, hc 1, hc 2, hc 3, none, 0, hc 4, Nat.le_refl _, Nat.zero_le _, trivial⟩, trivial⟩

/-- What All hands back. -/
def AllPost (w : World) (r : Forest × Nat × Int) (e : Ending) (w' : World) : Prop :=
  ∃ A c, e = .returned (.tuple #[.slice A r.1.len c, .int .i64 ((r.2.1 : Nat) : Int), .int .i64 r.2.2]) ∧ r.1.len ≤ c ∧ c ≤ maxLen ∧ LiesB (fun b => w.heap.size ≤ b) w' r.1 A 0 ∧ Below w.heap.size w w'

/-- What has come in a call of All. -/
structure AllAt (w : World) (l : List TokI) (p : Nat) (v : Value) (D : Forest) (W : World) : Prop where
  hp : p ≤ l.length
  own : Own W w.heap.size v D
  bel : Below w.heap.size w W
  spec : (D.app (allL (l.drop p) p).1, (allL (l.drop p) p).2) = allL l 0
  few : D.len ≤ p
theorem AllAt.post {w : World} {l : List TokI} {p : Nat} {v : Value} {D : Forest} {W : World} (h : AllAt w l p v D W) {q : Nat} {e : Int} (he : allL (l.drop p) p = (.nil, q, e)) :
    ∀ W2, Below W.heap.size W W2 → AllPost w (allL l 0) (.returned (.tuple #[v, .int .i64 (q : Int), .int .i64 e])) W2 := fun W2 hb => by
  have hs := h.spec
  rw [he, Forest.app_nil] at hs
  rw [← hs]
  obtain ⟨A, c, rfl, q1, q2, q3⟩ := (h.own.below hb).trees
  exact ⟨A, c, rfl, q1, q2, q3, bel_trans h.bel hb⟩

theorem AllAt.far {w : World} {l : List TokI} {p : Nat} {v : Value} {D : Forest} {W : World} (h : AllAt w l p v D W) : ∀ b, W.heap.size ≤ b → w.heap.size ≤ b ∧ v.ownBlock ≠ some b := fun b hb => ⟨Nat.le_trans h.bel.size hb, fun e => by
  obtain ⟨vs, o, _⟩ := h.own.out
  have := (o.lt b e).2
  omega⟩
theorem AllAt.next {w : World} {l : List TokI} {p : Nat} {v v1 : Value} {D : Forest} {W W2 w1 : World} {T : Tr} {j : Nat} (h : AllAt w l p v D W) (hp : p + j ≤ l.length) (hj : 0 < j) (hb : Below W.heap.size W W2) (ho : Own w1 w.heap.size v1 (D.app T.f)) (hg : W2.grownBy w1 v.ownBlock)
    (hs : allL (l.drop p) p = (T.f.app (allL (l.drop (p + j)) (p + j)).1, (allL (l.drop (p + j)) (p + j)).2)) : AllAt w l (p + j) v1 (D.app T.f) w1 := by
  refine ⟨hp, ho, (bel_trans h.bel hb).grown hg (bel_trans h.bel hb).size (fun k e => ?_), ?_, ?_⟩
  · obtain ⟨vs, o, _⟩ := h.own.out
    exact (o.lt k e).1
  · have := h.spec
    rw [hs] at this
    rw [Forest.app_assoc]; exact this
  · have := h.few
    rw [Forest.len_app, Tr.len_f]; omega

set_option maxHeartbeats 4000000 in
set_option maxRecDepth 100000 in
theorem rall_calls (l : List TokI) (A : Option Addr) (c : Nat) (w : World) (hT : TksI w A l) (hc : l.length ≤ c) (hcm : c ≤ maxLen) (hl : l.length ≤ 1048576) :
    Calls Tryd.prog 20 #[.slice A l.length c] w (AllPost w (allL l 0)) := by
  go_enter Tryd.func20, Tryd.ntmps20
  go_wp2
  go_loopw [5, 6] (fun v u wr => ∃ (p : Nat) (D : Forest) (A' : Option Addr) (c' : Nat), v = .slice A' D.len c' ∧ u = .int .i64 (p : Int) ∧ AllAt w l p (.slice A' D.len c') D wr) (fun _ u _ => l.length - (intOf u).toNat)
  case atStart => exact ⟨0, .nil, none, 0, rfl, rfl, Nat.zero_le _, Own.nil _ _, .refl _ _, rfl, Nat.le_refl _⟩
  case round =>
    obtain ⟨p, D, A', c', rfl, rfl, hat⟩ := hrel
    have hp := hat.hp
    by_cases hlt : p < l.length
    · have hn := rnext_calls l A c (p : Int) wr (hT.below hat.bel) hc hcm hl
      have hS0 := nextS_nat l p hp
      have hdr := drop_at l p hlt
      rw [hdr] at hS0
      have HAT := Lib.hid hat
      have d1 : decide ((p : Int) < (l.length : Int)) = true := by simp; omega
      by_cases k2 : l[p].kind = 2
      · rw [hS0, nextT_close _ _ _ _ k2] at hn
        have he : allL (l.drop p) p = (.nil, p, 41) := by rw [hdr]; exact allL_close _ _ _ k2
        have hfin := Lib.hid (hat.post he)
        clear hat hS0 hdr k2 he
        go_wp2_with fail
        refine hn.mono ?_
        clear hn
        rintro e w2 ⟨A2, c2, rfl, q1, q2, q3, hb2⟩
        simp only [Tr.v]
        go_wp2
        go_ret3
        exact hfin.out _ (hb2.alloc hb2.size _)
      · cases hone : oneL (l[p] :: l.drop (p + 1)) with
        | none =>
          rw [hS0, nextT_short _ _ _ _ k2 hone] at hn
          have he : allL (l.drop p) p = (.nil, p, 4) := by rw [hdr]; exact allL_short _ _ _ k2 hone
          have hfin := Lib.hid (hat.post he)
          clear hat hS0 hdr k2 he hone
          go_wp2_with fail
          refine hn.mono ?_
          clear hn
          rintro e w2 ⟨A2, c2, rfl, q1, q2, q3, hb2⟩
          simp only [Tr.v]
          go_wp2
          go_ret3
          exact hfin.out _ (hb2.alloc hb2.size _)
        | some q =>
          obtain ⟨T, j⟩ := q
          have hj := oneL_le hone
          have hpj : p + j ≤ l.length := by have := hj.2; simp at this; omega
          have he := allL_one _ _ p k2 hone
          rw [hS0, nextT_one _ _ _ _ k2 hone] at hn
          rw [← hdr, List.drop_drop] at he
          have hfew := hat.few
          have hbel := hat.bel
          by_cases hdeep : 200 < depF T.f
          · rw [if_pos hdeep] at hn he
            have HE := Lib.hid he
            have hown := hat.own
            clear hat hS0 hdr k2 he hone hdeep
            have hdc := Lib.hid deep_calls
            go_wp2_with fail
            refine hn.mono ?_
            clear hn
            rintro e w2 ⟨A2, c2, rfl, q1, q2, q3, hb2⟩
            simp only [Tr.v]
            go_wp2_with fail
            have hB3 : Below wr.heap.size wr (w2.alloc (.cells #[.bool zeroTr.l, .int .u8 zeroTr.k, .string (bstr zeroTr.x), .int .i64 zeroTr.a, .slice A2 zeroTr.F.len c2] 27)) := hb2.alloc hb2.size _
            refine (hdc.out _).mono ?_
            rintro e w3 ⟨A3, c3, rfl, r1, r2, r3, hb3⟩
            have hB4 := bel_trans hB3 hb3
            have hB3s := hB3.size
            simp only [Tr.v]
            go_wp2_with (at_builtin; (refine append_tree w.heap.size rfl _ _ rfl (.slice A' D.len c') D (hown.below hB4) deepTr A3 c3 r1 r2 (r3.imp (fun b hb => HAT.out.far b (by omega))) rfl w3.heap.size rfl rfl (by have := hB4.size; have := hbel.size; omega) (by omega) ?_; intro v1 w1 ho1 hg1; (obtain ⟨A1, c1, rfl, _⟩ := ho1.trees)))
            go_round
            case rel => exact ⟨p + j, D.app deepTr.f, A1, c1, rfl, by go_num, HAT.out.next hpj hj.1 hB4 ho1 hg1 HE.out⟩
            case measure => simp [intOf]; omega
          · rw [if_neg hdeep] at hn he
            have HE := Lib.hid he
            have hown := hat.own
            clear hat hS0 hdr k2 he hone hdeep
            go_wp2_with fail
            refine hn.mono ?_
            clear hn
            rintro e w2 ⟨A2, c2, rfl, q1, q2, q3, hb2⟩
            simp only [Tr.v]
            have hB3 : Below wr.heap.size wr (w2.alloc (.cells #[.bool T.l, .int .u8 T.k, .string (bstr T.x), .int .i64 T.a, .slice A2 T.F.len c2] 27)) := hb2.alloc hb2.size _
            have q4 := q3.kept ((KeptB.refl _ w2).alloc (.cells #[.bool T.l, .int .u8 T.k, .string (bstr T.x), .int .i64 T.a, .slice A2 T.F.len c2] 27))
            have hz3 : (w2.alloc (.cells #[.bool T.l, .int .u8 T.k, .string (bstr T.x), .int .i64 T.a, .slice A2 T.F.len c2] 27)).heap.size = w2.heap.size + 1 := World.size_alloc _ _
            have HZ3 := Lib.hid hz3
            clear hz3
            go_wp2_with (at_builtin; (refine append_tree w.heap.size rfl _ _ rfl (.slice A' D.len c') D (hown.below hB3) T A2 c2 q1 q2 (q4.imp (fun b hb => HAT.out.far b hb)) rfl _ rfl (by simp) (by have := hB3.size; have := hbel.size; omega) (by omega) ?_; intro v1 w1 ho1 hg1; (obtain ⟨A1, c1, rfl, _⟩ := ho1.trees)))
            go_round
            case rel => exact ⟨p + j, D.app T.f, A1, c1, rfl, by go_num, HAT.out.next hpj hj.1 hB3 ho1 hg1 HE.out⟩
            case measure => simp [intOf]; omega
    · obtain rfl : p = l.length := by omega
      have d1 : decide ((l.length : Int) < (l.length : Int)) = false := by simp
      have he : allL (l.drop l.length) l.length = (.nil, l.length, 0) := by rw [List.drop_eq_nil_of_le (Nat.le_refl _)]; rfl
      have hfin := Lib.hid (hat.post he)
      clear hat he
      go_wp2
      go_ret3
      exact hfin.out _ (.refl _ _)
end Go.Proofs.YtppbijbgnhmdaaaDoor


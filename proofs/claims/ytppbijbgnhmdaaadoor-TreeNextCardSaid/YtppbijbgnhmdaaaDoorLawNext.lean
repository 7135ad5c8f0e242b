/- The law that the trees of all tokens are those that Next tells one behind the other. -/
import Derived.Test.YtppbijbgnhmdaaaDoorLawTexts
namespace Go.Proofs.YtppbijbgnhmdaaaDoor
open Go.RowKit Forest

/-- A tree more. -/
theorem allL_step {l : List TokI} {p : Nat} {F : Forest} {a : Nat} {e : Int} (hp : p ≤ l.length) (h : allL (l.drop p) p = (F, a, e)) (hne : F ≠ .nil) :
    ∃ (T : Tr) (j : Nat) (F2 : Forest), 0 < j ∧ p + j ≤ l.length ∧ nextS l (p : Int) = (if 200 < depF T.f then (zeroTr, (p : Int) + j, 40) else (T, (p : Int) + j, 0)) ∧
      F = (if 200 < depF T.f then deepTr else T).f.app F2 ∧ allL (l.drop (p + j)) (p + j) = (F2, a, e) := by
  rw [nextS_nat l p hp]
  cases hd : l.drop p with
  | nil =>
    rw [hd, allL_nil] at h
    cases h
    exact absurd rfl hne
  | cons t r =>
    rw [hd] at h
    have hlen : (t :: r).length = l.length - p := by rw [← hd, List.length_drop]
    by_cases hk : t.kind = 2
    · rw [allL_close t r p hk] at h
      cases h
      exact absurd rfl hne
    · cases hq : oneL (t :: r) with
      | none =>
        rw [allL_short t r p hk hq] at h
        cases h
        exact absurd rfl hne
      | some q =>
        obtain ⟨T, j⟩ := q
        rw [allL_one t r p hk hq] at h
        have hj := oneL_le hq
        have hdd : (t :: r).drop j = l.drop (p + j) := by rw [← hd, List.drop_drop]
        rw [hdd] at h
        obtain ⟨F2, a2, e2⟩ : Forest × Nat × Int := allL (l.drop (p + j)) (p + j)
        have h1 : F = (if 200 < depF T.f then deepTr else T).f.app (allL (l.drop (p + j)) (p + j)).1 := (congrArg Prod.fst h).symm
        have h2 : (allL (l.drop (p + j)) (p + j)).2 = (a, e) := congrArg Prod.snd h
        refine ⟨T, j, (allL (l.drop (p + j)) (p + j)).1, by omega, by omega, nextT_one t r p l.length hk hq, h1, ?_⟩
        rw [← h2]
/-- No tree more. -/
theorem allL_end {l : List TokI} {p : Nat} {a : Nat} {e : Int} (hp : p ≤ l.length) (h : allL (l.drop p) p = (.nil, a, e)) : a = p ∧ ((e = 0 ∧ p = l.length) ∨ (e ≠ 0 ∧ ∃ T n, nextS l (p : Int) = (T, n, e))) := by
  rw [nextS_nat l p hp]
  cases hd : l.drop p with
  | nil =>
    rw [hd, allL_nil] at h
    cases h
    have := congrArg List.length hd
    rw [List.length_drop] at this
    simp at this
    exact ⟨rfl, .inl ⟨rfl, by omega⟩⟩
  | cons t r =>
    rw [hd] at h
    by_cases hk : t.kind = 2
    · rw [allL_close t r p hk] at h
      cases h
      exact ⟨rfl, .inr ⟨by decide, _, _, nextT_close t r _ _ hk⟩⟩
    · cases hq : oneL (t :: r) with
      | none =>
        rw [allL_short t r p hk hq] at h
        cases h
        exact ⟨rfl, .inr ⟨by decide, _, _, nextT_short t r _ _ hk hq⟩⟩
      | some q =>
        obtain ⟨T, j⟩ := q
        rw [allL_one t r p hk hq] at h
        have h1 := congrArg Prod.fst h
        simp only at h1
        split at h1 <;> cases h1
set_option maxHeartbeats 1000000 in
set_option maxRecDepth 100000 in
theorem law_next (l : List TokI) (A : Option Addr) (c : Nat) (w : World) (hv : Var0 w) (hT : TksI w A l) (hc : l.length ≤ c) (hcm : c ≤ maxLen) :
    Calls Tryd.prog 7 #[.slice A l.length c] w fun e w' => e = .returned (.bool true) ∧ Below w.heap.size w w' := by
  have hl9 : l.length ≤ 9223372036854775807 := Nat.le_trans hc hcm
  by_cases h1000 : 1000 < l.length
  · have d0 : decide ((1000 : Int) < (l.length : Int)) = true := by simp; omega
    have KN := Lib.hid (known_calls w hv)
    clear h1000
    go_enter Tryd.func7, Tryd.ntmps7
    go_wp2_with (go_at_call 9; refine KN.out.mono ?_; rintro e w1 ⟨rfl, hb1⟩)
    go_ret
    exact ⟨rfl, hb1⟩
  · have d0 : decide ((1000 : Int) < (l.length : Int)) = false := by simp; omega
    have hll : l.length ≤ 1048576 := by omega
    obtain ⟨R, hR⟩ : ∃ R, R = allL l 0 := ⟨_, rfl⟩
    have ta := tall_calls l A c w hT hc hcm hll
    rw [← hR] at ta
    obtain ⟨F, at_, er⟩ := R
    have HR : Hid (allL (l.drop 0) 0 = (F, at_, er)) := hR.symm
    have TA := Lib.hid ta
    clear ta hR h1000
    go_enter Tryd.func7, Tryd.ntmps7
    go_wp2_with fail
    refine TA.out.mono ?_
    rintro e w1 ⟨B, d, rfl, hd1, hd2, hF1, hb1⟩
    dsimp only at hd1 hF1 ⊢
    have hFl := hF1.lies
    clear TA hF1
    go_wp2
    go_loopw [6, 7] (fun v u wr => ∃ (p i : Nat) (F' : Forest), v = .int .i64 (p : Int) ∧ u = .int .i64 (i : Int) ∧ i + F'.len = F.len ∧ Lies wr F' B i ∧ p ≤ l.length ∧ Hid (allL (l.drop p) p = (F', at_, er)) ∧ Below w.heap.size w wr) (fun _ u _ => F.len - (intOf u).toNat)
    case atStart => exact ⟨0, 0, F, rfl, rfl, Nat.zero_add _, hFl, Nat.zero_le _, HR, hb1⟩
    case round =>
      obtain ⟨p, i, F', rfl, rfl, hlF, hLF, hp, HA, hbw⟩ := hrel
      have hn := tnext_calls l A c (p : Int) wr (hT.below hbw) hc hcm hll
      have HBW := Lib.hid hbw
      have HV : Hid (∀ W, Below w.heap.size w W → Var0 W) := fun W h => hv.below h
      cases F' with
      | nil =>
        obtain ⟨hap, hcase⟩ := allL_end hp HA.out
        have hil : i = F.len := by simpa [Forest.len] using hlF
        subst hap hil
        obtain ⟨R2, hR2⟩ : ∃ R2, R2 = nextS l (at_ : Int) := ⟨_, rfl⟩
        rw [← hR2] at hn
        obtain ⟨T2, n2, e2⟩ := R2
        have hc2 : er = 0 ∧ at_ = l.length ∨ er ≠ 0 ∧ e2 = er := hcase.imp id (fun ⟨q, T3, n3, h3⟩ => ⟨q, by rw [h3] at hR2; exact (Prod.mk.inj (Prod.mk.inj hR2).2).2⟩)
        have d1 : decide ((F.len : Int) < (F.len : Int)) = false := by simp
        clear hR2 hcase HA hLF hlF hp hv hbw hT hb1 hFl HR hd1 hd2
        rcases hc2 with ⟨rfl, rfl⟩ | ⟨hne, rfl⟩
        · go_wp2_with (first | (go_at_call 17; refine hn.mono ?_; rintro e w3 ⟨A3, c3, rfl, q1, q2, q3, hb3⟩; simp only [Tr.v]; have hb4 := bel_trans HBW.out (hb3.alloc hb3.size (.cells #[.bool T2.l, .int .u8 T2.k, .string (bstr T2.x), .int .i64 T2.a, .slice A3 T2.F.len c3] 27))) | (go_at_call 9; refine (known_calls _ (HV.out _ hb4)).mono ?_; rintro e w5 ⟨rfl, hb5⟩; have hbw5 := bel_trans hb4 hb5))
          go_ret
          exact ⟨rfl, hbw5⟩
        · have d2 : (e2 == 0) = false := by simpa using hne
          go_wp2_with (first | (go_at_call 17; refine hn.mono ?_; rintro e w3 ⟨A3, c3, rfl, q1, q2, q3, hb3⟩; simp only [Tr.v]; have hb4 := bel_trans HBW.out (hb3.alloc hb3.size (.cells #[.bool T2.l, .int .u8 T2.k, .string (bstr T2.x), .int .i64 T2.a, .slice A3 T2.F.len c3] 27))) | (go_at_call 9; refine (known_calls _ (HV.out _ hb4)).mono ?_; rintro e w5 ⟨rfl, hb5⟩; have hbw5 := bel_trans hb4 hb5))
          go_ret
          exact ⟨rfl, hbw5⟩
      | cons l1 k1 x1 a1 kids rest =>
        obtain ⟨T, j, F2, hj, hpj, hN, hF2, hA2⟩ := allL_step hp HA.out (by simp)
        have hlt : i < F.len := by simp [Forest.len] at hlF; omega
        have d1 : decide ((i : Int) < (F.len : Int)) = true := by simp; omega
        have d4 : decide ((p : Int) + (j : Int) ≤ (p : Int)) = false := by simp; omega
        have hi9 : i < 9223372036854775807 := by unfold maxLen at hd2; omega
        have hrl : i + 1 + rest.len = F.len := by simp [Forest.len] at hlF; omega
        rw [hN] at hn
        by_cases hdeep : 200 < depF T.f
        · rw [if_pos hdeep] at hn
          rw [if_pos hdeep] at hF2
          have hrest : rest = F2 := by
            simp only [Tr.f, app, Forest.cons.injEq] at hF2
            exact hF2.2.2.2.2.2
          subst hrest
          have HA3 := Lib.hid hA2
          have hLr := hLF.2
          clear hA2 hF2 hN HA hLF hlF hdeep hv hT hb1 hFl HR hd1 hd2 hbw
          have HL : Hid (∀ W, Below wr.heap.size wr W → Lies W rest B (i + 1)) := fun W h => hLr.below h
          clear hLr
          go_wp2_with (first | (go_at_call 17; refine hn.mono ?_; rintro e w3 ⟨A3, c3, rfl, q1, q2, q3, hb3⟩; simp only [Tr.v]))
          have hb4 : Below wr.heap.size wr (w3.alloc (.cells #[.bool zeroTr.l, .int .u8 zeroTr.k, .string (bstr zeroTr.x), .int .i64 zeroTr.a, .slice A3 zeroTr.F.len c3] 27)) := hb3.alloc hb3.size _
          go_quiet (fail)
          go_wp2
          have hb5 := pw_drewN hb4 nq
          go_round
          case rel => exact ⟨p + j, i + 1, rest, by go_num, by go_num, hrl, HL.out _ hb5, hpj, HA3, bel_trans HBW.out hb5⟩
          case measure => simp [intOf]; omega
        · rw [if_neg hdeep] at hn
          rw [if_neg hdeep] at hF2
          simp only [Tr.f, app, Forest.cons.injEq] at hF2
          obtain ⟨rfl, rfl, rfl, rfl, rfl, rfl⟩ := hF2
          have HA3 := Lib.hid hA2
          obtain ⟨⟨g, o, rfl, h0, h1, h2, h3, A', c', h4, h5, h6, h7⟩, hLr⟩ := hLF
          have HL : Hid (∀ W, Below wr.heap.size wr W → Lies W rest (some ⟨g, o, none⟩) (i + 1) ∧ Lies W T.F A' 0 ∧ W.cell? ⟨g, o + i * 5, none⟩ = some (.bool T.l) ∧ W.cell? ⟨g, o + i * 5 + 1, none⟩ = some (.int .u8 T.k) ∧ W.cell? ⟨g, o + i * 5 + 2, none⟩ = some (.string (bstr T.x)) ∧ W.cell? ⟨g, o + i * 5 + 3, none⟩ = some (.int .i64 T.a) ∧ W.cell? ⟨g, o + i * 5 + 4, none⟩ = some (.slice A' T.F.len c')) := fun W h =>
            ⟨hLr.below h, h7.below h, (h.cell (World.block_lt_of_cell? wr _ h0)).trans h0, (h.cell (World.block_lt_of_cell? wr _ h1)).trans h1, (h.cell (World.block_lt_of_cell? wr _ h2)).trans h2, (h.cell (World.block_lt_of_cell? wr _ h3)).trans h3, (h.cell (World.block_lt_of_cell? wr _ h4)).trans h4⟩
          clear hA2 hN HA hlF hdeep hv hT hb1 hFl HR hd1 hd2 hbw hLr h7 h0 h1 h2 h3 h4
          go_wp2_with (first | (go_at_call 17; refine hn.mono ?_; rintro e w3 ⟨A3, c3, rfl, q1, q2, q3, hb3⟩; simp only [Tr.v]))
          obtain ⟨w4, hw4⟩ : ∃ w4, w4 = w3.alloc (.cells #[.bool T.l, .int .u8 T.k, .string (bstr T.x), .int .i64 T.a, .slice A3 T.F.len c3] 27) := ⟨_, rfl⟩
          have hb34 : Below w3.heap.size w3 w4 := by rw [hw4]; exact (Below.refl _ w3).alloc (Nat.le_refl _) _
          have hb4 : Below wr.heap.size wr w4 := bel_trans hb3 hb34
          have hbx : TBox w3.heap.size T A3 c3 w4 := by rw [hw4]; exact TBox.new w3 T A3 c3
          have q4 : Lies w4 T.F A3 0 := q3.lies.below hb34
          rw [← hw4]
          obtain ⟨n0, n1, n2, n3, n4, n5, n6⟩ := HL.out w4 hb4
          have HALL : Hid (∀ W, Below w4.heap.size w4 W → TBox w3.heap.size T A3 c3 W ∧ Lies W T.F A3 0 ∧ Below wr.heap.size wr W) := fun W h => ⟨hbx.below h, q4.below h, bel_trans hb4 h⟩
          clear hw4 hb34
          have HS : Hid (∀ wx, Below w4.heap.size w4 wx → Below w4.heap.size w4 wx ∧ wx.cell? ⟨w3.heap.size, 0, none⟩ = some (.bool T.l) ∧ wx.cell? ⟨w3.heap.size, 1, none⟩ = some (.int .u8 T.k) ∧ wx.cell? ⟨w3.heap.size, 2, none⟩ = some (.string (bstr T.x)) ∧ wx.cell? ⟨w3.heap.size, 3, none⟩ = some (.int .i64 T.a) ∧ wx.cell? ⟨w3.heap.size, 4, none⟩ = some (.slice A3 T.F.len c3) ∧ wx.cell? ⟨g, o + i * 5, none⟩ = some (.bool T.l) ∧ wx.cell? ⟨g, o + i * 5 + 1, none⟩ = some (.int .u8 T.k) ∧ wx.cell? ⟨g, o + i * 5 + 2, none⟩ = some (.string (bstr T.x)) ∧ wx.cell? ⟨g, o + i * 5 + 3, none⟩ = some (.int .i64 T.a) ∧ wx.cell? ⟨g, o + i * 5 + 4, none⟩ = some (.slice A' T.F.len c')) := fun wx h => by
            obtain ⟨n0, n1, n2, n3, n4, n5, n6⟩ := HL.out wx (bel_trans hb4 h)
            have hb := (HALL.out wx h).1
            exact ⟨h, hb 0, hb 1, hb 2, hb 3, hb 4, n2, n3, n4, n5, n6⟩
          clear hbx q4
          refine wp_region_held_drew (S := (fun wx => Below w4.heap.size w4 wx ∧ wx.cell? ⟨w3.heap.size, 0, none⟩ = some (.bool T.l) ∧ wx.cell? ⟨w3.heap.size, 1, none⟩ = some (.int .u8 T.k) ∧ wx.cell? ⟨w3.heap.size, 2, none⟩ = some (.string (bstr T.x)) ∧ wx.cell? ⟨w3.heap.size, 3, none⟩ = some (.int .i64 T.a) ∧ wx.cell? ⟨w3.heap.size, 4, none⟩ = some (.slice A3 T.F.len c3) ∧ wx.cell? ⟨g, o + i * 5, none⟩ = some (.bool T.l) ∧ wx.cell? ⟨g, o + i * 5 + 1, none⟩ = some (.int .u8 T.k) ∧ wx.cell? ⟨g, o + i * 5 + 2, none⟩ = some (.string (bstr T.x)) ∧ wx.cell? ⟨g, o + i * 5 + 3, none⟩ = some (.int .i64 T.a) ∧ wx.cell? ⟨g, o + i * 5 + 4, none⟩ = some (.slice A' T.F.len c'))) (by kernel_rfl) (HS.out _ (Below.refl _ w4).drew) (fun hHeld => ?_)
          change wpAnyH _ _ _ _ _ 24 _ _ _
          refine wpAnyH_take (i := 0) (oi := ?o0) (v := ?v0) ?hi0 (by kernel_rfl) ?hf0 ?hr0 ?hQ0 ?hy0 (by assumption) ?rest0
          case hi0 => simp only [List.getElem?_toArray, List.getElem?_cons_zero]; rfl
          case hf0 => kernel_rfl
          case hr0 => kernel_rfl
          case hy0 => refine Or.inl ⟨by rfl, ?_⟩; intro w hSw; (try dsimp only at hSw); first | (go_simp; done) | (go_simp; with_reducible rfl)
          case hQ0 => exact fun _ _ _ h => h
          simp only [Act.put, List.setIfInBounds_toArray, List.set_cons_zero, List.set_cons_succ]
          refine wpAnyH_take (i := 1) (oi := ?o1) (v := ?v1) ?hi1 (by kernel_rfl) ?hf1 ?hr1 ?hQ1 ?hy1 (by assumption) ?rest1
          case hi1 => simp only [List.getElem?_toArray, List.getElem?_cons_succ, List.getElem?_cons_zero]; rfl
          case hf1 => kernel_rfl
          case hr1 => kernel_rfl
          case hy1 => refine Or.inl ⟨by rfl, ?_⟩; intro w hSw; (try dsimp only at hSw); first | (go_simp; done) | (go_simp; with_reducible rfl)
          case hQ1 => exact fun _ _ _ h => h
          simp only [Act.put, List.setIfInBounds_toArray, List.set_cons_zero, List.set_cons_succ]
          refine wpAnyH_take (i := 2) (oi := ?o2) (v := ?v2) ?hi2 (by kernel_rfl) ?hf2 ?hr2 ?hQ2 ?hy2 (by assumption) ?rest2
          case hi2 => simp only [List.getElem?_toArray, List.getElem?_cons_succ, List.getElem?_cons_zero]; rfl
          case hf2 => kernel_rfl
          case hr2 => kernel_rfl
          case hy2 => refine Or.inl ⟨by rfl, ?_⟩; intro w hSw; (try dsimp only at hSw); first | (go_simp; done) | (go_simp; with_reducible rfl)
          case hQ2 => exact fun _ _ _ h => h
          simp only [Act.put, List.setIfInBounds_toArray, List.set_cons_zero, List.set_cons_succ]
          refine wpAnyH_take (i := 3) (oi := ?o3) (v := undef) ?hi3 (by kernel_rfl) ?hf3 ?hr3 ?hQ3 ?hy3 (by assumption) ?rest3
          case hi3 => simp only [List.getElem?_toArray, List.getElem?_cons_succ, List.getElem?_cons_zero]; rfl
          case hf3 => kernel_rfl
          case hr3 => kernel_rfl
          case hy3 => exact Or.inr ⟨by rfl, rfl⟩
          case hQ3 => exact fun _ _ _ h => h
          simp only [Act.put, List.setIfInBounds_toArray, List.set_cons_zero, List.set_cons_succ]
          refine wpAnyH_take (i := 4) (oi := ?o4) (v := undef) ?hi4 (by kernel_rfl) ?hf4 ?hr4 ?hQ4 ?hy4 (by assumption) ?rest4
          case hi4 => simp only [List.getElem?_toArray, List.getElem?_cons_succ, List.getElem?_cons_zero]; rfl
          case hf4 => kernel_rfl
          case hr4 => kernel_rfl
          case hy4 => exact Or.inr ⟨by rfl, rfl⟩
          case hQ4 => exact fun _ _ _ h => h
          simp only [Act.put, List.setIfInBounds_toArray, List.set_cons_zero, List.set_cons_succ]
          refine wpAnyH_take (i := 5) (oi := ?o5) (v := ?v5) ?hi5 (by kernel_rfl) ?hf5 ?hr5 ?hQ5 ?hy5 (by assumption) ?rest5
          case hi5 => simp only [List.getElem?_toArray, List.getElem?_cons_succ, List.getElem?_cons_zero]; rfl
          case hf5 => kernel_rfl
          case hr5 => kernel_rfl
          case hy5 => refine Or.inl ⟨by rfl, ?_⟩; intro w hSw; (try dsimp only at hSw); first | (go_simp; done) | (go_simp; with_reducible rfl)
          case hQ5 => exact fun _ _ _ h => h
          simp only [Act.put, List.setIfInBounds_toArray, List.set_cons_zero, List.set_cons_succ]
          refine wpAnyH_take (i := 6) (oi := ?o6) (v := ?v6) ?hi6 (by kernel_rfl) ?hf6 ?hr6 ?hQ6 ?hy6 (by assumption) ?rest6
          case hi6 => simp only [List.getElem?_toArray, List.getElem?_cons_succ, List.getElem?_cons_zero]; rfl
          case hf6 => kernel_rfl
          case hr6 => kernel_rfl
          case hy6 => refine Or.inl ⟨by rfl, ?_⟩; intro w hSw; (try dsimp only at hSw); first | (go_simp; done) | (go_simp; with_reducible rfl)
          case hQ6 => exact fun _ _ _ h => h
          simp only [Act.put, List.setIfInBounds_toArray, List.set_cons_zero, List.set_cons_succ]
          refine wpAnyH_take (i := 7) (oi := ?o7) (v := ?v7) ?hi7 (by kernel_rfl) ?hf7 ?hr7 ?hQ7 ?hy7 (by assumption) ?rest7
          case hi7 => simp only [List.getElem?_toArray, List.getElem?_cons_succ, List.getElem?_cons_zero]; rfl
          case hf7 => kernel_rfl
          case hr7 => kernel_rfl
          case hy7 => refine Or.inl ⟨by rfl, ?_⟩; intro w hSw; (try dsimp only at hSw); first | (go_simp; done) | (go_simp; with_reducible rfl)
          case hQ7 => exact fun _ _ _ h => h
          simp only [Act.put, List.setIfInBounds_toArray, List.set_cons_zero, List.set_cons_succ]
          refine wpAnyH_take (i := 8) (oi := ?o8) (v := ?v8) ?hi8 (by kernel_rfl) ?hf8 ?hr8 ?hQ8 ?hy8 (by assumption) ?rest8
          case hi8 => simp only [List.getElem?_toArray, List.getElem?_cons_succ, List.getElem?_cons_zero]; rfl
          case hf8 => kernel_rfl
          case hr8 => kernel_rfl
          case hy8 => refine Or.inl ⟨by rfl, ?_⟩; intro w hSw; (try dsimp only at hSw); first | (go_simp; done) | (go_simp; with_reducible rfl)
          case hQ8 => exact fun _ _ _ h => h
          simp only [Act.put, List.setIfInBounds_toArray, List.set_cons_zero, List.set_cons_succ]
          refine wpAnyH_take (i := 9) (oi := ?o9) (v := ?v9) ?hi9 (by kernel_rfl) ?hf9 ?hr9 ?hQ9 ?hy9 (by assumption) ?rest9
          case hi9 => simp only [List.getElem?_toArray, List.getElem?_cons_succ, List.getElem?_cons_zero]; rfl
          case hf9 => kernel_rfl
          case hr9 => kernel_rfl
          case hy9 => refine Or.inl ⟨by rfl, ?_⟩; intro w hSw; (try dsimp only at hSw); first | (go_simp; done) | (go_simp; with_reducible rfl)
          case hQ9 => exact fun _ _ _ h => h
          simp only [Act.put, List.setIfInBounds_toArray, List.set_cons_zero, List.set_cons_succ]
          refine wpAnyH_take (i := 10) (oi := ?o10) (v := ?v10) ?hi10 (by kernel_rfl) ?hf10 ?hr10 ?hQ10 ?hy10 (by assumption) ?rest10
          case hi10 => simp only [List.getElem?_toArray, List.getElem?_cons_succ, List.getElem?_cons_zero]; rfl
          case hf10 => kernel_rfl
          case hr10 => kernel_rfl
          case hy10 => refine Or.inl ⟨by rfl, ?_⟩; intro w hSw; (try dsimp only at hSw); first | (go_simp; done) | (go_simp; with_reducible rfl)
          case hQ10 => exact fun _ _ _ h => h
          simp only [Act.put, List.setIfInBounds_toArray, List.set_cons_zero, List.set_cons_succ]
          refine wpAnyH_take (i := 11) (oi := ?o11) (v := ?v11) ?hi11 (by kernel_rfl) ?hf11 ?hr11 ?hQ11 ?hy11 (by assumption) ?rest11
          case hi11 => simp only [List.getElem?_toArray, List.getElem?_cons_succ, List.getElem?_cons_zero]; rfl
          case hf11 => kernel_rfl
          case hr11 => kernel_rfl
          case hy11 => refine Or.inl ⟨by rfl, ?_⟩; intro w hSw; (try dsimp only at hSw); first | (go_simp; done) | (go_simp; with_reducible rfl)
          case hQ11 => exact fun _ _ _ h => h
          simp only [Act.put, List.setIfInBounds_toArray, List.set_cons_zero, List.set_cons_succ]
          refine wpAnyH_take (i := 12) (oi := ?o12) (v := ?v12) ?hi12 (by kernel_rfl) ?hf12 ?hr12 ?hQ12 ?hy12 (by assumption) ?rest12
          case hi12 => simp only [List.getElem?_toArray, List.getElem?_cons_succ, List.getElem?_cons_zero]; rfl
          case hf12 => kernel_rfl
          case hr12 => kernel_rfl
          case hy12 => refine Or.inl ⟨by rfl, ?_⟩; intro w hSw; (try dsimp only at hSw); first | (go_simp; done) | (go_simp; with_reducible rfl)
          case hQ12 => exact fun _ _ _ h => h
          simp only [Act.put, List.setIfInBounds_toArray, List.set_cons_zero, List.set_cons_succ]
          refine wpAnyH_take (i := 13) (oi := ?o13) (v := ?v13) ?hi13 (by kernel_rfl) ?hf13 ?hr13 ?hQ13 ?hy13 (by assumption) ?rest13
          case hi13 => simp only [List.getElem?_toArray, List.getElem?_cons_succ, List.getElem?_cons_zero]; rfl
          case hf13 => kernel_rfl
          case hr13 => kernel_rfl
          case hy13 => refine Or.inl ⟨by rfl, ?_⟩; intro w hSw; (try dsimp only at hSw); first | (go_simp; done) | (go_simp; with_reducible rfl)
          case hQ13 => exact fun _ _ _ h => h
          simp only [Act.put, List.setIfInBounds_toArray, List.set_cons_zero, List.set_cons_succ]
          refine wpAnyH_take (i := 14) (oi := ?o14) (v := ?v14) ?hi14 (by kernel_rfl) ?hf14 ?hr14 ?hQ14 ?hy14 (by assumption) ?rest14
          case hi14 => simp only [List.getElem?_toArray, List.getElem?_cons_succ, List.getElem?_cons_zero]; rfl
          case hf14 => kernel_rfl
          case hr14 => kernel_rfl
          case hy14 => refine Or.inl ⟨by rfl, ?_⟩; intro w hSw; (try dsimp only at hSw); first | (go_simp; done) | (go_simp; with_reducible rfl)
          case hQ14 => exact fun _ _ _ h => h
          simp only [Act.put, List.setIfInBounds_toArray, List.set_cons_zero, List.set_cons_succ]
          refine wpAnyH_ready (rs := [15]) (by kernel_rfl) (by simp) (AllReadyH.cons rfl (fun K hK => ?_) AllReadyH.nil)
          go_simp
          go_at_call 15; refine (tsame_calls T.F T.F T.l T.l T.k T.k T.x T.x T.a T.a A3 A' c3 c' _ (HALL.out _ (And.left hHeld)).2.1 (HL.out _ (bel_trans hb4 (And.left hHeld))).2.1 q1 q2 h5 h6).mono ?_; rw [eqT_refl]; rintro e wx ⟨rfl, hbx⟩; go_wp2
          refine hK.out _ _ (HS.out _ (bel_trans (And.left hHeld) hbx)) (fun hHeld2 => ?_)
          clear hK K hHeld
          (try simp only [Act.put, List.setIfInBounds_toArray, List.set_cons_zero, List.set_cons_succ])
          refine wpAnyH_take (i := 16) (oi := ?o16) (v := ?v16) ?hi16 (by kernel_rfl) ?hf16 ?hr16 ?hQ16 ?hy16 (by assumption) ?rest16
          case hi16 => simp only [List.getElem?_toArray, List.getElem?_cons_succ, List.getElem?_cons_zero]; rfl
          case hf16 => kernel_rfl
          case hr16 => kernel_rfl
          case hy16 => refine Or.inl ⟨by rfl, ?_⟩; intro w hSw; (try dsimp only at hSw); first | (go_simp; done) | (go_simp; with_reducible rfl)
          case hQ16 => exact fun _ _ _ h => h
          simp only [Act.put, List.setIfInBounds_toArray, List.set_cons_zero, List.set_cons_succ]
          refine wpAnyH_take (i := 17) (oi := ?o17) (v := ?v17) ?hi17 (by kernel_rfl) ?hf17 ?hr17 ?hQ17 ?hy17 (by assumption) ?rest17
          case hi17 => simp only [List.getElem?_toArray, List.getElem?_cons_succ, List.getElem?_cons_zero]; rfl
          case hf17 => kernel_rfl
          case hr17 => kernel_rfl
          case hy17 => refine Or.inl ⟨by rfl, ?_⟩; intro w hSw; (try dsimp only at hSw); first | (go_simp; done) | (go_simp; with_reducible rfl)
          case hQ17 => exact fun _ _ _ h => h
          simp only [Act.put, List.setIfInBounds_toArray, List.set_cons_zero, List.set_cons_succ]
          refine wpAnyH_take (i := 18) (oi := ?o18) (v := ?v18) ?hi18 (by kernel_rfl) ?hf18 ?hr18 ?hQ18 ?hy18 (by assumption) ?rest18
          case hi18 => simp only [List.getElem?_toArray, List.getElem?_cons_succ, List.getElem?_cons_zero]; rfl
          case hf18 => kernel_rfl
          case hr18 => kernel_rfl
          case hy18 => refine Or.inl ⟨by rfl, ?_⟩; intro w hSw; (try dsimp only at hSw); first | (go_simp; done) | (go_simp; with_reducible rfl)
          case hQ18 => exact fun _ _ _ h => h
          simp only [Act.put, List.setIfInBounds_toArray, List.set_cons_zero, List.set_cons_succ]
          refine wpAnyH_take (i := 19) (oi := ?o19) (v := ?v19) ?hi19 (by kernel_rfl) ?hf19 ?hr19 ?hQ19 ?hy19 (by assumption) ?rest19
          case hi19 => simp only [List.getElem?_toArray, List.getElem?_cons_succ, List.getElem?_cons_zero]; rfl
          case hf19 => kernel_rfl
          case hr19 => kernel_rfl
          case hy19 => refine Or.inl ⟨by rfl, ?_⟩; intro w hSw; (try dsimp only at hSw); first | (go_simp; done) | (go_simp; with_reducible rfl)
          case hQ19 => exact fun _ _ _ h => h
          simp only [Act.put, List.setIfInBounds_toArray, List.set_cons_zero, List.set_cons_succ]
          refine wpAnyH_take (i := 20) (oi := ?o20) (v := ?v20) ?hi20 (by kernel_rfl) ?hf20 ?hr20 ?hQ20 ?hy20 (by assumption) ?rest20
          case hi20 => simp only [List.getElem?_toArray, List.getElem?_cons_succ, List.getElem?_cons_zero]; rfl
          case hf20 => kernel_rfl
          case hr20 => kernel_rfl
          case hy20 => refine Or.inl ⟨by rfl, ?_⟩; intro w hSw; (try dsimp only at hSw); first | (go_simp; done) | (go_simp; with_reducible rfl)
          case hQ20 => exact fun _ _ _ h => h
          simp only [Act.put, List.setIfInBounds_toArray, List.set_cons_zero, List.set_cons_succ]
          refine wpAnyH_take (i := 21) (oi := ?o21) (v := ?v21) ?hi21 (by kernel_rfl) ?hf21 ?hr21 ?hQ21 ?hy21 (by assumption) ?rest21
          case hi21 => simp only [List.getElem?_toArray, List.getElem?_cons_succ, List.getElem?_cons_zero]; rfl
          case hf21 => kernel_rfl
          case hr21 => kernel_rfl
          case hy21 => refine Or.inl ⟨by rfl, ?_⟩; intro w hSw; (try dsimp only at hSw); first | (go_simp; done) | (go_simp; with_reducible rfl)
          case hQ21 => exact fun _ _ _ h => h
          simp only [Act.put, List.setIfInBounds_toArray, List.set_cons_zero, List.set_cons_succ]
          refine wpAnyH_take (i := 22) (oi := ?o22) (v := ?v22) ?hi22 (by kernel_rfl) ?hf22 ?hr22 ?hQ22 ?hy22 (by assumption) ?rest22
          case hi22 => simp only [List.getElem?_toArray, List.getElem?_cons_succ, List.getElem?_cons_zero]; rfl
          case hf22 => kernel_rfl
          case hr22 => kernel_rfl
          case hy22 => refine Or.inl ⟨by rfl, ?_⟩; intro w hSw; (try dsimp only at hSw); first | (go_simp; done) | (go_simp; with_reducible rfl)
          case hQ22 => exact fun _ _ _ h => h
          simp only [Act.put, List.setIfInBounds_toArray, List.set_cons_zero, List.set_cons_succ]
          refine wpAnyH_take (i := 23) (oi := ?o23) (v := ?v23) ?hi23 (by kernel_rfl) ?hf23 ?hr23 ?hQ23 ?hy23 (by assumption) ?rest23
          case hi23 => simp only [List.getElem?_toArray, List.getElem?_cons_succ, List.getElem?_cons_zero]; rfl
          case hf23 => kernel_rfl
          case hr23 => kernel_rfl
          case hy23 => refine Or.inl ⟨by rfl, ?_⟩; intro w hSw; (try dsimp only at hSw); first | (go_simp; done) | (go_simp; with_reducible rfl)
          case hQ23 => exact fun _ _ _ h => h
          simp only [Act.put, List.setIfInBounds_toArray, List.set_cons_zero, List.set_cons_succ]
          refine wpAnyH_done (by kernel_rfl) ?_ _
          have hbz := bel_trans hb4 (And.left hHeld2)
          go_wp2
          go_round
          case rel => exact ⟨p + j, i + 1, rest, by go_num, by go_num, hrl, (HL.out _ hbz).1, hpj, HA3, bel_trans HBW.out hbz⟩
          case measure => simp [intOf]; omega
end Go.Proofs.YtppbijbgnhmdaaaDoor

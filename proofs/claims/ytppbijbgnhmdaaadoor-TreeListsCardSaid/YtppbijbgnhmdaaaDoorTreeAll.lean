/- tree.All. -/
import Derived.Test.YtppbijbgnhmdaaaDoorTreeNext
namespace Go.Proofs.YtppbijbgnhmdaaaDoor
open Go.RowKit Forest

set_option maxHeartbeats 4000000 in
set_option maxRecDepth 100000 in
theorem tall_calls (l : List TokI) (A : Option Addr) (c : Nat) (w : World) (hT : TksI w A l) (hc : l.length ≤ c) (hcm : c ≤ maxLen) (hl : l.length ≤ 1048576) :
    Calls Tryd.prog 19 #[.slice A l.length c] w (AllPost w (allL l 0)) := by
  go_enter Tryd.func19, Tryd.ntmps19
  go_wp2
  go_loopw [5, 6] (fun v u wr => ∃ (p : Nat) (D : Forest) (A' : Option Addr) (c' : Nat), v = .slice A' D.len c' ∧ u = .int .i64 (p : Int) ∧ AllAt w l p (.slice A' D.len c') D wr) (fun _ u _ => l.length - (intOf u).toNat)
  case atStart => exact ⟨0, .nil, none, 0, rfl, rfl, Nat.zero_le _, Own.nil _ _, .refl _ _, rfl, Nat.le_refl _⟩
  case round =>
    obtain ⟨p, D, A', c', rfl, rfl, hat⟩ := hrel
    have hp := hat.hp
    by_cases hlt : p < l.length
    · have hn := tnext_calls l A c (p : Int) wr (hT.below hat.bel) hc hcm hl
      have hS0 := nextS_nat l p hp
      have hdr := drop_at l p hlt
      rw [hdr] at hS0
      have HAT := Lib.hid hat
      have d1 : decide ((p : Int) < (l.length : Int)) = true := by simp; omega
      by_cases k2 : l[p].kind = 2
      · rw [hS0, nextT_close _ _ _ _ k2] at hn
        have he : allL (l.drop p) p = (.nil, p, 41) := by rw [hdr]; exact allL_close _ _ _ k2
        have hfin := Lib.hid (hat.post he)
        clear hat hS0 hdr k2 he
        go_wp2_with fail
        refine hn.mono ?_
        clear hn
        rintro e w2 ⟨A2, c2, rfl, q1, q2, q3, hb2⟩
        simp only [Tr.v]
        go_wp2
        go_ret3
        exact hfin.out _ (hb2.alloc hb2.size _)
      · cases hone : oneL (l[p] :: l.drop (p + 1)) with
        | none =>
          rw [hS0, nextT_short _ _ _ _ k2 hone] at hn
          have he : allL (l.drop p) p = (.nil, p, 4) := by rw [hdr]; exact allL_short _ _ _ k2 hone
          have hfin := Lib.hid (hat.post he)
          clear hat hS0 hdr k2 he hone
          go_wp2_with fail
          refine hn.mono ?_
          clear hn
          rintro e w2 ⟨A2, c2, rfl, q1, q2, q3, hb2⟩
          simp only [Tr.v]
          go_wp2
          go_ret3
          exact hfin.out _ (hb2.alloc hb2.size _)
        | some q =>
          obtain ⟨T, j⟩ := q
          have hj := oneL_le hone
          have hpj : p + j ≤ l.length := by have := hj.2; simp at this; omega
          have he := allL_one _ _ p k2 hone
          rw [hS0, nextT_one _ _ _ _ k2 hone] at hn
          rw [← hdr, List.drop_drop] at he
          have hfew := hat.few
          have hbel := hat.bel
          by_cases hdeep : 200 < depF T.f
          · rw [if_pos hdeep] at hn he
            have HE := Lib.hid he
            have hown := hat.own
            clear hat hS0 hdr k2 he hone hdeep
            go_wp2_with fail
            refine hn.mono ?_
            clear hn
            rintro e w2 ⟨A2, c2, rfl, q1, q2, q3, hb2⟩
            simp only [Tr.v]
            obtain ⟨Wd, hWd⟩ : ∃ Wd, Wd = (w2.alloc (.cells #[.bool true, .int .u8 1, .string ⟨#[40]⟩, .int .i64 0, .slice (some ⟨w2.heap.size + 1, 0, none⟩) 1 1] 27)).alloc (.cells #[.bool false, .int .u8 7, .string ⟨#[100, 101, 101, 112]⟩, .int .i64 0, .slice none 0 0] 27) := ⟨_, rfl⟩
            have hBd : Below w2.heap.size w2 Wd := by rw [hWd]; exact below_two w2 _ _
            have hzd : Wd.heap.size = w2.heap.size + 2 := by rw [hWd, World.size_alloc, World.size_alloc]
            have hLd : LiesB (fun b => w2.heap.size ≤ b) Wd deepTr.F (some ⟨w2.heap.size + 1, 0, none⟩) 0 := by
              rw [hWd]
              have hc := fun j => World.cell?_alloc_mark (w2.alloc (.cells #[.bool true, .int .u8 1, .string ⟨#[40]⟩, .int .i64 0, .slice (some ⟨w2.heap.size + 1, 0, none⟩) 1 1] 27)) #[.bool false, .int .u8 7, .string ⟨#[100, 101, 101, 112]⟩, .int .i64 0, .slice none 0 0] 27 (0, 0) j
              rw [World.size_alloc] at hc
              exact ⟨⟨w2.heap.size + 1, 0, rfl, by omega, hc 0, hc 1, hc 2, hc 3, none, 0, hc 4, Nat.le_refl _, Nat.zero_le _, trivial⟩, trivial⟩
            have hB4 := bel_trans hb2 hBd
            have hb2s := hb2.size
            have HWD := Lib.hid hWd
            have hap := fun ops rest o a Q hgd s x ho hs hx h => append_tree (ops := ops) (rest := rest) (o := o) (a := a) (Q := Q) (W := Wd) w.heap.size hgd s x ho (.slice A' D.len c') D (hown.below hB4) deepTr (some ⟨w2.heap.size + 1, 0, none⟩) 1 (Nat.le_refl _) (by simp [maxLen]) (hLd.imp (fun b hb => HAT.out.far b (by omega))) hs (w2.heap.size + 2) hx hzd.symm (by have := hB4.size; have := hbel.size; omega) (by omega) h
            rw [hWd] at hap
            have HAP := Lib.hid hap
            have HB4 := Lib.hid hB4
            clear hap hWd hLd hBd hzd hB4
            go_wp2_with (at_builtin; go_loud (refine HAP.out _ _ _ _ _ rfl _ _ rfl rfl rfl ?_; intro v1 w1 ho1 hg1; (obtain ⟨A1, c1, rfl, _⟩ := ho1.trees)))
            go_round
            case rel => exact ⟨p + j, D.app deepTr.f, A1, c1, rfl, by go_num, HAT.out.next hpj hj.1 HB4.out (by exact ho1) (by rw [HWD.out]; exact hg1) HE.out⟩
            case measure => simp [intOf]; omega
          · rw [if_neg hdeep] at hn he
            have HE := Lib.hid he
            have hown := hat.own
            clear hat hS0 hdr k2 he hone hdeep
            go_wp2_with fail
            refine hn.mono ?_
            clear hn
            rintro e w2 ⟨A2, c2, rfl, q1, q2, q3, hb2⟩
            simp only [Tr.v]
            have hB3 : Below wr.heap.size wr (w2.alloc (.cells #[.bool T.l, .int .u8 T.k, .string (bstr T.x), .int .i64 T.a, .slice A2 T.F.len c2] 27)) := hb2.alloc hb2.size _
            have q4 := q3.kept ((KeptB.refl _ w2).alloc (.cells #[.bool T.l, .int .u8 T.k, .string (bstr T.x), .int .i64 T.a, .slice A2 T.F.len c2] 27))
            have hz3 : (w2.alloc (.cells #[.bool T.l, .int .u8 T.k, .string (bstr T.x), .int .i64 T.a, .slice A2 T.F.len c2] 27)).heap.size = w2.heap.size + 1 := World.size_alloc _ _
            have HZ3 := Lib.hid hz3
            clear hz3
            go_wp2_with (at_builtin; (refine append_tree w.heap.size rfl _ _ rfl (.slice A' D.len c') D (hown.below hB3) T A2 c2 q1 q2 (q4.imp (fun b hb => HAT.out.far b hb)) rfl _ rfl (by simp) (by have := hB3.size; have := hbel.size; omega) (by omega) ?_; intro v1 w1 ho1 hg1; (obtain ⟨A1, c1, rfl, _⟩ := ho1.trees)))
            go_round
            case rel => exact ⟨p + j, D.app T.f, A1, c1, rfl, by go_num, HAT.out.next hpj hj.1 hB3 ho1 hg1 HE.out⟩
            case measure => simp [intOf]; omega
    · obtain rfl : p = l.length := by omega
      have d1 : decide ((l.length : Int) < (l.length : Int)) = false := by simp
      have he : allL (l.drop l.length) l.length = (.nil, l.length, 0) := by rw [List.drop_eq_nil_of_le (Nat.le_refl _)]; rfl
      have hfin := Lib.hid (hat.post he)
      clear hat he
      go_wp2
      go_ret3
      exact hfin.out _ (.refl _ _)
end Go.Proofs.YtppbijbgnhmdaaaDoor

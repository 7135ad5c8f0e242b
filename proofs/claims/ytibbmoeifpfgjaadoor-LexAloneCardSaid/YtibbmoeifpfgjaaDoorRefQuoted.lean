/- What the reference takes between two marks. -/
import Derived.Test.YtibbmoeifpfgjaaDoorRefSmall
import Derived.Test.YtibbmoeifpfgjaaDoorLexSpec
namespace Go.Proofs.YtibbmoeifpfgjaaDoor
open Go.RowKit

theorem app_one (acc bs : List UInt8) (q : Nat) (h : q < bs.length) : bstr acc ++ bstr ((bs.drop q).take (q + 1 - q)) = bstr (acc ++ [bs[q]]) := by
  have e : q + 1 - q = 1 := by omega
  rw [e, List.drop_eq_getElem_cons h, List.take_succ_cons, List.take_zero]
  apply ByteArray.ext
  simp [bstr]
/-- What the reference's quoted hands back. -/
def RQ (r : QRes) (v : Value) : Prop := match r with
  | .ok t n => v = .tuple #[.string (bstr t), .int .i64 ((n : Int) + 1), .int .i64 0]
  | .err c => v = .tuple #[.string ⟨#[]⟩, .int .i64 0, .int .i64 c]
theorem RQ.fin {m : UInt8} {bs acc : List UInt8} {p q : Nat} (hq : p < q) (hs : qscan m (bs.drop (p + 1)) = QRes.pre acc (q - (p + 1)) (.ok [] 1)) : RQ (qscan m (bs.drop (p + 1))) (.tuple #[.string (bstr acc), .int .i64 ((q : Int) + 1 - (p : Int)), .int .i64 0]) := by
  rw [hs]
  show _ = _
  have e : (q : Int) + 1 - (p : Int) = ((q - (p + 1) + 1 : Nat) : Int) + 1 := by omega
  rw [e]; simp
theorem RQ.bad {m : UInt8} {bs acc : List UInt8} {p q : Nat} (c : Int) (hs : qscan m (bs.drop (p + 1)) = QRes.pre acc (q - (p + 1)) (.err c)) : RQ (qscan m (bs.drop (p + 1))) (.tuple #[.string ⟨#[]⟩, .int .i64 0, .int .i64 c]) := by
  rw [hs]; rfl

set_option maxHeartbeats 4000000 in
set_option maxRecDepth 100000 in
theorem rquoted_calls (A : Option Addr) (cap p : Nat) (m : UInt8) (bs : List UInt8) (w : World) (hb : Bys w A bs) (hp : p < bs.length) (hl : bs.length ≤ 1048576) (hcap : bs.length ≤ cap) :
    Calls Tryd.prog 28 #[.slice A bs.length cap, .int .i64 ((p : Nat) : Int), .int .u8 (bi m)] w fun e w' => (∃ v, e = .returned v ∧ RQ (qscan m (bs.drop (p + 1))) v) ∧ w = w' := by
  have HC := Lib.hid hcap
  clear hcap
  have hrm := bi_range m
  go_enter Tryd.func28, Tryd.ntmps28
  go_wp2
  go_loop [9, 10] (fun v u => ∃ (q : Nat) (acc : List UInt8), u = .int .i64 (q : Int) ∧ v = .string (bstr acc) ∧ p < q ∧ q ≤ bs.length ∧ acc.length ≤ q ∧ qscan m (bs.drop (p + 1)) = (qscan m (bs.drop q)).pre acc (q - (p + 1))) (fun _ u => bs.length - (intOf u).toNat)
  case atStart => exact ⟨p + 1, [], by go_num, rfl, Nat.lt_succ_self _, hp, Nat.zero_le _, by rw [Nat.sub_self, QRes.pre_nil]⟩
  case round =>
    obtain ⟨q, acc, rfl, rfl, hpq, hq, hacc, hspec⟩ := hrel
    have HS := Lib.hid hspec
    clear hspec
    have hpre : ∀ (c : UInt8) (k : Nat) (r : QRes), 0 < k → qscan m (bs.drop q) = r.pre [c] k → qscan m (bs.drop (p + 1)) = r.pre (acc ++ [c]) (q + k - (p + 1)) := fun c k r hk h => by
      rw [HS.out, h, QRes.pre_pre]
      congr 1; omega
    have HP := Lib.hid hpre
    clear hpre
    by_cases hlt : q < bs.length
    · obtain ⟨ad, rfl, hc⟩ := hb.out q hlt
      have hsl := fun W => run_sub W (some ad) bs.length cap q (q + 1) (by omega) (by have := HC.out; omega)
      simp only [Int.natCast_add, Int.natCast_one] at hsl
      have hcv := conv_sub w (some ad) bs q (q + 1) cap hb (by omega) hlt (by have := HC.out; omega)
      have happ := app_one acc bs q hlt
      have hal : (acc ++ [bs[q]]).length ≤ q + 1 := by simp; omega
      have HAL := Lib.hid hal
      clear hal
      generalize subSl (some ad) q (q + 1) cap = sv at hsl hcv
      generalize hs1 : bstr ((bs.drop q).take (q + 1 - q)) = s1 at hcv happ
      have hs1l : s1.size = 1 := by rw [← hs1]; simp [bstr_size]; omega
      clear hs1
      have hal0 : (bstr acc).size ≤ q := by rw [bstr_size]; exact hacc
      by_cases e1 : bi bs[q] = bi m
      · by_cases hpair : bi m = 34 ∧ ∃ h2 : q + 1 < bs.length, bi bs[q + 1] = bi m
        · obtain ⟨e2, hlt2, e3⟩ := hpair
          obtain ⟨ad', e, hc2⟩ := hb.out (q + 1) hlt2
          cases e
          rw [add_succ] at hc2
          have HN := Lib.hid (HP.out _ 2 _ (by omega) (qscan_pair m bs q hlt hlt2 e1 e2 e3))
          have f1 : (bi bs[q] == bi m) = true := by simpa using e1
          have f2 : (bi m == 34) = true := by simpa using e2
          have f3 : (bi bs[q + 1] == bi m) = true := by simpa using e3
          clear e1 e2 e3 HS HP
          generalize bs[q + 1] = d at hc2 f3
          generalize bs[q] = c at hc f1 HN happ HAL
          have hd : decide (((q : Int) + 1) < (bs.length : Int)) = true := by simp; omega
          go_wp2
          go_round
          case rel => exact ⟨q + 1 + 1, acc ++ [c], by go_num, rfl, by omega, hlt2, by have := HAL.out; omega, HN.out⟩
          case measure => simp [intOf]; omega
        · have HN := Lib.hid (HS.out.trans (congrArg (fun r => QRes.pre acc (q - (p + 1)) r) (qscan_close m bs q hlt e1 hpair)))
          have f1 : (bi bs[q] == bi m) = true := by simpa using e1
          by_cases e2 : bi m = 34
          · have f2 : (bi m == 34) = true := by simpa using e2
            by_cases hlt2 : q + 1 < bs.length
            · have e3 : ¬ bi bs[q + 1] = bi m := fun e3 => hpair ⟨e2, hlt2, e3⟩
              obtain ⟨ad', e, hc2⟩ := hb.out (q + 1) hlt2
              cases e
              rw [add_succ] at hc2
              have f3 : (bi bs[q + 1] == bi m) = false := by simpa using e3
              clear e1 e2 e3 HS HP hpair
              generalize bs[q + 1] = d at hc2 f3
              generalize bs[q] = c at hc f1
              have hd : decide (((q : Int) + 1) < (bs.length : Int)) = true := by simp; omega
              go_wp2
              go_ret3
              exact ⟨⟨_, rfl, RQ.fin hpq HN.out⟩, rfl⟩
            · clear e1 e2 HS HP hpair
              generalize bs[q] = c at hc f1
              have hd : decide (((q : Int) + 1) < (bs.length : Int)) = false := by simp; omega
              go_wp2
              go_ret3
              exact ⟨⟨_, rfl, RQ.fin hpq HN.out⟩, rfl⟩
          · have f2 : (bi m == 34) = false := by simpa using e2
            clear e1 e2 HS HP hpair
            generalize bs[q] = c at hc f1
            go_wp2
            go_ret3
            exact ⟨⟨_, rfl, RQ.fin hpq HN.out⟩, rfl⟩
      · have f1 : (bi bs[q] == bi m) = false := by simpa using e1
        have hrc := bi_range bs[q]
        have hcall := inner_calls bs[q] w
        cases hin : isInner bs[q] with
        | false =>
          rw [hin] at hcall
          have HN := Lib.hid (HS.out.trans (congrArg (fun r => QRes.pre acc (q - (p + 1)) r) (qscan_bad m bs q hlt e1 (by simp [badIn, hin]))))
          clear e1 HS HP hin
          generalize bs[q] = c at hc f1 hrc hcall
          go_wp2_with (go_at_call 37; refine hcall.mono ?_; rintro e w' ⟨rfl, rfl⟩)
          go_ret3
          exact ⟨⟨_, rfl, RQ.bad _ HN.out⟩, rfl⟩
        | true =>
          rw [hin] at hcall
          by_cases e4 : bi m = 124
          · have f4 : (bi m == 124) = true := by simpa using e4
            by_cases e5 : bi bs[q] = 92
            · have HN := Lib.hid (HS.out.trans (congrArg (fun r => QRes.pre acc (q - (p + 1)) r) (qscan_bad m bs q hlt e1 (by simp [badIn, e4, e5]))))
              have f5 : (bi bs[q] == 92) = true := by simpa using e5
              clear e1 HS HP hin e4 e5
              generalize bs[q] = c at hc f1 hrc hcall f5
              go_wp2_with (go_at_call 37; refine hcall.mono ?_; rintro e w' ⟨rfl, rfl⟩)
              go_ret3
              exact ⟨⟨_, rfl, RQ.bad _ HN.out⟩, rfl⟩
            · have HN := Lib.hid (HP.out _ 1 _ (by omega) (qscan_go m bs q hlt e1 (by simp [badIn, hin, e5])))
              have f5 : (bi bs[q] == 92) = false := by simpa using e5
              clear e1 HS HP hin e4 e5
              generalize bs[q] = c at hc f1 hrc hcall f5 HN happ HAL
              go_wp2_with (go_at_call 37; refine hcall.mono ?_; rintro e w' ⟨rfl, rfl⟩)
              go_round
              case rel => exact ⟨q + 1, acc ++ [c], by go_num, rfl, by omega, hlt, HAL.out, HN.out⟩
              case measure => simp [intOf]; omega
          · have HN := Lib.hid (HP.out _ 1 _ (by omega) (qscan_go m bs q hlt e1 (by simp [badIn, hin, e4])))
            have f4 : (bi m == 124) = false := by simpa using e4
            clear e1 HS HP hin e4
            generalize bs[q] = c at hc f1 hrc hcall HN happ HAL
            go_wp2_with (go_at_call 37; refine hcall.mono ?_; rintro e w' ⟨rfl, rfl⟩)
            go_round
            case rel => exact ⟨q + 1, acc ++ [c], by go_num, rfl, by omega, hlt, HAL.out, HN.out⟩
            case measure => simp [intOf]; omega
    · obtain rfl : q = bs.length := by omega
      have HN := Lib.hid (HS.out.trans (congrArg (fun r => QRes.pre acc (bs.length - (p + 1)) r) (qscan_end m bs)))
      clear HS HP
      go_wp2
      go_ret3
      exact ⟨⟨_, rfl, RQ.bad _ HN.out⟩, rfl⟩
end Go.Proofs.YtibbmoeifpfgjaaDoor

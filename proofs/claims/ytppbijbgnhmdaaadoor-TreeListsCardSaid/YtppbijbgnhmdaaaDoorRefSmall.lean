/- What the reference's small functions on bytes and texts do: they tell what the plain functions tell. -/
import Derived.Test.YtppbijbgnhmdaaaDoorLexSpec
namespace Go.Proofs.YtppbijbgnhmdaaaDoor
open Go.RowKit

theorem isDigit_iff : ∀ c : UInt8, isDigit c = decide (48 ≤ bi c ∧ bi c ≤ 57) := by
  have key : ∀ i : Fin 256, (bits BinOp.and IntKind.u8 ((cl i.val : Nat) : Int) 2 != 0) = decide (48 ≤ ((i.val : Nat) : Int) ∧ ((i.val : Nat) : Int) ≤ 57) := by decide +kernel
  intro c
  exact key ⟨c.toNat, c.toNat_lt⟩
theorem isBlank_iff : ∀ c : UInt8, isBlank c = decide (bi c = 9 ∨ bi c = 10 ∨ bi c = 13 ∨ bi c = 32) := by
  have key : ∀ i : Fin 256, (bits BinOp.and IntKind.u8 ((cl i.val : Nat) : Int) 4 != 0) = decide (((i.val : Nat) : Int) = 9 ∨ ((i.val : Nat) : Int) = 10 ∨ ((i.val : Nat) : Int) = 13 ∨ ((i.val : Nat) : Int) = 32) := by decide +kernel
  intro c
  exact key ⟨c.toNat, c.toNat_lt⟩
theorem isInner_iff : ∀ c : UInt8, isInner c = decide ((bi c = 9 ∨ bi c = 10 ∨ bi c = 13 ∨ bi c = 32) ∨ (32 < bi c ∧ bi c ≠ 127)) := by
  have key : ∀ i : Fin 256, (bits BinOp.and IntKind.u8 ((cl i.val : Nat) : Int) 8 != 0) = decide ((((i.val : Nat) : Int) = 9 ∨ ((i.val : Nat) : Int) = 10 ∨ ((i.val : Nat) : Int) = 13 ∨ ((i.val : Nat) : Int) = 32) ∨ (32 < ((i.val : Nat) : Int) ∧ ((i.val : Nat) : Int) ≠ 127)) := by decide +kernel
  intro c
  exact key ⟨c.toNat, c.toNat_lt⟩
def exStr : ByteArray := ⟨#[126, 33, 64, 36, 37, 94, 38, 42, 95, 45, 43, 61, 60, 62, 46, 63, 47]⟩
theorem isLetter_iff : ∀ c : UInt8, isLetter c = ((List.range 17).any (fun j => bi (bat exStr j) == bi c) || decide ((97 ≤ bi c ∧ bi c ≤ 122) ∨ (65 ≤ bi c ∧ bi c ≤ 90) ∨ (48 ≤ bi c ∧ bi c ≤ 57))) := by
  have key : ∀ i : Fin 256, (bits BinOp.and IntKind.u8 ((cl i.val : Nat) : Int) 1 != 0) = ((List.range 17).any (fun j => bi (bat exStr j) == ((i.val : Nat) : Int)) || decide ((97 ≤ ((i.val : Nat) : Int) ∧ ((i.val : Nat) : Int) ≤ 122) ∨ (65 ≤ ((i.val : Nat) : Int) ∧ ((i.val : Nat) : Int) ≤ 90) ∨ (48 ≤ ((i.val : Nat) : Int) ∧ ((i.val : Nat) : Int) ≤ 57))) := by decide +kernel
  intro c
  exact key ⟨c.toNat, c.toNat_lt⟩

theorem digit_calls (c : UInt8) (w : World) : Calls Tryd.prog 50 #[.int .u8 (bi c)] w fun e w' => e = .returned (.bool (isDigit c)) ∧ w = w' := by
  have hr := bi_range c
  have HD := Lib.hid (isDigit_iff c)
  generalize bi c = x at *
  rcases (show x < 48 ∨ (48 ≤ x ∧ x ≤ 57) ∨ 57 < x from by omega) with h | ⟨h, h'⟩ | h
  all_goals
    go_enter Tryd.func50, Tryd.ntmps50
    first | have f57 : decide (x ≤ 57) = true := decide_eq_true (by omega) | have f57 : decide (x ≤ 57) = false := decide_eq_false (by omega)
    go_wp2
    go_ret
    rw [HD.out]
    exact ⟨by simp; omega, rfl⟩

theorem blank_calls (c : UInt8) (w : World) : Calls Tryd.prog 38 #[.int .u8 (bi c)] w fun e w' => e = .returned (.bool (isBlank c)) ∧ w = w' := by
  have HD := Lib.hid (isBlank_iff c)
  generalize bi c = x at *
  cases h1 : (x == 9)
  all_goals cases h2 : (x == 10)
  all_goals cases h3 : (x == 13)
  all_goals
    go_enter Tryd.func38, Tryd.ntmps38
    go_wp2
    go_ret
    rw [HD.out]
    simp only [beq_eq_false_iff_ne, beq_iff_eq] at h1 h2 h3
    exact ⟨by simp [h1, h2, h3] <;> rfl, rfl⟩

theorem inner_calls (c : UInt8) (w : World) : Calls Tryd.prog 59 #[.int .u8 (bi c)] w fun e w' => e = .returned (.bool (isInner c)) ∧ w = w' := by
  have hr := bi_range c
  have hb := isBlank_iff c
  have HD := Lib.hid (isInner_iff c)
  have hcall := blank_calls c w
  cases hc : isBlank c with
  | true =>
    rw [hc] at hcall hb
    have HB := Lib.hid hb
    clear hb hc
    generalize bi c = x at *
    go_enter Tryd.func59, Tryd.ntmps59
    go_wp2_with fail
    refine hcall.mono ?_
    rintro e w' ⟨rfl, rfl⟩
    go_wp2
    go_ret
    rw [HD.out, decide_eq_true (.inl (of_decide_eq_true HB.out.symm))]
    exact ⟨rfl, rfl⟩
  | false =>
    rw [hc] at hcall hb
    have HB := Lib.hid hb
    clear hb hc
    generalize bi c = x at *
    rcases (show x ≤ 32 ∨ (32 < x ∧ x < 127) ∨ (127 ≤ x ∧ x ≤ 127) ∨ 127 < x from by omega) with h | ⟨h, h'⟩ | ⟨h, h'⟩ | h
    all_goals
      first | have f127 : decide (127 < x) = true := decide_eq_true (by omega) | have f127 : decide (127 < x) = false := decide_eq_false (by omega)
      first | have f128 : decide (x < 127) = true := decide_eq_true (by omega) | have f128 : decide (x < 127) = false := decide_eq_false (by omega)
      go_enter Tryd.func59, Tryd.ntmps59
      go_wp2_with fail
      refine hcall.mono ?_
      rintro e w' ⟨rfl, rfl⟩
      go_wp2
      go_ret
      have hn := of_decide_eq_false HB.out.symm
      rw [HD.out]
      refine ⟨?_, rfl⟩
      first
        | (have hf : decide ((x = 9 ∨ x = 10 ∨ x = 13 ∨ x = 32) ∨ (32 < x ∧ x ≠ 127)) = false := decide_eq_false (by omega)
           rw [hf]; rfl)
        | (have hf : decide ((x = 9 ∨ x = 10 ∨ x = 13 ∨ x = 32) ∨ (32 < x ∧ x ≠ 127)) = true := decide_eq_true (by omega)
           rw [hf]; rfl)

set_option maxHeartbeats 1000000 in
theorem letter_calls (c : UInt8) (w : World) : Calls Tryd.prog 60 #[.int .u8 (bi c)] w fun e w' => e = .returned (.bool (isLetter c)) ∧ w = w' := by
  have hr := bi_range c
  have HD := Lib.hid (isLetter_iff c)
  have hdc := digit_calls c w
  have hdi := isDigit_iff c
  have HI := Lib.hid hdi
  clear hdi
  go_enter Tryd.func60, Tryd.ntmps60
  go_wp2
  go_loop [4] (fun v => ∃ i : Nat, v = .int .i64 (i : Int) ∧ i ≤ 17 ∧ ∀ j, j < i → ¬ bi (bat exStr j) = bi c) (fun v => 17 - (intOf v).toNat)
  case atStart => exact ⟨0, rfl, Nat.zero_le _, fun j h => absurd h (Nat.not_lt_zero _)⟩
  case round =>
    obtain ⟨i, rfl, hi, hall⟩ := hrel
    have HA := Lib.hid hall
    clear hall
    by_cases hlt : i < 17
    · have hb : ∀ h : i < (⟨#[126, 33, 64, 36, 37, 94, 38, 42, 95, 45, 43, 61, 60, 62, 46, 63, 47]⟩ : ByteArray).size, ((((⟨#[126, 33, 64, 36, 37, 94, 38, 42, 95, 45, 43, 61, 60, 62, 46, 63, 47]⟩ : ByteArray)[i]'h).toNat : Nat) : Int) = bi (bat exStr i) := bat_at exStr i
      have hsz : (⟨#[126, 33, 64, 36, 37, 94, 38, 42, 95, 45, 43, 61, 60, 62, 46, 63, 47]⟩ : ByteArray).size = 17 := rfl
      cases he : (bi (bat exStr i) == bi c) with
      | true =>
        have HL : Hid (isLetter c = true) := by
          have : (List.range 17).any (fun j => bi (bat exStr j) == bi c) = true := List.any_eq_true.2 ⟨i, List.mem_range.2 hlt, he⟩
          have h := HD.out
          rw [this] at h
          exact h
        generalize bi (bat exStr i) = y at hb he
        go_wp2
        go_ret
        rw [HL.out]
        exact ⟨rfl, rfl⟩
      | false =>
        have HN : Hid (∀ j, j < i + 1 → ¬ bi (bat exStr j) = bi c) := fun j hj => by
          rcases Nat.lt_or_ge j i with h | h
          · exact HA.out j h
          · obtain rfl : j = i := by omega
            simpa using he
        generalize bi (bat exStr i) = y at hb he
        go_wp2
        go_round
        case rel => exact ⟨i + 1, by go_num, hlt, HN.out⟩
        case measure => simp [intOf]; omega
    · obtain rfl : i = 17 := by omega
      have HL : Hid (isLetter c = decide ((97 ≤ bi c ∧ bi c ≤ 122) ∨ (65 ≤ bi c ∧ bi c ≤ 90) ∨ (48 ≤ bi c ∧ bi c ≤ 57))) := by
        have : (List.range 17).any (fun j => bi (bat exStr j) == bi c) = false := by
          rw [List.any_eq_false]
          intro j hj
          have := HA.out j (List.mem_range.1 hj)
          simpa using this
        have h := HD.out
        rw [this, Bool.false_or] at h
        exact h
      clear HD HA
      generalize isDigit c = d at hdc HI
      generalize bi c = x at *
      rcases (show x < 48 ∨ (48 ≤ x ∧ x ≤ 57) ∨ (57 < x ∧ x < 65) ∨ (65 ≤ x ∧ x ≤ 90) ∨ (90 < x ∧ x < 97) ∨ (97 ≤ x ∧ x ≤ 122) ∨ 122 < x from by omega) with h | ⟨h, h'⟩ | ⟨h, h'⟩ | ⟨h, h'⟩ | ⟨h, h'⟩ | ⟨h, h'⟩ | h
      all_goals
        first | have f90 : decide (x ≤ 90) = true := decide_eq_true (by omega) | have f90 : decide (x ≤ 90) = false := decide_eq_false (by omega)
        first | have f122 : decide (x ≤ 122) = true := decide_eq_true (by omega) | have f122 : decide (x ≤ 122) = false := decide_eq_false (by omega)
        go_wp2_with (go_at_call 50; refine hdc.mono ?_; rintro e w' ⟨rfl, rfl⟩)
        go_ret
        have h1 := HL.out
        have h2 := HI.out
        refine ⟨?_, rfl⟩
        rw [h1]
        first
          | (have hf : decide ((97 ≤ x ∧ x ≤ 122) ∨ (65 ≤ x ∧ x ≤ 90) ∨ (48 ≤ x ∧ x ≤ 57)) = false := decide_eq_false (by omega)
             have hg : decide (48 ≤ x ∧ x ≤ 57) = false := decide_eq_false (by omega)
             rw [hf]
             try rw [hg] at h2
             try subst h2
             rfl)
          | (have hf : decide ((97 ≤ x ∧ x ≤ 122) ∨ (65 ≤ x ∧ x ≤ 90) ∨ (48 ≤ x ∧ x ≤ 57)) = true := decide_eq_true (by omega)
             rw [hf]; rfl)
          | (have hf : decide ((97 ≤ x ∧ x ≤ 122) ∨ (65 ≤ x ∧ x ≤ 90) ∨ (48 ≤ x ∧ x ≤ 57)) = true := decide_eq_true (by omega)
             have hg : decide (48 ≤ x ∧ x ≤ 57) = true := decide_eq_true (by omega)
             rw [hg] at h2
             subst h2
             rw [hf]; rfl)
end Go.Proofs.YtppbijbgnhmdaaaDoor

/- What the reference takes between two marks. -/
namespace Go.Proofs.YtppbijbgnhmdaaaDoor
open Go.RowKit

theorem app_one (acc bs : List UInt8) (q : Nat) (h : q < bs.length) : bstr acc ++ bstr ((bs.drop q).take (q + 1 - q)) = bstr (acc ++ [bs[q]]) := by
  have e : q + 1 - q = 1 := by omega
  rw [e, List.drop_eq_getElem_cons h, List.take_succ_cons, List.take_zero]
  apply ByteArray.ext
  simp [bstr]
/-- What the reference's quoted hands back. -/
def RQ (r : QRes) (v : Value) : Prop := match r with
  | .ok t n => v = .tuple #[.string (bstr t), .int .i64 ((n : Int) + 1), .int .i64 0]
  | .err c => v = .tuple #[.string ⟨#[]⟩, .int .i64 0, .int .i64 c]
theorem RQ.fin {m : UInt8} {bs acc : List UInt8} {p q : Nat} (hq : p < q) (hs : qscan m (bs.drop (p + 1)) = QRes.pre acc (q - (p + 1)) (.ok [] 1)) : RQ (qscan m (bs.drop (p + 1))) (.tuple #[.string (bstr acc), .int .i64 ((q : Int) + 1 - (p : Int)), .int .i64 0]) := by
  rw [hs]
  show _ = _
  have e : (q : Int) + 1 - (p : Int) = ((q - (p + 1) + 1 : Nat) : Int) + 1 := by omega
  rw [e]; simp
theorem RQ.bad {m : UInt8} {bs acc : List UInt8} {p q : Nat} (c : Int) (hs : qscan m (bs.drop (p + 1)) = QRes.pre acc (q - (p + 1)) (.err c)) : RQ (qscan m (bs.drop (p + 1))) (.tuple #[.string ⟨#[]⟩, .int .i64 0, .int .i64 c]) := by
  rw [hs]; rfl

set_option maxHeartbeats 4000000 in
set_option maxRecDepth 100000 in
theorem rquoted_calls (A : Option Addr) (cap p : Nat) (m : UInt8) (bs : List UInt8) (w : World) (hb : Bys w A bs) (hp : p < bs.length) (hl : bs.length ≤ 1048576) (hcap : bs.length ≤ cap) :
    Calls Tryd.prog 47 #[.slice A bs.length cap, .int .i64 ((p : Nat) : Int), .int .u8 (bi m)] w fun e w' => (∃ v, e = .returned v ∧ RQ (qscan m (bs.drop (p + 1))) v) ∧ w = w' := by
  have HC := Lib.hid hcap
  clear hcap
  have hrm := bi_range m
  go_enter Tryd.func47, Tryd.ntmps47
  go_wp2
  go_loop [9, 10] (fun v u => ∃ (q : Nat) (acc : List UInt8), u = .int .i64 (q : Int) ∧ v = .string (bstr acc) ∧ p < q ∧ q ≤ bs.length ∧ acc.length ≤ q ∧ qscan m (bs.drop (p + 1)) = (qscan m (bs.drop q)).pre acc (q - (p + 1))) (fun _ u => bs.length - (intOf u).toNat)
  case atStart => exact ⟨p + 1, [], by go_num, rfl, Nat.lt_succ_self _, hp, Nat.zero_le _, by rw [Nat.sub_self, QRes.pre_nil]⟩
  case round =>
    obtain ⟨q, acc, rfl, rfl, hpq, hq, hacc, hspec⟩ := hrel
    have HS := Lib.hid hspec
    clear hspec
    have hpre : ∀ (c : UInt8) (k : Nat) (r : QRes), 0 < k → qscan m (bs.drop q) = r.pre [c] k → qscan m (bs.drop (p + 1)) = r.pre (acc ++ [c]) (q + k - (p + 1)) := fun c k r hk h => by
      rw [HS.out, h, QRes.pre_pre]
      congr 1; omega
    have HP := Lib.hid hpre
    clear hpre
    by_cases hlt : q < bs.length
    · obtain ⟨ad, rfl, hc⟩ := hb.out q hlt
      have hsl := fun W => run_sub W (some ad) bs.length cap q (q + 1) (by omega) (by have := HC.out; omega)
      simp only [Int.natCast_add, Int.natCast_one] at hsl
      have hcv := conv_sub w (some ad) bs q (q + 1) cap hb (by omega) hlt (by have := HC.out; omega)
      have happ := app_one acc bs q hlt
      have hal : (acc ++ [bs[q]]).length ≤ q + 1 := by simp; omega
      have HAL := Lib.hid hal
      clear hal
      generalize subSl (some ad) q (q + 1) cap = sv at hsl hcv
      generalize hs1 : bstr ((bs.drop q).take (q + 1 - q)) = s1 at hcv happ
      have hs1l : s1.size = 1 := by rw [← hs1]; simp [bstr_size]; omega
      clear hs1
      have hal0 : (bstr acc).size ≤ q := by rw [bstr_size]; exact hacc
      by_cases e1 : bi bs[q] = bi m
      · by_cases hpair : bi m = 34 ∧ ∃ h2 : q + 1 < bs.length, bi bs[q + 1] = bi m
        · obtain ⟨e2, hlt2, e3⟩ := hpair
          obtain ⟨ad', e, hc2⟩ := hb.out (q + 1) hlt2
          cases e
          rw [add_succ] at hc2
          have HN := Lib.hid (HP.out _ 2 _ (by omega) (qscan_pair m bs q hlt hlt2 e1 e2 e3))
          have f1 : (bi bs[q] == bi m) = true := by simpa using e1
          have f2 : (bi m == 34) = true := by simpa using e2
          have f3 : (bi bs[q + 1] == bi m) = true := by simpa using e3
          clear e1 e2 e3 HS HP
          generalize bs[q + 1] = d at hc2 f3
          generalize bs[q] = c at hc f1 HN happ HAL
          have hd : decide (((q : Int) + 1) < (bs.length : Int)) = true := by simp; omega
          go_wp2
          go_round
          case rel => exact ⟨q + 1 + 1, acc ++ [c], by go_num, rfl, by omega, hlt2, by have := HAL.out; omega, HN.out⟩
          case measure => simp [intOf]; omega
        · have HN := Lib.hid (HS.out.trans (congrArg (fun r => QRes.pre acc (q - (p + 1)) r) (qscan_close m bs q hlt e1 hpair)))
          have f1 : (bi bs[q] == bi m) = true := by simpa using e1
          by_cases e2 : bi m = 34
          · have f2 : (bi m == 34) = true := by simpa using e2
            by_cases hlt2 : q + 1 < bs.length
            · have e3 : ¬ bi bs[q + 1] = bi m := fun e3 => hpair ⟨e2, hlt2, e3⟩
              obtain ⟨ad', e, hc2⟩ := hb.out (q + 1) hlt2
              cases e
              rw [add_succ] at hc2
              have f3 : (bi bs[q + 1] == bi m) = false := by simpa using e3
              clear e1 e2 e3 HS HP hpair
              generalize bs[q + 1] = d at hc2 f3
              generalize bs[q] = c at hc f1
              have hd : decide (((q : Int) + 1) < (bs.length : Int)) = true := by simp; omega
              go_wp2
              go_ret3
              exact ⟨⟨_, rfl, RQ.fin hpq HN.out⟩, rfl⟩
            · clear e1 e2 HS HP hpair
              generalize bs[q] = c at hc f1
              have hd : decide (((q : Int) + 1) < (bs.length : Int)) = false := by simp; omega
              go_wp2
              go_ret3
              exact ⟨⟨_, rfl, RQ.fin hpq HN.out⟩, rfl⟩
          · have f2 : (bi m == 34) = false := by simpa using e2
            clear e1 e2 HS HP hpair
            generalize bs[q] = c at hc f1
            go_wp2
            go_ret3
            exact ⟨⟨_, rfl, RQ.fin hpq HN.out⟩, rfl⟩
      · have f1 : (bi bs[q] == bi m) = false := by simpa using e1
        have hrc := bi_range bs[q]
        have hcall := inner_calls bs[q] w
        cases hin : isInner bs[q] with
        | false =>
          rw [hin] at hcall
          have HN := Lib.hid (HS.out.trans (congrArg (fun r => QRes.pre acc (q - (p + 1)) r) (qscan_bad m bs q hlt e1 (by simp [badIn, hin]))))
          clear e1 HS HP hin
          generalize bs[q] = c at hc f1 hrc hcall
          go_wp2_with (go_at_call 59; refine hcall.mono ?_; rintro e w' ⟨rfl, rfl⟩)
          go_ret3
          exact ⟨⟨_, rfl, RQ.bad _ HN.out⟩, rfl⟩
        | true =>
          rw [hin] at hcall
          by_cases e4 : bi m = 124
          · have f4 : (bi m == 124) = true := by simpa using e4
            by_cases e5 : bi bs[q] = 92
            · have HN := Lib.hid (HS.out.trans (congrArg (fun r => QRes.pre acc (q - (p + 1)) r) (qscan_bad m bs q hlt e1 (by simp [badIn, e4, e5]))))
              have f5 : (bi bs[q] == 92) = true := by simpa using e5
              clear e1 HS HP hin e4 e5
              generalize bs[q] = c at hc f1 hrc hcall f5
              go_wp2_with (go_at_call 59; refine hcall.mono ?_; rintro e w' ⟨rfl, rfl⟩)
              go_ret3
              exact ⟨⟨_, rfl, RQ.bad _ HN.out⟩, rfl⟩
            · have HN := Lib.hid (HP.out _ 1 _ (by omega) (qscan_go m bs q hlt e1 (by simp [badIn, hin, e5])))
              have f5 : (bi bs[q] == 92) = false := by simpa using e5
              clear e1 HS HP hin e4 e5
              generalize bs[q] = c at hc f1 hrc hcall f5 HN happ HAL
              go_wp2_with (go_at_call 59; refine hcall.mono ?_; rintro e w' ⟨rfl, rfl⟩)
              go_round
              case rel => exact ⟨q + 1, acc ++ [c], by go_num, rfl, by omega, hlt, HAL.out, HN.out⟩
              case measure => simp [intOf]; omega
          · have HN := Lib.hid (HP.out _ 1 _ (by omega) (qscan_go m bs q hlt e1 (by simp [badIn, hin, e4])))
            have f4 : (bi m == 124) = false := by simpa using e4
            clear e1 HS HP hin e4
            generalize bs[q] = c at hc f1 hrc hcall HN happ HAL
            go_wp2_with (go_at_call 59; refine hcall.mono ?_; rintro e w' ⟨rfl, rfl⟩)
            go_round
            case rel => exact ⟨q + 1, acc ++ [c], by go_num, rfl, by omega, hlt, HAL.out, HN.out⟩
            case measure => simp [intOf]; omega
    · obtain rfl : q = bs.length := by omega
      have HN := Lib.hid (HS.out.trans (congrArg (fun r => QRes.pre acc (bs.length - (p + 1)) r) (qscan_end m bs)))
      clear HS HP
      go_wp2
      go_ret3
      exact ⟨⟨_, rfl, RQ.bad _ HN.out⟩, rfl⟩
end Go.Proofs.YtppbijbgnhmdaaaDoor


/- The reference's SameAll. -/
import Derived.Test.YtppbijbgnhmdaaaDoorTreeSame
namespace Go.Proofs.YtppbijbgnhmdaaaDoor
open Go.RowKit Forest

set_option maxHeartbeats 4000000 in
set_option maxRecDepth 100000 in
theorem sameAll_calls (F G : Forest) (A B : Option Addr) (c d : Nat) (w : World) (hF : Lies w F A 0) (hG : Lies w G B 0) (hn : F.len ≤ c) (hc : c ≤ maxLen) (hm : G.len ≤ d) (hd : d ≤ maxLen) :
    Calls Tryd.prog 21 #[.slice A F.len c, .slice B G.len d] w fun e w' => e = .returned (.bool (eqF F G)) ∧ Below w.heap.size w w' := by
  have hn9 : F.len ≤ 9223372036854775807 := Nat.le_trans hn hc
  have hm9 : G.len ≤ 9223372036854775807 := Nat.le_trans hm hd
  by_cases hlen : F.len = G.len
  · obtain ⟨E, HN⟩ : ∃ E, Hid (E = eqF F G) := ⟨_, rfl⟩
    rw [← HN.out]
    rw [hlen] at hn hn9 ⊢
    have HLEN := Lib.hid hlen
    clear hlen
    go_enter Tryd.func21, Tryd.ntmps21
    go_wp2
    go_loopw [5] (fun v wr => ∃ (i : Nat) (F' G' : Forest), v = .int .i64 (i : Int) ∧ i + F'.len = G.len ∧ i + G'.len = G.len ∧ Lies wr F' A i ∧ Lies wr G' B i ∧ eqF F' G' = eqF F G ∧ Below w.heap.size w wr) (fun v _ => G.len - (intOf v).toNat)
    case atStart => exact ⟨0, F, G, rfl, by have := HLEN.out; omega, Nat.zero_add _, hF, hG, rfl, .refl _ _⟩
    case round =>
      obtain ⟨i, F', G', rfl, hlF, hlG, hLF, hLG, heq, hbw⟩ := hrel
      have HEQ := Lib.hid heq
      have HBW := Lib.hid hbw
      clear heq hbw
      cases F' with
      | nil =>
        have hil : i = G.len := by simpa [Forest.len] using hlF
        have hE : Hid (E = true) := by
          show _ = _
          rw [HN.out, ← HEQ.out]
          cases G' with
          | nil => rfl
          | cons _ _ _ _ _ _ => simp [Forest.len] at hlG; omega
        subst hil
        clear hLF hLG hlF hlG
        go_wp2
        go_ret
        rw [hE.out]
        exact ⟨rfl, HBW.out⟩
      | cons l1 k1 x1 a1 kids rest =>
        cases G' with
        | nil => simp [Forest.len] at hlF hlG; omega
        | cons l2 k2 x2 a2 kids' rest' =>
          have hlt : i < G.len := by simp [Forest.len] at hlF; omega
          obtain ⟨⟨g, o, rfl, h0, h1, h2, h3, A', c', h4, h5, h6, h7⟩, hr⟩ := hLF
          obtain ⟨⟨g', o', rfl, m0, m1, m2, m3, B', d', m4, m5, m6, m7⟩, mr⟩ := hLG
          have hbd : Below wr.heap.size wr wr.drew := (Below.refl _ wr).drew
          have hcall := rsame_calls kids kids' l1 l2 k1 k2 x1 x2 a1 a2 A' B' c' d' wr.drew (h7.below hbd) (m7.below hbd) h5 h6 m5 m6
          have HR := Lib.hid hr
          have HM := Lib.hid mr
          clear hr mr h7 m7
          go_wp2
          go_still_tail 8, (by kernel_rfl)
          change wpList _ _ _ _ _ wr.drew
          go_wp2_with fail
          refine hcall.mono ?_
          clear hcall
          rintro e w2 ⟨rfl, hb2⟩
          have hb3 : Below wr.heap.size wr w2 := bel_trans hbd hb2
          have HB3 := Lib.hid (bel_trans HBW.out hb3)
          have HR2 := Lib.hid (HR.out.below hb3)
          have HM2 := Lib.hid (HM.out.below hb3)
          have heq2 : (eqT l1 k1 x1 kids l2 k2 x2 kids' && eqF rest rest') = eqF F G := HEQ.out
          have HEQ2 := Lib.hid heq2
          clear hb2 hb3 hbd heq2 HEQ
          cases hq : eqT l1 k1 x1 kids l2 k2 x2 kids' with
          | true =>
            have HE3 : Hid (eqF rest rest' = eqF F G) := by
              show _ = _
              have := HEQ2.out
              rw [hq, Bool.true_and] at this; exact this
            go_wp2
            go_round
            case rel => exact ⟨i + 1, rest, rest', by go_num, by simp [Forest.len] at hlF; omega, by simp [Forest.len] at hlG; omega, HR2.out, HM2.out, HE3.out, HB3.out⟩
            case measure => simp [intOf]; omega
          | false =>
            have HE3 : Hid (E = false) := by
              show _ = _
              have := HEQ2.out
              rw [hq, Bool.false_and] at this
              rw [HN.out, this]
            go_wp2
            go_ret
            rw [HE3.out]
            exact ⟨rfl, HB3.out⟩
  · have hne : eqF F G = false := by
      cases h : eqF F G with
      | false => rfl
      | true => exact absurd (eqF_len F G h) hlen
    have HN : Hid (eqF F G = false) := hne
    have hlen2 : ((F.len : Int) != (G.len : Int)) = true := by simp; omega
    clear hne
    go_enter Tryd.func21, Tryd.ntmps21
    go_wp2
    go_ret
    rw [HN.out]
    exact ⟨rfl, .refl _ _⟩
end Go.Proofs.YtppbijbgnhmdaaaDoor

/- tree.Same, by slices.EqualFunc. -/
import Derived.Test.YtppbijbgnhmdaaaDoorTreeSame
import Derived.Laws.EntriesVeiled
namespace Go.Proofs.YtppbijbgnhmdaaaDoor
open Go.RowKit Forest

def TSameDoes (F : Forest) : Prop := ∀ (G : Forest) (l l' : Bool) (k k' : Int) (x x' : List UInt8) (a a' : Int) (A B : Option Addr) (c d : Nat) (w : World), Lies w F A 0 → Lies w G B 0 → F.len ≤ c → c ≤ maxLen → G.len ≤ d → d ≤ maxLen →
  Calls Tryd.prog 15 #[.agg #[.bool l, .int .u8 k, .string (bstr x), .int .i64 a, .slice A F.len c], .agg #[.bool l', .int .u8 k', .string (bstr x'), .int .i64 a', .slice B G.len d]] w fun e w' =>
    e = .returned (.bool (eqT l k x F l' k' x' G)) ∧ Below w.heap.size w w'

set_option maxHeartbeats 4000000 in
set_option maxRecDepth 100000 in
theorem equal_walk (F : Forest) (ih : AllKids TSameDoes F) (G : Forest) (A B : Option Addr) (c d : Nat) (w : World) (hF : Lies w F A 0) (hG : Lies w G B 0) (hn : F.len ≤ c) (hc : c ≤ maxLen) (hm : G.len ≤ d) (hd : d ≤ maxLen) :
    Calls Tryd.prog 33 #[.slice A F.len c, .slice B G.len d, .func (.func 15) #[] #[]] w fun e w' => e = .returned (.bool (eqF F G)) ∧ Below w.heap.size w w' := by
  have hn9 : F.len ≤ 9223372036854775807 := Nat.le_trans hn hc
  have hm9 : G.len ≤ 9223372036854775807 := Nat.le_trans hm hd
  by_cases hlen : F.len = G.len
  · obtain ⟨E, HN⟩ : ∃ E, Hid (E = eqF F G) := ⟨_, rfl⟩
    rw [← HN.out]
    rw [hlen] at hn hn9 ⊢
    have HLEN := Lib.hid hlen
    clear hlen
    go_enter Tryd.func33, Tryd.ntmps33
    go_wp2
    go_loopw [17] (fun v wr => ∃ (i : Nat) (F' G' : Forest), v = .int .i64 (i : Int) ∧ i + F'.len = G.len ∧ i + G'.len = G.len ∧ Lies wr F' A i ∧ Lies wr G' B i ∧ AllKids TSameDoes F' ∧ eqF F' G' = eqF F G ∧ Below w.heap.size w wr) (fun v _ => G.len - (intOf v).toNat)
    case atStart => exact ⟨0, F, G, rfl, by have := HLEN.out; omega, Nat.zero_add _, hF, hG, ih, rfl, .refl _ _⟩
    case round =>
      obtain ⟨i, F', G', rfl, hlF, hlG, hLF, hLG, hK, heq, hbw⟩ := hrel
      have HEQ := Lib.hid heq
      have HBW := Lib.hid hbw
      clear heq hbw
      cases F' with
      | nil =>
        have hil : i = G.len := by simpa [Forest.len] using hlF
        have hE : Hid (E = true) := by
          show _ = _
          rw [HN.out, ← HEQ.out]
          cases G' with
          | nil => rfl
          | cons _ _ _ _ _ _ => simp [Forest.len] at hlG; omega
        subst hil
        clear hLF hLG hlF hlG hK
        go_wp2
        go_ret
        rw [hE.out]
        exact ⟨rfl, HBW.out⟩
      | cons l1 k1 x1 a1 kids rest =>
        cases G' with
        | nil => simp [Forest.len] at hlF hlG; omega
        | cons l2 k2 x2 a2 kids' rest' =>
          have hlt : i < G.len := by simp [Forest.len] at hlF; omega
          obtain ⟨⟨g, o, rfl, h0, h1, h2, h3, A', c', h4, h5, h6, h7⟩, hr⟩ := hLF
          obtain ⟨⟨g', o', rfl, m0, m1, m2, m3, B', d', m4, m5, m6, m7⟩, mr⟩ := hLG
          have hb2 := below_two wr (.cells #[.bool l1, .int .u8 k1, .string (bstr x1), .int .i64 a1, .slice A' kids.len c'] 27) (.cells #[.bool l2, .int .u8 k2, .string (bstr x2), .int .i64 a2, .slice B' kids'.len d'] 27)
          have hcall := hK.1 kids' l1 l2 k1 k2 x1 x2 a1 a2 A' B' c' d' _ (h7.below hb2) (m7.below hb2) h5 h6 m5 m6
          have n0 := cell_alloc m0 (.cells #[.bool l1, .int .u8 k1, .string (bstr x1), .int .i64 a1, .slice A' kids.len c'] 27)
          have n1 := cell_alloc m1 (.cells #[.bool l1, .int .u8 k1, .string (bstr x1), .int .i64 a1, .slice A' kids.len c'] 27)
          have n2 := cell_alloc m2 (.cells #[.bool l1, .int .u8 k1, .string (bstr x1), .int .i64 a1, .slice A' kids.len c'] 27)
          have n3 := cell_alloc m3 (.cells #[.bool l1, .int .u8 k1, .string (bstr x1), .int .i64 a1, .slice A' kids.len c'] 27)
          have n4 := cell_alloc m4 (.cells #[.bool l1, .int .u8 k1, .string (bstr x1), .int .i64 a1, .slice A' kids.len c'] 27)
          have HB2 := Lib.hid hb2
          have HR := Lib.hid hr
          have HM := Lib.hid mr
          have HK := Lib.hid hK.2
          clear hK hr mr h7 m7 hb2
          go_wp2_with fail
          refine hcall.mono ?_
          clear hcall
          rintro e w2 ⟨rfl, hb3⟩
          have hb4 : Below wr.heap.size wr w2 := bel_trans HB2.out hb3
          have HB3 := Lib.hid (bel_trans HBW.out hb4)
          have HR2 := Lib.hid (HR.out.below hb4)
          have HM2 := Lib.hid (HM.out.below hb4)
          have heq2 : (eqT l1 k1 x1 kids l2 k2 x2 kids' && eqF rest rest') = eqF F G := HEQ.out
          have HEQ2 := Lib.hid heq2
          clear hb3 hb4 heq2 HEQ
          cases hq : eqT l1 k1 x1 kids l2 k2 x2 kids' with
          | true =>
            have HE3 : Hid (eqF rest rest' = eqF F G) := by
              show _ = _
              have := HEQ2.out
              rw [hq, Bool.true_and] at this; exact this
            go_wp2
            go_round
            case rel => exact ⟨i + 1, rest, rest', by go_num, by simp [Forest.len] at hlF; omega, by simp [Forest.len] at hlG; omega, HR2.out, HM2.out, HK.out, HE3.out, HB3.out⟩
            case measure => simp [intOf]; omega
          | false =>
            have HE3 : Hid (E = false) := by
              show _ = _
              have := HEQ2.out
              rw [hq, Bool.false_and] at this
              rw [HN.out, this]
            go_wp2
            go_ret
            rw [HE3.out]
            exact ⟨rfl, HB3.out⟩
  · have hne : eqF F G = false := by
      cases h : eqF F G with
      | false => rfl
      | true => exact absurd (eqF_len F G h) hlen
    have HN : Hid (eqF F G = false) := hne
    have hlen2 : ((F.len : Int) != (G.len : Int)) = true := by simp; omega
    clear hne
    go_enter Tryd.func33, Tryd.ntmps33
    go_wp2
    go_ret
    rw [HN.out]
    exact ⟨rfl, .refl _ _⟩
set_option maxHeartbeats 4000000 in
set_option maxRecDepth 100000 in
theorem tsame_walk (F : Forest) (ih : AllKids TSameDoes F) : TSameDoes F := by
  intro G l l' k k' x x' a a' A B c d w hF hG hn hc hm hd
  have hB : Hid (∀ o1 o2, Below w.heap.size w ((w.alloc o1).alloc o2)) := fun o1 o2 => below_two w o1 o2
  have hEQ : Hid (∀ W, Below w.heap.size w W → Calls Tryd.prog 33 #[.slice A F.len c, .slice B G.len d, .func (.func 15) #[] #[]] W fun e w' => e = .returned (.bool (eqF F G)) ∧ Below W.heap.size W w') :=
    fun W h => equal_walk F ih G A B c d W (hF.below h) (hG.below h) hn hc hm hd
  clear ih
  by_cases hl : l = l'
  · subst hl
    have hll : (l == l) = true := by cases l <;> rfl
    by_cases hk : k = k'
    · subst hk
      by_cases hx : x = x'
      · subst hx
        have HN : Hid (eqT l k x F l k x G = eqF F G) := by show _ = _; simp [eqT]
        generalize eqT l k x F l k x G = E at *
        go_enter Tryd.func15, Tryd.ntmps15
        go_wp2_with fail
        refine (hEQ.out _ (hB.out _ _)).mono ?_
        rintro e w2 ⟨rfl, hb2⟩
        have HB2 := Lib.hid (bel_trans (hB.out _ _) hb2)
        clear hb2
        go_wp2
        go_ret
        rw [HN.out]
        exact ⟨rfl, HB2.out⟩
      · have hb : ((bstr x).toList == (bstr x').toList) = false := by rw [bstr_list, bstr_list]; simpa using hx
        have hb2 : ¬ (bstr x).toList = (bstr x').toList := by rw [bstr_list, bstr_list]; exact hx
        have HN : Hid (eqT l k x F l k x' G = false) := by
          show _ = _
          have : (x == x') = false := by simpa using hx
          simp [eqT, this]
        clear hx
        go_enter Tryd.func15, Tryd.ntmps15
        go_wp2
        go_ret
        rw [HN.out]
        exact ⟨rfl, hB.out _ _⟩
    · have hkk : (k == k') = false := by simpa using hk
      have HN : Hid (eqT l k x F l k' x' G = false) := by show _ = _; simp [eqT, hkk]
      clear hk
      go_enter Tryd.func15, Tryd.ntmps15
      go_wp2
      go_ret
      rw [HN.out]
      exact ⟨rfl, hB.out _ _⟩
  · have HN : Hid (eqT l k x F l' k' x' G = false) := by
      show _ = _
      have : (l == l') = false := by simpa using hl
      simp [eqT, this]
    cases l <;> cases l'
    · exact absurd rfl hl
    · clear hl
      go_enter Tryd.func15, Tryd.ntmps15
      go_wp2
      go_ret
      rw [HN.out]
      exact ⟨rfl, hB.out _ _⟩
    · clear hl
      go_enter Tryd.func15, Tryd.ntmps15
      go_wp2
      go_ret
      rw [HN.out]
      exact ⟨rfl, hB.out _ _⟩
    · exact absurd rfl hl
theorem tsame_calls : ∀ F, TSameDoes F := kids_induct tsame_walk
end Go.Proofs.YtppbijbgnhmdaaaDoor

/- The reference's Same. -/
import Derived.Test.YtppbijbgnhmdaaaDoorTks
import Derived.StillTailTactics
namespace Go.Proofs.YtppbijbgnhmdaaaDoor
open Go.RowKit Forest

def eqF : Forest → Forest → Bool
  | .nil, .nil => true
  | .cons l k x _ kids rest, .cons l' k' x' _ kids' rest' => (l == l' && k == k' && x == x' && eqF kids kids') && eqF rest rest'
  | _, _ => false
theorem eqF_len : ∀ F G, eqF F G = true → F.len = G.len
  | .nil, .nil, _ => rfl
  | .cons _ _ _ _ _ rest, .cons _ _ _ _ _ rest', h => by
    simp only [eqF, Bool.and_eq_true] at h
    have := eqF_len rest rest' h.2
    simp [Forest.len, this]
  | .nil, .cons _ _ _ _ _ _, h => by simp [eqF] at h
  | .cons _ _ _ _ _ _, .nil, h => by simp [eqF] at h
def eqT (l : Bool) (k : Int) (x : List UInt8) (F : Forest) (l' : Bool) (k' : Int) (x' : List UInt8) (G : Forest) : Bool := l == l' && k == k' && x == x' && eqF F G
theorem bstr_list (x : List UInt8) : (bstr x).toList = x := by rw [ByteArray.toList_eq]; rfl

def SameDoes (F : Forest) : Prop := ∀ (G : Forest) (l l' : Bool) (k k' : Int) (x x' : List UInt8) (a a' : Int) (A B : Option Addr) (c d : Nat) (w : World), Lies w F A 0 → Lies w G B 0 → F.len ≤ c → c ≤ maxLen → G.len ≤ d → d ≤ maxLen →
  Calls Tryd.prog 16 #[.agg #[.bool l, .int .u8 k, .string (bstr x), .int .i64 a, .slice A F.len c], .agg #[.bool l', .int .u8 k', .string (bstr x'), .int .i64 a', .slice B G.len d]] w fun e w' =>
    e = .returned (.bool (eqT l k x F l' k' x' G)) ∧ Below w.heap.size w w'

set_option maxHeartbeats 4000000 in
set_option maxRecDepth 100000 in
theorem same_walk (F : Forest) (ih : AllKids SameDoes F) : SameDoes F := by
  intro G l l' k k' x x' a a' A B c d w hF hG hn hc hm hd
  have hn9 : F.len ≤ 9223372036854775807 := Nat.le_trans hn hc
  have hm9 : G.len ≤ 9223372036854775807 := Nat.le_trans hm hd
  have hB : Hid (∀ o1 o2, Below w.heap.size w ((w.alloc o1).alloc o2)) := fun o1 o2 => below_two w o1 o2
  by_cases hl : l = l'
  · subst hl
    have hll : (l != l) = false := by cases l <;> rfl
    by_cases hk : k = k'
    · subst hk
      by_cases hx : x = x'
      · subst hx
        by_cases hlen : F.len = G.len
        · have HN : Hid (eqT l k x F l k x G = eqF F G) := by show _ = _; simp [eqT]
          generalize eqT l k x F l k x G = E at *
          rw [hlen] at hn hn9 ⊢
          have HLEN := Lib.hid hlen
          clear hlen
          go_enter Tryd.func16, Tryd.ntmps16
          go_wp2
          have hW : Hid (((w.alloc (Obj.cells #[Value.bool l, Value.int .u8 k, Value.string (bstr x), Value.int .i64 a, Value.slice A G.len c] 27)).alloc (Obj.cells #[Value.bool l, Value.int .u8 k, Value.string (bstr x), Value.int .i64 a', Value.slice B G.len d] 27)).cell? ⟨w.heap.size, 4, none⟩ = some (.slice A G.len c) ∧ ((w.alloc (Obj.cells #[Value.bool l, Value.int .u8 k, Value.string (bstr x), Value.int .i64 a, Value.slice A G.len c] 27)).alloc (Obj.cells #[Value.bool l, Value.int .u8 k, Value.string (bstr x), Value.int .i64 a', Value.slice B G.len d] 27)).cell? ⟨w.heap.size + 1, 4, none⟩ = some (.slice B G.len d)) :=
            ⟨cell_alloc (World.cell?_alloc_mark w #[Value.bool l, Value.int .u8 k, Value.string (bstr x), Value.int .i64 a, Value.slice A G.len c] 27 (0, 0) 4) _, by
              have := World.cell?_alloc_mark (w.alloc (Obj.cells #[Value.bool l, Value.int .u8 k, Value.string (bstr x), Value.int .i64 a, Value.slice A G.len c] 27)) #[Value.bool l, Value.int .u8 k, Value.string (bstr x), Value.int .i64 a', Value.slice B G.len d] 27 (0, 0) 4
              rw [World.size_alloc] at this
              exact this⟩
          have hBW := Lib.hid (hB.out (Obj.cells #[Value.bool l, Value.int .u8 k, Value.string (bstr x), Value.int .i64 a, Value.slice A G.len c] 27) (Obj.cells #[Value.bool l, Value.int .u8 k, Value.string (bstr x), Value.int .i64 a', Value.slice B G.len d] 27))
          have hF1 := hF.below hBW.out
          have hG1 := hG.below hBW.out
          generalize (w.alloc (Obj.cells #[Value.bool l, Value.int .u8 k, Value.string (bstr x), Value.int .i64 a, Value.slice A G.len c] 27)).alloc (Obj.cells #[Value.bool l, Value.int .u8 k, Value.string (bstr x), Value.int .i64 a', Value.slice B G.len d] 27) = W1 at *
          go_loopw [5] (fun v wr => ∃ (i : Nat) (F' G' : Forest), v = .int .i64 (i : Int) ∧ i + F'.len = G.len ∧ i + G'.len = G.len ∧ Lies wr F' A i ∧ Lies wr G' B i ∧ AllKids SameDoes F' ∧ eqF F' G' = eqF F G ∧ Below W1.heap.size W1 wr) (fun v _ => G.len - (intOf v).toNat)
          case atStart => exact ⟨0, F, G, rfl, by have := HLEN.out; omega, Nat.zero_add _, hF1, hG1, ih, rfl, .refl _ _⟩
          case round =>
            obtain ⟨i, F', G', rfl, hlF, hlG, hLF, hLG, hK, heq, hbw⟩ := hrel
            have c4 : wr.cell? ⟨w.heap.size, 4, none⟩ = some (.slice A G.len c) := (hbw.cell (World.block_lt_of_cell? W1 _ hW.out.1)).trans hW.out.1
            have c5 : wr.cell? ⟨w.heap.size + 1, 4, none⟩ = some (.slice B G.len d) := (hbw.cell (World.block_lt_of_cell? W1 _ hW.out.2)).trans hW.out.2
            have HEQ := Lib.hid heq
            have HBW := Lib.hid hbw
            clear heq hbw
            cases F' with
            | nil =>
              have hil : i = G.len := by simpa [Forest.len] using hlF
              have hE : Hid (E = true) := by
                show _ = _
                rw [HN.out, ← HEQ.out]
                cases G' with
                | nil => rfl
                | cons _ _ _ _ _ _ => simp [Forest.len] at hlG; omega
              subst hil
              clear hK hLF hLG hlF hlG
              go_wp2
              go_ret
              rw [hE.out]
              exact ⟨rfl, bel_trans hBW.out HBW.out⟩
            | cons l1 k1 x1 a1 kids rest =>
              cases G' with
              | nil => simp [Forest.len] at hlF hlG; omega
              | cons l2 k2 x2 a2 kids' rest' =>
                have hlt : i < G.len := by simp [Forest.len] at hlF; omega
                obtain ⟨⟨g, o, rfl, h0, h1, h2, h3, A', c', h4, h5, h6, h7⟩, hr⟩ := hLF
                obtain ⟨⟨g', o', rfl, m0, m1, m2, m3, B', d', m4, m5, m6, m7⟩, mr⟩ := hLG
                have hbd : Below wr.heap.size wr wr.drew := (Below.refl _ wr).drew
                have hcall := hK.1 kids' l1 l2 k1 k2 x1 x2 a1 a2 A' B' c' d' wr.drew (h7.below hbd) (m7.below hbd) h5 h6 m5 m6
                have HR := Lib.hid hr
                have HM := Lib.hid mr
                have HK := Lib.hid hK.2
                clear hK hr mr h7 m7
                go_wp2
                go_still_tail 10, (by kernel_rfl)
                change wpList _ _ _ _ _ wr.drew
                go_wp2_with fail
                refine hcall.mono ?_
                clear hcall
                rintro e w2 ⟨rfl, hb2⟩
                have hb3 : Below wr.heap.size wr w2 := bel_trans hbd hb2
                have HB3 := Lib.hid (bel_trans HBW.out hb3)
                have HR2 := Lib.hid (HR.out.below hb3)
                have HM2 := Lib.hid (HM.out.below hb3)
                have heq2 : (eqT l1 k1 x1 kids l2 k2 x2 kids' && eqF rest rest') = eqF F G := HEQ.out
                have HEQ2 := Lib.hid heq2
                clear hb2 hb3 hbd heq2 HEQ
                cases hq : eqT l1 k1 x1 kids l2 k2 x2 kids' with
                | true =>
                  have HE3 : Hid (eqF rest rest' = eqF F G) := by
                    show _ = _
                    have := HEQ2.out
                    rw [hq, Bool.true_and] at this; exact this
                  go_wp2
                  go_round
                  case rel => exact ⟨i + 1, rest, rest', by go_num, by simp [Forest.len] at hlF; omega, by simp [Forest.len] at hlG; omega, HR2.out, HM2.out, HK.out, HE3.out, HB3.out⟩
                  case measure => simp [intOf]; omega
                | false =>
                  have HE3 : Hid (E = false) := by
                    show _ = _
                    have := HEQ2.out
                    rw [hq, Bool.false_and] at this
                    rw [HN.out, this]
                  go_wp2
                  go_ret
                  rw [HE3.out]
                  exact ⟨rfl, bel_trans hBW.out HB3.out⟩
        · have hne : eqF F G = false := by
            cases h : eqF F G with
            | false => rfl
            | true => exact absurd (eqF_len F G h) hlen
          have HN : Hid (eqT l k x F l k x G = false) := by show _ = _; simp [eqT, hne]
          have hlen2 : ((F.len : Int) != (G.len : Int)) = true := by simp; omega
          go_enter Tryd.func16, Tryd.ntmps16
          go_wp2
          go_ret
          rw [HN.out]
          exact ⟨rfl, hB.out _ _⟩
      · have hb : ((bstr x).toList == (bstr x').toList) = false := by rw [bstr_list, bstr_list]; simpa using hx
        have hb2 : ¬ (bstr x).toList = (bstr x').toList := by rw [bstr_list, bstr_list]; exact hx
        have HN : Hid (eqT l k x F l k x' G = false) := by
          show _ = _
          have : (x == x') = false := by simpa using hx
          simp [eqT, this]
        clear hx
        go_enter Tryd.func16, Tryd.ntmps16
        go_wp2
        go_ret
        rw [HN.out]
        exact ⟨rfl, hB.out _ _⟩
    · have hkk : (k != k') = true := by simpa using hk
      have HN : Hid (eqT l k x F l k' x' G = false) := by
        show _ = _
        have : (k == k') = false := by simpa using hk
        simp [eqT, this]
      clear hk
      go_enter Tryd.func16, Tryd.ntmps16
      go_wp2
      go_ret
      rw [HN.out]
      exact ⟨rfl, hB.out _ _⟩
  · have HN : Hid (eqT l k x F l' k' x' G = false) := by
      show _ = _
      have : (l == l') = false := by simpa using hl
      simp [eqT, this]
    cases l <;> cases l'
    · exact absurd rfl hl
    · clear hl
      go_enter Tryd.func16, Tryd.ntmps16
      go_wp2
      go_ret
      rw [HN.out]
      exact ⟨rfl, hB.out _ _⟩
    · clear hl
      go_enter Tryd.func16, Tryd.ntmps16
      go_wp2
      go_ret
      rw [HN.out]
      exact ⟨rfl, hB.out _ _⟩
    · exact absurd rfl hl
theorem rsame_calls : ∀ F, SameDoes F := kids_induct same_walk
end Go.Proofs.YtppbijbgnhmdaaaDoor

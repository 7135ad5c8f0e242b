/- The reference's depth. -/
import Derived.Test.YtppbijbgnhmdaaaDoorTks
namespace Go.Proofs.YtppbijbgnhmdaaaDoor
open Go.RowKit Forest

def depT (l : Bool) (at_ : Nat) (F : Forest) : Nat := if l = true ∧ at_ ≤ 200 then topAt (at_ + 1) F + 1 else 0
theorem topAt_cons (at_ : Nat) (l : Bool) (k : Int) (x : List UInt8) (a : Int) (kids rest : Forest) : topAt at_ (.cons l k x a kids rest) = max (depT l at_ kids) (topAt at_ rest) := rfl
theorem topAt_le (at_ : Nat) (F : Forest) (h : at_ ≤ 201) : topAt at_ F + at_ ≤ 201 := by
  induction F generalizing at_ with
  | nil => simpa [topAt] using h
  | cons l k x a kids rest ihk ihr =>
    have h1 := ihr at_ h
    rw [topAt_cons]
    unfold depT
    by_cases hc : l = true ∧ at_ ≤ 200
    · have h2 := ihk (at_ + 1) (by omega)
      rw [if_pos hc]; omega
    · rw [if_neg hc]; omega

def DepthDoes (F : Forest) : Prop := ∀ (l : Bool) (k : Int) (x : List UInt8) (a : Int) (A : Option Addr) (c at_ : Nat) (w : World), Lies w F A 0 → F.len ≤ c → c ≤ maxLen → at_ ≤ 201 →
  Calls Tryd.prog 32 #[.agg #[.bool l, .int .u8 k, .string (bstr x), .int .i64 a, .slice A F.len c], .int .i64 ((at_ : Nat) : Int)] w fun e w' =>
    e = .returned (.int .i64 ((depT l at_ F : Nat) : Int)) ∧ Below w.heap.size w w'

set_option maxHeartbeats 2000000 in
theorem depth_walk (F : Forest) (ih : AllKids DepthDoes F) : DepthDoes F := by
  intro l k x a A c at_ w hF hn hc ha
  have hn9 : F.len ≤ 9223372036854775807 := Nat.le_trans hn hc
  have hB := Lib.hid (fun o => (Below.refl w.heap.size w).alloc (Nat.le_refl _) o)
  cases l with
  | false =>
    have HN : Hid (depT false at_ F = 0) := by show _ = _; unfold depT; rw [if_neg (by simp)]
    generalize depT false at_ F = D at *
    go_enter Tryd.func32, Tryd.ntmps32
    go_wp2
    go_ret
    rw [HN.out]
    exact ⟨rfl, hB.out _⟩
  | true =>
    by_cases h : at_ ≤ 200
    · have HN : Hid (depT true at_ F = topAt (at_ + 1) F + 1) := by show _ = _; unfold depT; rw [if_pos ⟨rfl, h⟩]
      have HL := Lib.hid (topAt_le (at_ + 1) F (by omega))
      generalize depT true at_ F = D at *
      have d1 : decide ((200 : Int) < (at_ : Int)) = false := by simp; omega
      go_enter Tryd.func32, Tryd.ntmps32
      go_wp2
      have hW : Hid (∀ j, j < 5 → (w.alloc (Obj.cells #[Value.bool true, Value.int .u8 k, Value.string (bstr x), Value.int .i64 a, Value.slice A F.len c] 27)).cell? ⟨w.heap.size, j, none⟩ = (#[Value.bool true, Value.int .u8 k, Value.string (bstr x), Value.int .i64 a, Value.slice A F.len c] : Array Value)[j]?) := fun j _ => World.cell?_alloc_mark w _ _ (0, 0) j
      have hBW := Lib.hid (hB.out (Obj.cells #[Value.bool true, Value.int .u8 k, Value.string (bstr x), Value.int .i64 a, Value.slice A F.len c] 27))
      have hF1 := hF.below hBW.out
      generalize w.alloc (Obj.cells #[Value.bool true, Value.int .u8 k, Value.string (bstr x), Value.int .i64 a, Value.slice A F.len c] 27) = W1 at *
      go_loopw [5, 6] (fun v u wr => ∃ (i acc : Nat) (G : Forest), u = .int .i64 (i : Int) ∧ v = .int .i64 (acc : Int) ∧ i + G.len = F.len ∧ Lies wr G A i ∧ AllKids DepthDoes G ∧ max acc (topAt (at_ + 1) G) = topAt (at_ + 1) F ∧ Below W1.heap.size W1 wr) (fun _ u _ => F.len - (intOf u).toNat)
      case atStart => exact ⟨0, 0, F, rfl, rfl, Nat.zero_add _, hF1, ih, Nat.zero_max _, .refl _ _⟩
      case round =>
        obtain ⟨i, acc, G, rfl, rfl, hlen, hG, hK, hmax, hbw⟩ := hrel
        have c4 : wr.cell? ⟨w.heap.size, 4, none⟩ = some (.slice A F.len c) := by
          have h1 := hW.out 4 (by omega)
          exact (hbw.cell (World.block_lt_of_cell? W1 _ (h1.trans rfl))).trans h1
        have HMX := Lib.hid hmax
        have HBW := Lib.hid hbw
        clear hmax hbw
        cases G with
        | nil =>
          have hil : i = F.len := by simpa [Forest.len] using hlen
          subst hil
          have hacc : acc = topAt (at_ + 1) F := by have := HMX.out; simpa [topAt] using this
          have hle : acc ≤ 200 := by have := HL.out; omega
          have HN2 : Hid (D = acc + 1) := by show _ = _; rw [HN.out, hacc]
          clear hacc hG hK
          go_wp2
          go_ret
          rw [HN2.out]
          exact ⟨by simp, bel_trans hBW.out HBW.out⟩
        | cons l' k' x' a' kids rest =>
          have hlt : i < F.len := by simp [Forest.len] at hlen; omega
          obtain ⟨⟨g, o, rfl, h0, h1, h2, h3, A', c', h4, h5, h6, h7⟩, hr⟩ := hG
          have hcall := hK.1 l' k' x' a' A' c' (at_ + 1) wr h7 h5 h6 (by omega)
          simp only [Int.natCast_add, Int.natCast_one] at hcall
          go_wp2_with fail
          refine hcall.mono ?_
          rintro e w2 ⟨rfl, hb2⟩
          have HB2 := Lib.hid (bel_trans HBW.out hb2)
          have HR := Lib.hid (hr.below hb2)
          have HK := Lib.hid hK.2
          have hmx := HMX.out
          rw [topAt_cons] at hmx
          clear hcall hK hr h7 hb2 HMX
          generalize depT l' (at_ + 1) kids = d at *
          have HMX := Lib.hid hmx
          clear hmx
          by_cases hda : acc < d
          · have d2 : decide ((acc : Int) < (d : Int)) = true := by simp; omega
            have HM2 : Hid (max d (topAt (at_ + 1) rest) = topAt (at_ + 1) F) := by show _ = _; rw [← HMX.out]; omega
            go_wp2
            go_round
            case rel => exact ⟨i + 1, d, rest, by go_num, rfl, by simp [Forest.len] at hlen; omega, HR.out, HK.out, HM2.out, HB2.out⟩
            case measure => simp [intOf]; omega
          · have d2 : decide ((acc : Int) < (d : Int)) = false := by simp; omega
            have HM2 : Hid (max acc (topAt (at_ + 1) rest) = topAt (at_ + 1) F) := by show _ = _; rw [← HMX.out]; omega
            go_wp2
            go_round
            case rel => exact ⟨i + 1, acc, rest, by go_num, rfl, by simp [Forest.len] at hlen; omega, HR.out, HK.out, HM2.out, HB2.out⟩
            case measure => simp [intOf]; omega
    · have HN : Hid (depT true at_ F = 0) := by show _ = _; unfold depT; rw [if_neg (fun hc => h hc.2)]
      generalize depT true at_ F = D at *
      have d1 : decide ((200 : Int) < (at_ : Int)) = true := by simp; omega
      go_enter Tryd.func32, Tryd.ntmps32
      go_wp2
      go_ret
      rw [HN.out]
      exact ⟨rfl, hB.out _⟩
theorem depth_calls : ∀ F, DepthDoes F := kids_induct depth_walk
end Go.Proofs.YtppbijbgnhmdaaaDoor

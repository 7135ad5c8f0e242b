/- The reference's Size; the law's levels and great. -/
import Derived.Test.YtppbijbgnhmdaaaDoorTks
namespace Go.Proofs.YtppbijbgnhmdaaaDoor
open Go.RowKit Forest

/-- Size's sum: n is what has come; most: the bound. -/
def sizF : Forest → Nat → Nat → Nat
  | .nil, n, _ => n
  | .cons _ _ x _ kids rest, n, most => if n < most then sizF rest (n + sizF kids (1 + x.length / 8) (most - n)) most else n

/-- Each text is one that may be. -/
def Fits : Forest → Prop
  | .nil => True
  | .cons _ _ x _ kids rest => x.length ≤ 140737488351232 ∧ Fits kids ∧ Fits rest
theorem sizF_le : ∀ (F : Forest) (n most : Nat), Fits F → sizF F n most ≤ max n (most + 17592186044417)
  | .nil, n, most, _ => by simp [sizF]; omega
  | .cons l k x a kids rest, n, most, ⟨h1, h2, h3⟩ => by
    unfold sizF
    by_cases h : n < most
    · rw [if_pos h]
      have a1 := sizF_le kids (1 + x.length / 8) (most - n) h2
      have a2 := sizF_le rest (n + sizF kids (1 + x.length / 8) (most - n)) most h3
      omega
    · rw [if_neg h]; omega

def SizeDoes (F : Forest) : Prop := ∀ (l : Bool) (k : Int) (x : List UInt8) (a : Int) (A : Option Addr) (c most : Nat) (w : World), Lies w F A 0 → F.len ≤ c → c ≤ maxLen → most ≤ 5001 → x.length ≤ 140737488351232 → Fits F →
  Calls Tryd.prog 23 #[.agg #[.bool l, .int .u8 k, .string (bstr x), .int .i64 a, .slice A F.len c], .int .i64 ((most : Nat) : Int)] w fun e w' =>
    e = .returned (.int .i64 ((sizF F (1 + x.length / 8) most : Nat) : Int)) ∧ Below w.heap.size w w'

set_option maxHeartbeats 4000000 in
set_option maxRecDepth 100000 in
theorem size_walk (F : Forest) (ih : AllKids SizeDoes F) : SizeDoes F := by
  intro l k x a A c most w hF hn hc hm hx hfit
  have hn9 : F.len ≤ 9223372036854775807 := Nat.le_trans hn hc
  have hsx : (bstr x).size = x.length := rfl
  have hB := Lib.hid (fun o => (Below.refl w.heap.size w).alloc (Nat.le_refl _) o)
  obtain ⟨E, HN⟩ : ∃ E, Hid (E = sizF F (1 + x.length / 8) most) := ⟨_, rfl⟩
  rw [← HN.out]
  go_enter Tryd.func23, Tryd.ntmps23
  go_wp2
  have hW : Hid ((w.alloc (Obj.cells #[Value.bool l, Value.int .u8 k, Value.string (bstr x), Value.int .i64 a, Value.slice A F.len c] 27)).cell? ⟨w.heap.size, 4, none⟩ = some (.slice A F.len c)) := World.cell?_alloc_mark w #[Value.bool l, Value.int .u8 k, Value.string (bstr x), Value.int .i64 a, Value.slice A F.len c] _ (0, 0) 4
  have hBW := Lib.hid (hB.out (Obj.cells #[Value.bool l, Value.int .u8 k, Value.string (bstr x), Value.int .i64 a, Value.slice A F.len c] 27))
  have hF1 := hF.below hBW.out
  generalize w.alloc (Obj.cells #[Value.bool l, Value.int .u8 k, Value.string (bstr x), Value.int .i64 a, Value.slice A F.len c] 27) = W1 at *
  go_loopw [5, 6] (fun v u wr => ∃ (i acc : Nat) (G : Forest), u = .int .i64 (i : Int) ∧ v = .int .i64 (acc : Int) ∧ i + G.len = F.len ∧ Lies wr G A i ∧ AllKids SizeDoes G ∧ Fits G ∧ acc ≤ 35184372088834 ∧ sizF G acc most = sizF F (1 + x.length / 8) most ∧ Below W1.heap.size W1 wr) (fun _ u _ => F.len - (intOf u).toNat)
  case atStart => exact ⟨0, 1 + x.length / 8, F, rfl, by go_num, Nat.zero_add _, hF1, ih, hfit, by omega, rfl, .refl _ _⟩
  case round =>
    obtain ⟨i, acc, G, rfl, rfl, hlen, hG, hK, hfg, hacc, hsum, hbw⟩ := hrel
    have c4 : wr.cell? ⟨w.heap.size, 4, none⟩ = some (.slice A F.len c) := (hbw.cell (World.block_lt_of_cell? W1 _ hW.out)).trans hW.out
    have HS := Lib.hid hsum
    have HBW := Lib.hid hbw
    clear hsum hbw
    cases G with
    | nil =>
      have hil : i = F.len := by simpa [Forest.len] using hlen
      subst hil
      have hE : Hid (E = acc) := by show _ = _; rw [HN.out, ← HS.out]; rfl
      clear hG hK hlen hfg
      go_wp2
      go_ret
      rw [hE.out]
      exact ⟨rfl, bel_trans hBW.out HBW.out⟩
    | cons l' k' x' a' kids rest =>
      have hlt : i < F.len := by simp [Forest.len] at hlen; omega
      obtain ⟨⟨g, o, rfl, h0, h1, h2, h3, A', c', h4, h5, h6, h7⟩, hr⟩ := hG
      obtain ⟨f1, f2, f3⟩ := hfg
      by_cases ham : acc < most
      · have hcall := hK.1 l' k' x' a' A' c' (most - acc) wr h7 h5 h6 (by omega) f1 f2
        have hsub : (((most - acc : Nat) : Nat) : Int) = (most : Int) - (acc : Int) := by omega
        rw [hsub] at hcall
        have hle := sizF_le kids (1 + x'.length / 8) (most - acc) f2
        have HS2 : Hid (sizF rest (acc + sizF kids (1 + x'.length / 8) (most - acc)) most = sizF F (1 + x.length / 8) most) := by
          show _ = _
          rw [← HS.out]
          show _ = sizF (.cons l' k' x' a' kids rest) acc most
          simp only [sizF]; rw [if_pos ham]
        have HR := Lib.hid hr
        have HK := Lib.hid hK.2
        have HF3 := Lib.hid f3
        have hle2 : sizF kids (1 + x'.length / 8) (most - acc) ≤ 17592186049420 := by omega
        clear hle hr hK h7 f1 f2 f3
        generalize sizF kids (1 + x'.length / 8) (most - acc) = s at *
        go_wp2_with fail
        refine hcall.mono ?_
        clear hcall
        rintro e w2 ⟨rfl, hb2⟩
        have HB2 := Lib.hid (bel_trans HBW.out hb2)
        have HR2 := Lib.hid (HR.out.below hb2)
        clear hb2
        go_wp2
        go_round
        case rel => exact ⟨i + 1, acc + s, rest, by go_num, by go_num, by simp [Forest.len] at hlen; omega, HR2.out, HK.out, HF3.out, by omega, HS2.out, HB2.out⟩
        case measure => simp [intOf]; omega
      · have d1 : decide ((acc : Int) < (most : Int)) = false := by simp; omega
        have hE : Hid (E = acc) := by
          show _ = _
          rw [HN.out, ← HS.out]
          simp only [sizF]; rw [if_neg ham]
        clear hK hr h7
        go_wp2
        go_ret
        rw [hE.out]
        exact ⟨rfl, bel_trans hBW.out HBW.out⟩
theorem size_calls : ∀ F, SizeDoes F := kids_induct size_walk
end Go.Proofs.YtppbijbgnhmdaaaDoor

/- The law's levels and great. -/
namespace Go.Proofs.YtppbijbgnhmdaaaDoor
open Go.RowKit Forest

/-- Are there too many levels, the trees of the forest being at a level, the first n of them looked at? -/
def levF : Forest → Nat → Nat → Bool
  | .nil, _, _ => false
  | .cons _ _ _ _ kids rest, at_, n => if n = 0 then false else (decide (300 < at_) || levF kids (at_ + 1) 5000) || levF rest at_ (n - 1)
def levT (F : Forest) (at_ : Nat) : Bool := decide (300 < at_) || levF F (at_ + 1) 5000
theorem levF_cons (l : Bool) (k : Int) (x : List UInt8) (a : Int) (kids rest : Forest) (at_ n : Nat) (h : 0 < n) : levF (.cons l k x a kids rest) at_ n = (levT kids at_ || levF rest at_ (n - 1)) := by
  simp only [levF]; rw [if_neg (by omega)]; rfl

def LevelsDoes (F : Forest) : Prop := ∀ (l : Bool) (k : Int) (x : List UInt8) (a : Int) (A : Option Addr) (c at_ : Nat) (w : World), Lies w F A 0 → F.len ≤ c → c ≤ maxLen → at_ ≤ 301 →
  Calls Tryd.prog 24 #[.agg #[.bool l, .int .u8 k, .string (bstr x), .int .i64 a, .slice A F.len c], .int .i64 ((at_ : Nat) : Int)] w fun e w' =>
    e = .returned (.bool (levT F at_)) ∧ Below w.heap.size w w'

set_option maxHeartbeats 4000000 in
set_option maxRecDepth 100000 in
theorem levels_walk (F : Forest) (ih : AllKids LevelsDoes F) : LevelsDoes F := by
  intro l k x a A c at_ w hF hn hc ha
  have hn9 : F.len ≤ 9223372036854775807 := Nat.le_trans hn hc
  have hB := Lib.hid (fun o => (Below.refl w.heap.size w).alloc (Nat.le_refl _) o)
  obtain ⟨E, HN⟩ : ∃ E, Hid (E = levT F at_) := ⟨_, rfl⟩
  rw [← HN.out]
  by_cases h300 : 300 < at_
  · have hE : Hid (E = true) := by show _ = _; rw [HN.out]; unfold levT; rw [decide_eq_true h300]; rfl
    have d1 : decide ((300 : Int) < (at_ : Int)) = true := by simp; omega
    go_enter Tryd.func24, Tryd.ntmps24
    go_wp2
    go_ret
    rw [hE.out]
    exact ⟨rfl, hB.out _⟩
  · have hE0 : Hid (E = levF F (at_ + 1) 5000) := by show _ = _; rw [HN.out]; unfold levT; rw [decide_eq_false h300]; rfl
    have d1 : decide ((300 : Int) < (at_ : Int)) = false := by simp; omega
    go_enter Tryd.func24, Tryd.ntmps24
    go_wp2
    have hW : Hid ((w.alloc (Obj.cells #[Value.bool l, Value.int .u8 k, Value.string (bstr x), Value.int .i64 a, Value.slice A F.len c] 27)).cell? ⟨w.heap.size, 4, none⟩ = some (.slice A F.len c)) := World.cell?_alloc_mark w #[Value.bool l, Value.int .u8 k, Value.string (bstr x), Value.int .i64 a, Value.slice A F.len c] _ (0, 0) 4
    have hBW := Lib.hid (hB.out (Obj.cells #[Value.bool l, Value.int .u8 k, Value.string (bstr x), Value.int .i64 a, Value.slice A F.len c] 27))
    have hF1 := hF.below hBW.out
    generalize w.alloc (Obj.cells #[Value.bool l, Value.int .u8 k, Value.string (bstr x), Value.int .i64 a, Value.slice A F.len c] 27) = W1 at *
    go_loopw [5] (fun u wr => ∃ (i : Nat) (G : Forest), u = .int .i64 (i : Int) ∧ i + G.len = F.len ∧ i ≤ 5000 ∧ Lies wr G A i ∧ AllKids LevelsDoes G ∧ levF G (at_ + 1) (5000 - i) = levF F (at_ + 1) 5000 ∧ Below W1.heap.size W1 wr) (fun u _ => F.len - (intOf u).toNat)
    case atStart => exact ⟨0, F, rfl, Nat.zero_add _, by omega, hF1, ih, rfl, .refl _ _⟩
    case round =>
      obtain ⟨i, G, rfl, hlen, hi5, hG, hK, hlev, hbw⟩ := hrel
      have c4 : wr.cell? ⟨w.heap.size, 4, none⟩ = some (.slice A F.len c) := (hbw.cell (World.block_lt_of_cell? W1 _ hW.out)).trans hW.out
      have HS := Lib.hid hlev
      have HBW := Lib.hid hbw
      clear hlev hbw
      cases G with
      | nil =>
        have hil : i = F.len := by simpa [Forest.len] using hlen
        subst hil
        have hE : Hid (E = false) := by show _ = _; rw [hE0.out, ← HS.out]; rfl
        clear hG hK hlen
        go_wp2
        go_ret
        rw [hE.out]
        exact ⟨rfl, bel_trans hBW.out HBW.out⟩
      | cons l' k' x' a' kids rest =>
        have hlt : i < F.len := by simp [Forest.len] at hlen; omega
        obtain ⟨⟨g, o, rfl, h0, h1, h2, h3, A', c', h4, h5, h6, h7⟩, hr⟩ := hG
        by_cases h5000 : i < 5000
        · have hcall := hK.1 l' k' x' a' A' c' (at_ + 1) wr h7 h5 h6 (by omega)
          simp only [Int.natCast_add, Int.natCast_one] at hcall
          have HS2 : Hid ((levT kids (at_ + 1) || levF rest (at_ + 1) (5000 - (i + 1))) = levF F (at_ + 1) 5000) := by
            show _ = _
            rw [← HS.out, levF_cons _ _ _ _ _ _ _ _ (by omega)]
            have : 5000 - (i + 1) = 5000 - i - 1 := by omega
            rw [this]
          have HR := Lib.hid hr
          have HK := Lib.hid hK.2
          clear hr hK h7
          go_wp2_with fail
          refine hcall.mono ?_
          clear hcall
          rintro e w2 ⟨rfl, hb2⟩
          have HB2 := Lib.hid (bel_trans HBW.out hb2)
          have HR2 := Lib.hid (HR.out.below hb2)
          clear hb2
          cases hq : levT kids (at_ + 1) with
          | true =>
            have hE : Hid (E = true) := by
              show _ = _
              rw [hE0.out, ← HS2.out, hq, Bool.true_or]
            go_wp2
            go_ret
            rw [hE.out]
            exact ⟨rfl, bel_trans hBW.out HB2.out⟩
          | false =>
            have HS3 : Hid (levF rest (at_ + 1) (5000 - (i + 1)) = levF F (at_ + 1) 5000) := by
              show _ = _
              rw [← HS2.out, hq, Bool.false_or]
            go_wp2
            go_round
            case rel => exact ⟨i + 1, rest, by go_num, by simp [Forest.len] at hlen; omega, h5000, HR2.out, HK.out, HS3.out, HB2.out⟩
            case measure => simp [intOf]; omega
        · have d2 : decide ((i : Int) < 5000) = false := by simp; omega
          have hE : Hid (E = false) := by
            show _ = _
            rw [hE0.out, ← HS.out]
            have : 5000 - i = 0 := by omega
            rw [this]; simp [levF]
          clear hK hr h7
          go_wp2
          go_ret
          rw [hE.out]
          exact ⟨rfl, bel_trans hBW.out HBW.out⟩
theorem levels_calls : ∀ F, LevelsDoes F := kids_induct levels_walk

def greatT (F : Forest) (x : List UInt8) : Bool := decide (5000 < sizF F (1 + x.length / 8) 5001) || levT F 0
set_option maxHeartbeats 2000000 in
theorem great_calls (F : Forest) (l : Bool) (k : Int) (x : List UInt8) (a : Int) (A : Option Addr) (c : Nat) (w : World) (hF : Lies w F A 0) (hn : F.len ≤ c) (hc : c ≤ maxLen) (hx : x.length ≤ 140737488351232) (hfit : Fits F) :
    Calls Tryd.prog 8 #[.agg #[.bool l, .int .u8 k, .string (bstr x), .int .i64 a, .slice A F.len c]] w fun e w' => e = .returned (.bool (greatT F x)) ∧ Below w.heap.size w w' := by
  have h1 := fun W h => size_calls F l k x a A c 5001 W (hF.below h) hn hc (by omega) hx hfit
  have h2 := fun W h => levels_calls F l k x a A c 0 W (hF.below h) hn hc (by omega)
  obtain ⟨E, HN⟩ : ∃ E, Hid (E = greatT F x) := ⟨_, rfl⟩
  rw [← HN.out]
  have H1 := Lib.hid h1
  have H2 := Lib.hid h2
  clear h1 h2
  have hg : Hid (E = (decide ((5000 : Int) < ((sizF F (1 + x.length / 8) 5001 : Nat) : Int)) || levT F 0)) := by
    show _ = _
    rw [HN.out]; unfold greatT
    congr 1
    rw [Bool.eq_iff_iff]; simp; omega
  generalize sizF F (1 + x.length / 8) 5001 = s at *
  go_enter Tryd.func8, Tryd.ntmps8
  have hbel := (Below.refl w.heap.size w).alloc (Nat.le_refl _) (Obj.cells #[Value.bool l, Value.int .u8 k, Value.string (bstr x), Value.int .i64 a, Value.slice A F.len c] 27)
  go_wp2_with fail
  refine (H1.out _ hbel).mono ?_
  have hcs := fun j => World.cell?_alloc_mark w #[Value.bool l, Value.int .u8 k, Value.string (bstr x), Value.int .i64 a, Value.slice A F.len c] 27 (0, 0) j
  generalize w.alloc (Obj.cells #[Value.bool l, Value.int .u8 k, Value.string (bstr x), Value.int .i64 a, Value.slice A F.len c] 27) = W1 at *
  rintro e w2 ⟨rfl, hb2⟩
  have HB2 := Lib.hid (bel_trans hbel hb2)
  have c0 : w2.cell? ⟨w.heap.size, 0, none⟩ = some (.bool l) := (hb2.cell (World.block_lt_of_cell? W1 _ ((hcs 0).trans rfl))).trans (hcs 0)
  have c1 : w2.cell? ⟨w.heap.size, 1, none⟩ = some (.int .u8 k) := (hb2.cell (World.block_lt_of_cell? W1 _ ((hcs 1).trans rfl))).trans (hcs 1)
  have c2 : w2.cell? ⟨w.heap.size, 2, none⟩ = some (.string (bstr x)) := (hb2.cell (World.block_lt_of_cell? W1 _ ((hcs 2).trans rfl))).trans (hcs 2)
  have c3 : w2.cell? ⟨w.heap.size, 3, none⟩ = some (.int .i64 a) := (hb2.cell (World.block_lt_of_cell? W1 _ ((hcs 3).trans rfl))).trans (hcs 3)
  have c4 : w2.cell? ⟨w.heap.size, 4, none⟩ = some (.slice A F.len c) := (hb2.cell (World.block_lt_of_cell? W1 _ ((hcs 4).trans rfl))).trans (hcs 4)
  clear hcs hbel hb2
  cases hd : decide ((5000 : Int) < (s : Int)) with
  | true =>
    have hE : Hid (E = true) := by show _ = _; rw [hg.out, hd]; rfl
    go_wp2
    go_ret
    rw [hE.out]
    exact ⟨rfl, HB2.out⟩
  | false =>
    have hE : Hid (E = levT F 0) := by show _ = _; rw [hg.out, hd]; rfl
    go_wp2_with fail
    refine (H2.out _ HB2.out).mono ?_
    rintro e w3 ⟨rfl, hb3⟩
    go_wp2
    go_ret
    rw [hE.out]
    exact ⟨rfl, bel_trans HB2.out hb3⟩
end Go.Proofs.YtppbijbgnhmdaaaDoor


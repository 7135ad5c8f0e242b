/- What the reader's small functions do: word, all, numeral. -/
import Derived.Test.YtibbmoeifpfgjaaDoorLexBase
namespace Go.Proofs.YtibbmoeifpfgjaaDoor
open Go.RowKit

structure WordRel (w : World) (g : Nat) (A : Option Addr) (cap p : Nat) (bs : List UInt8) (m : Nat) (wr : World) (q : Nat) : Prop where
  hp : p ≤ q
  hq : q ≤ bs.length
  hm : m = bs.length - q
  rd : Rdr wr g A bs.length cap q
  gr : w.grownBy wr (some g)
  all : ∀ i, p ≤ i → ∀ h : i < q, isLetter (bs[i]'(by omega)) = true

theorem WordRel.next {w : World} {g : Nat} {A : Option Addr} {cap p : Nat} {bs : List UInt8} {m : Nat} {wr : World} {q : Nat} (h : WordRel w g A cap p bs m wr q) (hq : q < bs.length) (hL : isLetter bs[q] = true) (k : Nat) :
    WordRel w g A cap p bs (bs.length - (q + 1)) ((wr.drewN k).setCell ⟨g, 257, none⟩ (.int .i64 ((q : Int) + 1))) (q + 1) := by
  refine ⟨by have := h.hp; omega, hq, rfl, ?_, ?_, ?_⟩
  · have := (h.rd.drewN k).set (q + 1)
    simpa using this
  · have := h.gr
    exact ⟨this.os, this.tape, this.output, by simpa [World.setCell] using this.size, fun i hi hne => (Below.heap_setCell _ _ _ i (fun e => hne (by rw [e]))).trans (this.block i hi hne)⟩
  · intro i h1 h2
    rcases Nat.lt_or_ge i q with h3 | h3
    · exact h.all i h1 h3
    · have : i = q := by omega
      subst this; exact hL

theorem takeWhile_stop {α : Type} (f : α → Bool) (l : List α) (k : Nat) (hk : k ≤ l.length) (h1 : ∀ i, ∀ h : i < k, f (l[i]'(by omega)) = true) (h2 : ∀ h : k < l.length, f l[k] = false) : l.takeWhile f = l.take k := by
  induction l generalizing k with
  | nil => simp
  | cons x r ih =>
    cases k with
    | zero => have := h2 (by simp); simp at this; simp [this]
    | succ k =>
      have h0 := h1 0 (by omega)
      simp at h0
      rw [List.takeWhile_cons_of_pos h0, List.take_succ_cons, ih k (by simpa using hk) (fun i h => by have := h1 (i + 1) (by omega); simpa using this) (fun h => by have := h2 (by simpa using h); simpa using this)]

theorem WordRel.word {w : World} {g : Nat} {A : Option Addr} {cap p : Nat} {bs : List UInt8} {m : Nat} {wr : World} {q : Nat} (h : WordRel w g A cap p bs m wr q) (hs : ∀ h : q < bs.length, isLetter bs[q] = false) :
    (bs.drop p).takeWhile isLetter = (bs.drop p).take (q - p) := by
  have h1 := h.hp
  have h2 := h.hq
  refine takeWhile_stop _ _ _ (by simp; omega) (fun i hi => ?_) (fun hi => ?_)
  · have := h.all (p + i) (by omega) (by omega)
    simpa using this
  · simp at hi
    have := hs (by omega)
    have e : p + (q - p) = q := by omega
    simp [e, this]

theorem WordRel.done {w : World} {g : Nat} {A : Option Addr} {cap p : Nat} {bs : List UInt8} {m : Nat} {wr : World} {q : Nat} (h : WordRel w g A cap p bs m wr q) (k : Nat) : Rdr (wr.drewN k) g A bs.length cap (p + ((bs.drop p).take (q - p)).length) := by
  have h1 := h.hp
  have h2 := h.hq
  have e : p + ((bs.drop p).take (q - p)).length = q := by simp; omega
  rw [e]
  exact h.rd.drewN k
theorem WordRel.grown {w : World} {g : Nat} {A : Option Addr} {cap p : Nat} {bs : List UInt8} {m : Nat} {wr : World} {q : Nat} (h : WordRel w g A cap p bs m wr q) (k : Nat) : w.grownBy (wr.drewN k) (some g) :=
  ⟨h.gr.os, h.gr.tape, h.gr.output, h.gr.size, h.gr.block⟩

set_option maxHeartbeats 1000000 in
theorem word_calls (g : Nat) (A : Option Addr) (cap p : Nat) (bs : List UInt8) (w : World) (hr : Rdr w g A bs.length cap p) (hb : Bys w A bs) (hg : ∀ ad, A = some ad → ad.block ≠ g ∧ ad.block < w.heap.size) (hp : p ≤ bs.length) (hl : bs.length ≤ 1048576) (hcap : bs.length ≤ cap) :
    Calls Tryd.prog 24 #[.pointer (some ⟨g, 0, none⟩)] w fun e w' => e = .returned (.string (bstr ((bs.drop p).takeWhile isLetter))) ∧ Rdr w' g A bs.length cap (p + ((bs.drop p).takeWhile isLetter).length) ∧ w.grownBy w' (some g) := by
  have HC := Lib.hid hcap
  clear hcap
  have h1 := hr.at_
  go_enter Tryd.func24, Tryd.ntmps24
  go_wp2
  go_loopg [] (bs.length - p) (fun m wr => ∃ q, WordRel w g A cap p bs m wr q)
  case atStart => exact ⟨p, Nat.le_refl _, hp, rfl, hr, World.grownBy.refl _ _, fun i h1 h2 => by omega⟩
  case round =>
    clear h1
    obtain ⟨q, hrel⟩ := hrel
    have hq := hrel.hq
    have hpq := hrel.hp
    have hm := Lib.hid hrel.hm
    have h1 := hrel.rd.at_
    have h2 := hrel.rd.b
    have h5 := hrel.rd.free 257
    have hb1 : Bys wr A bs := hb.kept hrel.gr hg
    have hsl := fun W => run_sub W A bs.length cap p q hpq (by have := HC.out; omega)
    have hcv := fun k => conv_sub (wr.drewN k) A bs p q cap (hb1.drewN k) hpq hq (by have := HC.out; omega)
    by_cases hlt : q < bs.length
    · obtain ⟨ad, rfl, hc⟩ := hb1.out q hlt
      have hrb := bi_range bs[q]
      have h3 := hrel.rd.tab bs[q]
      have hld : decide ((q : Int) < (bs.length : Int)) = true := by simp; omega
      cases hL : isLetter bs[q] with
      | true =>
        have hL' := hL
        unfold isLetter at hL'
        have HL := Lib.hid hL
        clear hL hsl hcv
        generalize bs[q] = x at hL' hc hrb h3
        go_wp2
        go_quiet (fail)
        go_wp2
        go_roundg (bs.length - (q + 1))
        case measure => have := hm.out; omega
        case rel => exact ⟨q + 1, hrel.next hlt HL.out _⟩
      | false =>
        have hL' := hL
        unfold isLetter at hL'
        have HW := Lib.hid (hrel.word (fun _ => hL))
        clear hL
        generalize bs[q] = x at hL' hc hrb h3
        go_wp2
        go_quiet (fail)
        go_wp2
        go_quiet (fail)
        go_wp2
        go_ret
        rw [HW.out]
        rw [World.drewN_drewN]
        exact ⟨rfl, hrel.done _, hrel.grown _⟩
    · obtain rfl : q = bs.length := by omega
      go_wp2
      go_quiet (fail)
      go_wp2
      go_quiet (fail)
      go_wp2
      go_ret
      have HW := hrel.word (fun h => absurd h (Nat.lt_irrefl _))
      rw [HW]
      rw [World.drewN_drewN]
      exact ⟨rfl, hrel.done _, hrel.grown _⟩
end Go.Proofs.YtibbmoeifpfgjaaDoor

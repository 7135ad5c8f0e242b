/- What the reference's Plain does. -/
import Derived.Test.YtppbijbgnhmdaaaDoorRefWord
import Derived.Test.YtppbijbgnhmdaaaDoorLexAll
namespace Go.Proofs.YtppbijbgnhmdaaaDoor
open Go.RowKit

theorem bys_new (W : World) (s : ByteArray) (cap : Nat) (e : TypeId) (fr : Nat × Nat) : Bys (W.drew.alloc (.cells (bytesRow s cap) e fr)) (some ⟨W.heap.size, 0, none⟩) (bl s) := ⟨fun j hj => by
  refine ⟨_, rfl, ?_⟩
  have h1 := bytesRow_at s cap j hj
  have h2 := World.cell?_alloc_mark W.drew (bytesRow s cap) e fr j
  rw [h1] at h2
  cases j with
  | zero => exact h2
  | succ j => rw [add_succ, Nat.zero_add]; exact h2⟩
theorem conv_text (s : ByteArray) (W : World) : (convert 9 43 (.string s)).run Tryd.prog W = .ok (.slice (some ⟨W.heap.size, 0, none⟩) s.size (grownCap W s.size 0 5))
      (W.drew.alloc (.cells (bytesRow s (grownCap W s.size 0 5)) 5 ((bytesRow s (grownCap W s.size 0 5)).size, (bytesRow s (grownCap W s.size 0 5)).size + 1))) :=
  run_bytes_of_string W _ _ _ s (by kernel_rfl) (by kernel_rfl) (by kernel_rfl)

theorem drop_head (s : ByteArray) (h : 0 < s.size) : bl s = bat s 0 :: (bl s).drop 1 := by
  have : 0 < (bl s).length := h
  cases hx : bl s with
  | nil => rw [hx] at this; simp at this
  | cons a r =>
    have : bat s 0 = a := by unfold bat; rw [hx]; rfl
    rw [this]; rfl
theorem plainB_eq (l : List UInt8) : plainB l = ((!l.isEmpty && !isDigit (l.getD 0 0)) && (l.takeWhile isLetter).length == l.length) := by
  have h1 : l.all (inCl 1) = ((l.takeWhile isLetter).length == l.length) := by
    have e : inCl 1 = isLetter := rfl
    rw [e]
    induction l with
    | nil => rfl
    | cons a r ih =>
      cases ha : isLetter a with
      | true => simp [ha] at ih ⊢; exact ih
      | false => simp [ha]
  have h2 : (bits BinOp.and IntKind.u8 ((cl (l.getD 0 0).toNat : Nat) : Int) 2 == 0) = !isDigit (l.getD 0 0) := by
    unfold isDigit; simp [bne]
  unfold plainB
  rw [h1, h2]
  cases l.isEmpty <;> cases isDigit (l.getD 0 0) <;> simp

set_option maxHeartbeats 400000 in
theorem rplain_calls (s : ByteArray) (w : World) (hs : s.size ≤ 140737488351232) :
    Calls Tryd.prog 58 #[.string s] w fun e w' => e = .returned (.bool (plainB (bl s))) ∧ Below w.heap.size w w' := by
  by_cases h0 : s.size = 0
  · have HN : Hid (plainB (bl s) = false) := by
      show _ = _
      have : bl s = [] := List.eq_nil_of_length_eq_zero h0
      rw [plainB_eq, this]; rfl
    go_enter Tryd.func58, Tryd.ntmps58
    go_wp2
    go_ret
    rw [HN.out]
    exact ⟨rfl, .refl _ w⟩
  · have h1 : 0 < s.size := Nat.pos_of_ne_zero h0
    have hb := bat_at s 0
    have hcall := digit_calls (bat s 0) w
    have hr := bi_range (bat s 0)
    have he : (bl s).isEmpty = false := by rw [drop_head s h1]; rfl
    have HP := Lib.hid (plainB_eq (bl s))
    have hd0 : (bl s).getD 0 0 = bat s 0 := rfl
    cases hD : isDigit (bat s 0) with
    | true =>
      rw [hD] at hcall
      have HN : Hid (plainB (bl s) = false) := by
        show _ = _
        rw [HP.out, he, hd0, hD]; rfl
      clear HP hd0 hD
      generalize bat s 0 = x at hb hcall hr
      go_enter Tryd.func58, Tryd.ntmps58
      go_wp2_with (go_at_call 50; refine hcall.mono ?_; rintro e w' ⟨rfl, rfl⟩)
      go_ret
      rw [HN.out]
      exact ⟨rfl, .refl _ w⟩
    | false =>
      rw [hD] at hcall
      have HN : Hid (plainB (bl s) = ((((bl s).takeWhile isLetter).length : Int) == (s.size : Int))) := by
        show _ = _
        rw [HP.out, he, hd0, hD]
        rw [Bool.eq_iff_iff]
        simp [bl_length]
        omega
      clear HP hd0 hD
      generalize bat s 0 = x at hb hcall hr
      have hcv := conv_text s
      have hw : ∀ W : World, ∀ cap fr, Calls Tryd.prog 48 #[.slice (some ⟨W.heap.size, 0, none⟩) s.size cap, .int .i64 0] (W.drew.alloc (.cells (bytesRow s cap) 5 fr)) fun e w' => e = .returned (.int .i64 ((((bl s).takeWhile isLetter).length : Nat) : Int)) ∧ W.drew.alloc (.cells (bytesRow s cap) 5 fr) = w' := fun W cap fr => by
        have := rword_calls (some ⟨W.heap.size, 0, none⟩) cap 0 (bl s) (W.drew.alloc (.cells (bytesRow s cap) 5 fr)) (bys_new W s cap _ fr) (Nat.zero_le _) hs
        simp only [List.drop_zero] at this
        exact this
      have hB := Lib.hid ((Below.refl _ w).drew.alloc (Nat.le_refl _) (.cells (bytesRow s (grownCap w s.size 0 5)) 5 ((bytesRow s (grownCap w s.size 0 5)).size, (bytesRow s (grownCap w s.size 0 5)).size + 1)))
      go_enter Tryd.func58, Tryd.ntmps58
      go_wp2_with (first | (go_at_call 50; refine hcall.mono ?_; rintro e w' ⟨rfl, rfl⟩) | (go_at_call 48; refine (hw w _ _).mono ?_; rintro e w' ⟨rfl, rfl⟩))
      go_ret
      rw [HN.out]
      exact ⟨rfl, hB.out⟩
end Go.Proofs.YtppbijbgnhmdaaaDoor

/- What package lex takes for a text of hexadecimal or binary digits. -/
import Derived.Test.YtibbmoeifpfgjaaDoorLexCut
namespace Go.Proofs.YtibbmoeifpfgjaaDoor
open Go.RowKit

def hexSet : ByteArray := ⟨#[48, 49, 50, 51, 52, 53, 54, 55, 56, 57, 97, 98, 99, 100, 101, 102, 65, 66, 67, 68, 69, 70]⟩
def binSet : ByteArray := ⟨#[48, 49]⟩
def inSet (set : ByteArray) (c : UInt8) : Bool := among set c set.size
/-- x and hexadecimal digits, or b and binary ones. -/
def basedB (l : List UInt8) : Bool := decide (1 < l.length) && ((bi (l.getD 0 0) == 120 && (l.drop 1).all (inSet hexSet)) || (bi (l.getD 0 0) == 98 && (l.drop 1).all (inSet binSet)))

theorem cut_both (set : ByteArray) (X : List UInt8) (n : Nat) (hn : n ≤ (X.dropWhile (inSet set)).length)
    (h1 : ∀ j, n ≤ j → j < (bstr (X.dropWhile (inSet set))).size → inSet set (bat (bstr (X.dropWhile (inSet set))) j) = true) (h2 : n = 0 ∨ inSet set (bat (bstr (X.dropWhile (inSet set))) (n - 1)) = false) :
    (bstr ((X.dropWhile (inSet set)).take n)).toList.isEmpty = X.all (inSet set) := by
  rw [ByteArray.toList_eq]
  show ((X.dropWhile (inSet set)).take n).isEmpty = _
  cases hX : X.all (inSet set) with
  | true =>
    rw [List.all_eq_true] at hX
    rw [dropWhile_nil_of X _ hX]
    simp
  | false =>
    rw [List.all_eq_false] at hX
    obtain ⟨x, hx, hf⟩ := hX
    have hY : ∃ y r, X.dropWhile (inSet set) = y :: r ∧ inSet set y = false := by
      have : ∀ (l : List UInt8), x ∈ l → ∃ y r, l.dropWhile (inSet set) = y :: r ∧ inSet set y = false := by
        intro l
        induction l with
        | nil => intro h; simp at h
        | cons z r ih =>
          intro h
          cases hz : inSet set z with
          | true =>
            rw [List.dropWhile_cons_of_pos hz]
            rcases List.mem_cons.1 h with rfl | h
            · exact absurd hz hf
            · exact ih h
          | false => exact ⟨z, r, by rw [List.dropWhile_cons_of_neg (by simp [hz])], hz⟩
      exact this X hx
    obtain ⟨y, r, hY, hy⟩ := hY
    rw [hY] at h1 hn ⊢
    cases n with
    | zero =>
      have := h1 0 (Nat.le_refl _) (by rw [bstr_size]; simp)
      simp [bat, bl_bstr, hy] at this
    | succ n => simp

theorem inSet_ascii (s : ByteArray) (l : List UInt8) (h : ∀ x ∈ bl s, x.toNat < 128) (hl : ∀ x ∈ l, x ∈ bl s) : ∀ j, j < (bstr l).size → (bat (bstr l) j).toNat < 128 := by
  intro j hj
  have := bat_mem' (bstr l) j hj
  exact h _ (hl _ this)

theorem basedB_hex (l : List UInt8) (h : 1 < l.length) (hx : bi (l.getD 0 0) = 120) : basedB l = (l.drop 1).all (inSet hexSet) := by
  unfold basedB
  rw [decide_eq_true h, hx]
  simp
theorem basedB_bin (l : List UInt8) (h : 1 < l.length) (hx : bi (l.getD 0 0) = 98) : basedB l = (l.drop 1).all (inSet binSet) := by
  unfold basedB
  rw [decide_eq_true h, hx]
  simp
theorem basedB_no (l : List UInt8) (hx : ¬ bi (l.getD 0 0) = 120) (hy : ¬ bi (l.getD 0 0) = 98) : basedB l = false := by
  unfold basedB
  rw [beq_eq_false_iff_ne.2 hx, beq_eq_false_iff_ne.2 hy]
  simp
theorem hex_ascii : ∀ j, j < hexSet.size → (bat hexSet j).toNat < 128 := by decide +kernel
theorem bin_ascii : ∀ j, j < binSet.size → (bat binSet j).toNat < 128 := by decide +kernel

set_option maxHeartbeats 1000000 in
theorem based_calls (s : ByteArray) (w : World) (h0 : 0 < s.size) (hs : s.size ≤ 140737488351232) (ha : ∀ x ∈ bl s, x.toNat < 128) :
    Calls Tryd.prog 25 #[.string s] w fun e w' => e = .returned (.bool (basedB (bl s))) ∧ Below w.heap.size w w' := by
  have hb := bat_at s 0
  by_cases h1 : 1 < s.size
  · have hex := extract_drop s 1
    have hd : decide ((1 : Int) < (s.size : Int)) = true := by simp; omega
    have hXs : (bstr ((bl s).drop 1)).size ≤ 140737488351232 := by rw [bstr_size, List.length_drop, bl_length]; omega
    have hXa := inSet_ascii s ((bl s).drop 1) ha (fun x h => List.mem_of_mem_drop h)
    have hYs : ∀ f : UInt8 → Bool, (bstr (((bl s).drop 1).dropWhile f)).size ≤ 140737488351232 := fun f => by
      have := (List.dropWhile_sublist f (l := (bl s).drop 1)).length_le
      rw [bstr_size] at hXs ⊢
      omega
    have hYa : ∀ f : UInt8 → Bool, ∀ j, j < (bstr (((bl s).drop 1).dropWhile f)).size → (bat (bstr (((bl s).drop 1).dropWhile f)) j).toNat < 128 := fun f =>
      inSet_ascii s _ ha (fun x h => List.mem_of_mem_drop ((List.dropWhile_sublist f).mem h))
    have key : ∀ set : ByteArray, (∀ j, j < set.size → (bat set j).toNat < 128) → ∀ W, Calls Tryd.prog 35 #[.string (bstr ((bl s).drop 1)), .string set] W fun e w' => e = .returned (.string (bstr (((bl s).drop 1).dropWhile (inSet set)))) ∧ Below W.heap.size W w' :=
      fun set h W => cutLeft_calls _ set W hXa h
    have key2 : ∀ set : ByteArray, (∀ j, j < set.size → (bat set j).toNat < 128) → ∀ W, Calls Tryd.prog 34 #[.string (bstr (((bl s).drop 1).dropWhile (inSet set))), .string set] W fun e w' => (∃ r : ByteArray, e = .returned (.string r) ∧ r.toList.isEmpty = ((bl s).drop 1).all (inSet set)) ∧ Below W.heap.size W w' :=
      fun set h W => by
        refine (cutRight_calls _ set W (hYs _) (hYa _) h).mono ?_
        rintro e w' ⟨⟨n, hn, rfl, h1, h2⟩, hbel⟩
        exact ⟨⟨_, rfl, cut_both set ((bl s).drop 1) n hn h1 h2⟩, hbel⟩
    by_cases hx : bi (bat s 0) = 120
    · have HN := Lib.hid (basedB_hex (bl s) h1 hx)
      have c1 := key hexSet hex_ascii
      have c2 := key2 hexSet hex_ascii
      clear key key2 hYs hYa hXs hXa
      generalize hZ : ((bl s).drop 1) = Z at *
      clear hZ
      generalize bstr (Z.dropWhile (inSet hexSet)) = Y at *
      generalize bstr Z = X at *
      have hb' := hb h0
      rw [hx] at hb'
      clear hb hx
      go_enter Tryd.func25, Tryd.ntmps25
      go_wp2_with fail
      refine (c1 _).mono ?_
      rintro e w1 ⟨rfl, hb1⟩
      go_wp2_with fail
      refine (c2 _).mono ?_
      rintro e w2 ⟨⟨r, rfl, hr⟩, hb2⟩
      have HR := Lib.hid hr
      clear hr c1 c2
      go_wp2
      go_ret
      rw [HN.out, ← HR.out]
      exact ⟨rfl, hb1.trans (hb2.mono hb1.size)⟩
    · by_cases hy : bi (bat s 0) = 98
      · have HN := Lib.hid (basedB_bin (bl s) h1 hy)
        have c1 := key binSet bin_ascii
        have c2 := key2 binSet bin_ascii
        clear key key2 hYs hYa hXs hXa hx
        generalize hZ : ((bl s).drop 1) = Z at *
        clear hZ
        generalize bstr (Z.dropWhile (inSet binSet)) = Y at *
        generalize bstr Z = X at *
        have hb' := hb h0
        rw [hy] at hb'
        clear hb hy
        go_enter Tryd.func25, Tryd.ntmps25
        go_wp2_with fail
        refine (c1 _).mono ?_
        rintro e w1 ⟨rfl, hb1⟩
        go_wp2_with fail
        refine (c2 _).mono ?_
        rintro e w2 ⟨⟨r, rfl, hr⟩, hb2⟩
        have HR := Lib.hid hr
        clear hr c1 c2
        go_wp2
        go_ret
        rw [HN.out, ← HR.out]
        exact ⟨rfl, hb1.trans (hb2.mono hb1.size)⟩
      · have HN := Lib.hid (basedB_no (bl s) hx hy)
        have e1 : (bi (bat s 0) == 120) = false := by simpa using hx
        have e2 : (bi (bat s 0) == 98) = false := by simpa using hy
        clear key key2 hYs hYa hXs hXa hx hy
        generalize bat s 0 = x at *
        have hb' := hb h0
        clear hb
        go_enter Tryd.func25, Tryd.ntmps25
        go_wp2
        go_ret
        rw [HN.out]
        exact ⟨rfl, Below.refl _ _⟩
  · have HN : Hid (basedB (bl s) = false) := by unfold basedB; rw [bl_length, decide_eq_false h1]; rfl
    have hd : decide ((1 : Int) < (s.size : Int)) = false := by simp; omega
    generalize bat s 0 = x at hb
    have hb' := hb h0
    clear hb
    by_cases hx : (bi x == 120) = true
    all_goals
      go_enter Tryd.func25, Tryd.ntmps25
      go_wp2
      go_ret
      rw [HN.out]
      exact ⟨rfl, Below.refl _ _⟩
end Go.Proofs.YtibbmoeifpfgjaaDoor

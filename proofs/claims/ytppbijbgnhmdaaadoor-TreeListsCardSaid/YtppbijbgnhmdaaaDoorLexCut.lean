/- What cutLeft and cutRight do to texts of plain bytes; what a text of hexadecimal or binary digits is. -/
import Derived.Test.YtppbijbgnhmdaaaDoorLexBase
import Derived.Lib.Strings
namespace Go.Proofs.YtppbijbgnhmdaaaDoor
open Go.RowKit

/-- A world whose iterator over a string goes on. -/
def iterPut (w : World) (k : Nat) (s : ByteArray) (p : Nat) : World := { w with heap := w.heap.setIfInBounds k (.stringIter s p) }
theorem run_next_at {P : Program} (w : World) (k : Nat) (s : ByteArray) (pos : Nat) (ty : TypeId) (hk : w.heap[k]? = some (.stringIter s pos)) (h : pos < s.size) (ha : (bat s pos).toNat < 128) :
    (Instr.next (.pointer (some ⟨k, 0, none⟩)) true ty).run P w = .ok (.tuple #[.bool true, .int .i64 ((pos : Nat) : Int), .int .i32 (bi (bat s pos))]) (iterPut w k s (pos + 1)) := by
  have hb : bat s pos = s[pos] := by
    unfold bat
    rw [List.getD_eq_getElem?_getD, List.getElem?_eq_getElem (by simpa [bl_length] using h)]
    rfl
  rw [hb] at ha ⊢
  simp only [Instr.next, getObj, setObj, Sem.run_bind, Sem.run, hk, Result.andThen, h, if_true, decode_ascii s pos h ha]
  simp [goInt, iterPut, bi]
theorem run_next_stop {P : Program} (w : World) (k : Nat) (s : ByteArray) (ty : TypeId) (hk : w.heap[k]? = some (.stringIter s s.size)) :
    (Instr.next (.pointer (some ⟨k, 0, none⟩)) true ty).run P w = .ok (.tuple #[.bool false]) w := by
  simp [Instr.next, getObj, Sem.run, hk]
theorem iterPut_at {w : World} {k : Nat} {s : ByteArray} {p q : Nat} (hk : w.heap[k]? = some (.stringIter s p)) : (iterPut w k s q).heap[k]? = some (.stringIter s q) := by
  have := lt_of_block hk
  simp [iterPut, this]
theorem iterPut_below {w0 w : World} {B k : Nat} {s : ByteArray} {q : Nat} (h : Below B w0 w) (hk : B ≤ k) : Below B w0 (iterPut w k s q) :=
  h.trans ⟨rfl, rfl, rfl, by simp [iterPut], fun i hi => by
    show (w.heap.setIfInBounds k _)[i]? = _
    rw [Array.getElem?_setIfInBounds_ne (by omega)]⟩

/-- The inner round: is a byte among the first j of a set? -/
def among (set : ByteArray) (c : UInt8) (j : Nat) : Bool := ((bl set).take j).any (fun d => bi c == bi d)
theorem among_next (set : ByteArray) (c : UInt8) (j : Nat) (h : j < set.size) : among set c (j + 1) = (among set c j || bi c == bi (bat set j)) := by
  unfold among bat
  rw [List.take_succ_eq_append_getElem (by simpa [bl_length] using h), List.any_append, List.getD_eq_getElem?_getD, List.getElem?_eq_getElem (by simpa [bl_length] using h)]
  simp

theorem extract_drop (s : ByteArray) (pos : Nat) : s.extract pos s.size = bstr ((bl s).drop pos) := by
  apply ByteArray.ext
  simp only [ByteArray.data_extract, bstr, bl]
  apply Array.ext'
  rw [Array.toList_extract]
  have : s.size = s.data.toList.length := rfl
  rw [this]
  simp only [List.extract_eq_take_drop]
  rw [← List.length_drop, List.take_length]
theorem dropWhile_at (s : ByteArray) (f : UInt8 → Bool) (pos : Nat) (h1 : ∀ j, j < pos → f (bat s j) = true) (hlt : pos < s.size) (h2 : f (bat s pos) = false) : s.extract pos s.size = bstr ((bl s).dropWhile f) := by
  have : (bl s).dropWhile f = (bl s).drop pos := by
    have hl : pos < (bl s).length := by simpa [bl_length] using hlt
    have key : ∀ (l : List UInt8) (n : Nat), n < l.length → (∀ j, j < n → f (l.getD j 0) = true) → f (l.getD n 0) = false → l.dropWhile f = l.drop n := by
      intro l
      induction l with
      | nil => intro n h; simp at h
      | cons x r ih =>
        intro n hn h1 h2
        cases n with
        | zero => simp at h2; simp [h2]
        | succ n =>
          have h0 := h1 0 (by omega)
          simp at h0
          rw [List.dropWhile_cons_of_pos h0, List.drop_succ_cons]
          exact ih n (by simpa using hn) (fun j hj => by have := h1 (j + 1) (by omega); simpa using this) (by simpa using h2)
    exact key _ pos hl h1 h2
  rw [this, extract_drop]
theorem dropWhile_nil_of (l : List UInt8) (f : UInt8 → Bool) (h : ∀ x ∈ l, f x = true) : l.dropWhile f = [] := by
  induction l with
  | nil => rfl
  | cons x r ih => rw [List.dropWhile_cons_of_pos (h x (by simp))]; exact ih fun y hy => h y (by simp [hy])
theorem dropWhile_all (s : ByteArray) (f : UInt8 → Bool) (h1 : ∀ j, j < s.size → f (bat s j) = true) : bstr ((bl s).dropWhile f) = ⟨#[]⟩ := by
  have : (bl s).dropWhile f = [] := by
    refine dropWhile_nil_of _ _ fun x hx => ?_
    obtain ⟨j, hj, rfl⟩ := List.getElem_of_mem hx
    have := h1 j (by simpa [bl_length] using hj)
    unfold bat at this
    rw [List.getD_eq_getElem?_getD, List.getElem?_eq_getElem hj] at this
    exact this
  rw [this]; rfl

set_option maxHeartbeats 1000000 in
theorem cutLeft_calls (s set : ByteArray) (w : World) (ha : ∀ j, j < s.size → (bat s j).toNat < 128) (hset : ∀ j, j < set.size → (bat set j).toNat < 128) :
    Calls Tryd.prog 78 #[.string s, .string set] w fun e w' => e = .returned (.string (bstr ((bl s).dropWhile fun c => among set c set.size))) ∧ Below w.heap.size w w' := by
  go_enter Tryd.func78, Tryd.ntmps78
  go_wp2
  go_loopg [] s.size (fun m wr => ∃ pos, m = s.size - pos ∧ pos ≤ s.size ∧ wr.heap[w.heap.size]? = some (.stringIter s pos) ∧ Below w.heap.size w wr ∧ (∀ j, j < pos → among set (bat s j) set.size = true))
  case atStart => exact ⟨0, rfl, Nat.zero_le _, World.iter_heap _ _ _, (Below.refl _ _).alloc (Nat.le_refl _) _, fun j h => absurd h (Nat.not_lt_zero _)⟩
  case round =>
    obtain ⟨pos, hm, hpos, hit, hbel, hall⟩ := hrel
    have HM := Lib.hid hm
    have HA := Lib.hid hall
    clear hm hall
    by_cases hlt : pos < s.size
    · have hn := fun ty => run_next_at (P := Tryd.prog) wr w.heap.size s pos ty hit hlt (ha pos hlt)
      have HT : Hid (among set (bat s pos) set.size = true → ∀ j, j < pos + 1 → among set (bat s j) set.size = true) := fun hc j hj => by
        rcases Nat.lt_or_ge j pos with h | h
        · exact HA.out j h
        · obtain rfl : j = pos := by omega
          exact hc
      have HF : Hid (among set (bat s pos) set.size = false → s.extract pos s.size = bstr ((bl s).dropWhile fun c => among set c set.size)) := fun hc =>
        dropWhile_at s (fun c => among set c set.size) pos HA.out hlt hc
      generalize bat s pos = c at hn HT HF
      have hit2 := iterPut_at (q := pos + 1) hit
      have hbel2 := iterPut_below (s := s) (q := pos + 1) hbel (Nat.le_refl _)
      generalize iterPut wr w.heap.size s (pos + 1) = w2 at hn hit2 hbel2
      go_wp2
      go_loopg [7] set.size (fun m v w3 => ∃ j, m = set.size - j ∧ j ≤ set.size ∧ v = .bool (among set c j) ∧ w3.heap[w2.heap.size]? = some (.stringIter set j) ∧ Below w2.heap.size w2 w3)
      case atStart => exact ⟨0, rfl, Nat.zero_le _, rfl, World.iter_heap _ _ _, (Below.refl _ _).alloc (Nat.le_refl _) _⟩
      case round =>
        obtain ⟨j, hm, hj, rfl, hit3, hbel3⟩ := hrel
        have HJ := Lib.hid hm
        clear hm hn
        by_cases hlt2 : j < set.size
        · have hn := fun ty => run_next_at (P := Tryd.prog) _ w2.heap.size set j ty hit3 hlt2 (hset j hlt2)
          have HN := Lib.hid (among_next set c j hlt2)
          generalize bat set j = d at hn HN
          have hit4 := iterPut_at (q := j + 1) hit3
          have hbel4 := iterPut_below (s := set) (q := j + 1) hbel3 (Nat.le_refl _)
          generalize iterPut wr w2.heap.size set (j + 1) = w4 at hn hit4 hbel4
          cases hb : among set c j with
          | true =>
            go_wp2
            go_roundg (set.size - (j + 1))
            case measure => have := HJ.out; omega
            case rel => exact ⟨j + 1, rfl, hlt2, by rw [HN.out, hb]; rfl, hit4, hbel4⟩
          | false =>
            go_wp2
            go_roundg (set.size - (j + 1))
            case measure => have := HJ.out; omega
            case rel => exact ⟨j + 1, rfl, hlt2, by rw [HN.out, hb]; rfl, hit4, hbel4⟩
        · obtain rfl : j = set.size := by omega
          have hn := fun ty => run_next_stop (P := Tryd.prog) wr w2.heap.size set ty hit3
          have hbel5 := hbel2.trans (hbel3.mono hbel2.size)
          have hit5 : wr.heap[w.heap.size]? = some (.stringIter s (pos + 1)) := by rw [hbel3.block _ (lt_of_block hit2)]; exact hit2
          cases hb : among set c set.size with
          | true =>
            have HT' := Lib.hid (HT.out hb)
            clear HT HF
            go_wp2
            go_roundg (s.size - (pos + 1))
            case measure => have := HM.out; omega
            case rel => exact ⟨pos + 1, rfl, hlt, hit5, hbel5, HT'.out⟩
          | false =>
            have HF' := Lib.hid (HF.out hb)
            clear HT HF
            go_wp2
            go_ret
            rw [← HF'.out]
            exact ⟨rfl, hbel5⟩
    · obtain rfl : pos = s.size := by omega
      have hn := fun ty => run_next_stop (P := Tryd.prog) wr w.heap.size s ty hit
      have HE := Lib.hid (dropWhile_all s (fun c => among set c set.size) HA.out)
      go_wp2
      go_ret
      rw [HE.out]
      exact ⟨rfl, hbel⟩

set_option maxHeartbeats 1000000 in
theorem last_calls (s : ByteArray) (w : World) (n : Nat) (hn : n + 1 = s.size) (hs : s.size ≤ 140737488351232) (ha : (bat s n).toNat < 128) :
    Calls Tryd.prog 85 #[.string s] w fun e w' => e = .returned (.tuple #[.int .i32 (bi (bat s n)), .int .i64 1]) ∧ w = w' := by
  have hb := bat_at s n
  have hr : bi (bat s n) < 128 := by unfold bi; omega
  have hr2 := bi_range (bat s n)
  clear ha
  generalize bat s n = x at hb hr hr2
  have hr0 := hr2.1
  clear hr2
  have hz : ((s.size : Int) == 0) = false := by rw [beq_eq_false_iff_ne]; omega
  have hi : (s.size : Int) - 1 = ((n : Nat) : Int) := by omega
  have hlt : n < s.size := by omega
  have HN := Lib.hid hn
  clear hn
  go_enter Tryd.func85, Tryd.ntmps85
  go_wp2
  go_ret2
  exact ⟨rfl, rfl⟩

theorem take_extract (l : List UInt8) (n : Nat) : (bstr (l.take (n + 1))).extract 0 n = bstr (l.take n) := by
  apply ByteArray.ext
  apply Array.ext'
  have := Lib.extract_data (bstr (l.take (n + 1))) 0 n
  rw [this]
  simp [bstr, List.take_take]

theorem bat_take (s : ByteArray) (n : Nat) : bat (bstr ((bl s).take (n + 1))) n = bat s n := by
  unfold bat
  rw [bl_bstr, List.getD_eq_getElem?_getD, List.getD_eq_getElem?_getD, List.getElem?_take, if_pos (by omega)]

set_option maxHeartbeats 1000000 in
theorem cutRight_calls (s set : ByteArray) (w : World) (hs : s.size ≤ 140737488351232) (ha : ∀ j, j < s.size → (bat s j).toNat < 128) (hset : ∀ j, j < set.size → (bat set j).toNat < 128) :
    Calls Tryd.prog 77 #[.string s, .string set] w fun e w' => (∃ n, n ≤ s.size ∧ e = .returned (.string (bstr ((bl s).take n))) ∧ (∀ j, n ≤ j → j < s.size → among set (bat s j) set.size = true) ∧ (n = 0 ∨ among set (bat s (n - 1)) set.size = false)) ∧ Below w.heap.size w w' := by
  go_enter Tryd.func77, Tryd.ntmps77
  go_wp2
  go_loopg [0] s.size (fun m v wr => ∃ n, m = n ∧ n ≤ s.size ∧ v = .string (bstr ((bl s).take n)) ∧ Below w.heap.size w wr ∧ (∀ j, n ≤ j → j < s.size → among set (bat s j) set.size = true))
  case atStart => exact ⟨s.size, rfl, Nat.le_refl _, by rw [← bl_length, List.take_length, bstr_bl], Below.refl _ _, fun j h1 h2 => by omega⟩
  case round =>
    obtain ⟨n, hm, hn, rfl, hbel, hall⟩ := hrel
    have HM := Lib.hid hm
    have HA := Lib.hid hall
    clear hm hall
    have hsz : (bstr ((bl s).take n)).size = n := by rw [bstr_size, List.length_take, bl_length]; omega
    cases n with
    | zero =>
      go_wp2
      go_ret
      exact ⟨⟨0, Nat.zero_le _, rfl, HA.out, .inl rfl⟩, hbel⟩
    | succ n =>
      have hcall := last_calls (bstr ((bl s).take (n + 1))) wr n hsz.symm (by omega) (by rw [bat_take s n]; exact ha n hn)
      rw [bat_take s n] at hcall
      have hex := take_extract (bl s) n
      have HF : Hid (among set (bat s n) set.size = false → among set (bat s (n + 1 - 1)) set.size = false) := fun h => h
      have HT : Hid (among set (bat s n) set.size = true → ∀ j, n ≤ j → j < s.size → among set (bat s j) set.size = true) := fun hc j h1 h2 => by
        rcases Nat.lt_or_ge n j with h | h
        · exact HA.out j h h2
        · obtain rfl : j = n := by omega
          exact hc
      generalize bat s n = c at hcall HF HT
      obtain ⟨wo, rfl⟩ : ∃ wo : World, wo = wr := ⟨_, rfl⟩
      go_wp2_with fail
      refine hcall.mono ?_
      rintro e w' ⟨rfl, rfl⟩
      clear hcall
      go_wp2
      go_loopg [7] set.size (fun m v w3 => ∃ j, m = set.size - j ∧ j ≤ set.size ∧ v = .bool (among set c j) ∧ w3.heap[wo.heap.size]? = some (.stringIter set j) ∧ Below wo.heap.size wo w3)
      case atStart => exact ⟨0, rfl, Nat.zero_le _, rfl, World.iter_heap _ _ _, (Below.refl _ _).alloc (Nat.le_refl _) _⟩
      case round =>
        obtain ⟨j, hm, hj, rfl, hit3, hbel3⟩ := hrel
        have HJ := Lib.hid hm
        clear hm
        by_cases hlt2 : j < set.size
        · have hn := fun ty => run_next_at (P := Tryd.prog) _ wo.heap.size set j ty hit3 hlt2 (hset j hlt2)
          have HN := Lib.hid (among_next set c j hlt2)
          generalize bat set j = d at hn HN
          have hit4 := iterPut_at (q := j + 1) hit3
          have hbel4 := iterPut_below (s := set) (q := j + 1) hbel3 (Nat.le_refl _)
          generalize iterPut wr wo.heap.size set (j + 1) = w4 at hn hit4 hbel4
          cases hb : among set c j with
          | true =>
            go_wp2
            go_roundg (set.size - (j + 1))
            case measure => have := HJ.out; omega
            case rel => exact ⟨j + 1, rfl, hlt2, by rw [HN.out, hb]; rfl, hit4, hbel4⟩
          | false =>
            go_wp2
            go_roundg (set.size - (j + 1))
            case measure => have := HJ.out; omega
            case rel => exact ⟨j + 1, rfl, hlt2, by rw [HN.out, hb]; rfl, hit4, hbel4⟩
        · obtain rfl : j = set.size := by omega
          have hn := fun ty => run_next_stop (P := Tryd.prog) wr wo.heap.size set ty hit3
          have hbel5 := hbel.trans (hbel3.mono hbel.size)
          cases hb : among set c set.size with
          | true =>
            have HT' := Lib.hid (HT.out hb)
            clear HT HF
            go_wp2
            go_roundg n
            case measure => have := HM.out; omega
            case rel => exact ⟨n, rfl, by omega, rfl, hbel5, HT'.out⟩
          | false =>
            have HF' := Lib.hid (HF.out hb)
            clear HT HF
            go_wp2
            go_ret
            exact ⟨⟨n + 1, by omega, rfl, HA.out, .inr HF'.out⟩, hbel5⟩
end Go.Proofs.YtppbijbgnhmdaaaDoor

/- What package lex takes for a text of hexadecimal or binary digits. -/
namespace Go.Proofs.YtppbijbgnhmdaaaDoor
open Go.RowKit

def hexSet : ByteArray := ⟨#[48, 49, 50, 51, 52, 53, 54, 55, 56, 57, 97, 98, 99, 100, 101, 102, 65, 66, 67, 68, 69, 70]⟩
def binSet : ByteArray := ⟨#[48, 49]⟩
def inSet (set : ByteArray) (c : UInt8) : Bool := among set c set.size
/-- x and hexadecimal digits, or b and binary ones. -/
def basedB (l : List UInt8) : Bool := decide (1 < l.length) && ((bi (l.getD 0 0) == 120 && (l.drop 1).all (inSet hexSet)) || (bi (l.getD 0 0) == 98 && (l.drop 1).all (inSet binSet)))

theorem cut_both (set : ByteArray) (X : List UInt8) (n : Nat) (hn : n ≤ (X.dropWhile (inSet set)).length)
    (h1 : ∀ j, n ≤ j → j < (bstr (X.dropWhile (inSet set))).size → inSet set (bat (bstr (X.dropWhile (inSet set))) j) = true) (h2 : n = 0 ∨ inSet set (bat (bstr (X.dropWhile (inSet set))) (n - 1)) = false) :
    (bstr ((X.dropWhile (inSet set)).take n)).toList.isEmpty = X.all (inSet set) := by
  rw [ByteArray.toList_eq]
  show ((X.dropWhile (inSet set)).take n).isEmpty = _
  cases hX : X.all (inSet set) with
  | true =>
    rw [List.all_eq_true] at hX
    rw [dropWhile_nil_of X _ hX]
    simp
  | false =>
    rw [List.all_eq_false] at hX
    obtain ⟨x, hx, hf⟩ := hX
    have hY : ∃ y r, X.dropWhile (inSet set) = y :: r ∧ inSet set y = false := by
      have : ∀ (l : List UInt8), x ∈ l → ∃ y r, l.dropWhile (inSet set) = y :: r ∧ inSet set y = false := by
        intro l
        induction l with
        | nil => intro h; simp at h
        | cons z r ih =>
          intro h
          cases hz : inSet set z with
          | true =>
            rw [List.dropWhile_cons_of_pos hz]
            rcases List.mem_cons.1 h with rfl | h
            · exact absurd hz hf
            · exact ih h
          | false => exact ⟨z, r, by rw [List.dropWhile_cons_of_neg (by simp [hz])], hz⟩
      exact this X hx
    obtain ⟨y, r, hY, hy⟩ := hY
    rw [hY] at h1 hn ⊢
    cases n with
    | zero =>
      have := h1 0 (Nat.le_refl _) (by rw [bstr_size]; simp)
      simp [bat, bl_bstr, hy] at this
    | succ n => simp

theorem inSet_ascii (s : ByteArray) (l : List UInt8) (h : ∀ x ∈ bl s, x.toNat < 128) (hl : ∀ x ∈ l, x ∈ bl s) : ∀ j, j < (bstr l).size → (bat (bstr l) j).toNat < 128 := by
  intro j hj
  have := bat_mem' (bstr l) j hj
  exact h _ (hl _ this)

theorem basedB_hex (l : List UInt8) (h : 1 < l.length) (hx : bi (l.getD 0 0) = 120) : basedB l = (l.drop 1).all (inSet hexSet) := by
  unfold basedB
  rw [decide_eq_true h, hx]
  simp
theorem basedB_bin (l : List UInt8) (h : 1 < l.length) (hx : bi (l.getD 0 0) = 98) : basedB l = (l.drop 1).all (inSet binSet) := by
  unfold basedB
  rw [decide_eq_true h, hx]
  simp
theorem basedB_no (l : List UInt8) (hx : ¬ bi (l.getD 0 0) = 120) (hy : ¬ bi (l.getD 0 0) = 98) : basedB l = false := by
  unfold basedB
  rw [beq_eq_false_iff_ne.2 hx, beq_eq_false_iff_ne.2 hy]
  simp
theorem hex_ascii : ∀ j, j < hexSet.size → (bat hexSet j).toNat < 128 := by decide +kernel
theorem bin_ascii : ∀ j, j < binSet.size → (bat binSet j).toNat < 128 := by decide +kernel

set_option maxHeartbeats 1000000 in
theorem based_calls (s : ByteArray) (w : World) (h0 : 0 < s.size) (hs : s.size ≤ 140737488351232) (ha : ∀ x ∈ bl s, x.toNat < 128) :
    Calls Tryd.prog 68 #[.string s] w fun e w' => e = .returned (.bool (basedB (bl s))) ∧ Below w.heap.size w w' := by
  have hb := bat_at s 0
  by_cases h1 : 1 < s.size
  · have hex := extract_drop s 1
    have hd : decide ((1 : Int) < (s.size : Int)) = true := by simp; omega
    have hXs : (bstr ((bl s).drop 1)).size ≤ 140737488351232 := by rw [bstr_size, List.length_drop, bl_length]; omega
    have hXa := inSet_ascii s ((bl s).drop 1) ha (fun x h => List.mem_of_mem_drop h)
    have hYs : ∀ f : UInt8 → Bool, (bstr (((bl s).drop 1).dropWhile f)).size ≤ 140737488351232 := fun f => by
      have := (List.dropWhile_sublist f (l := (bl s).drop 1)).length_le
      rw [bstr_size] at hXs ⊢
      omega
    have hYa : ∀ f : UInt8 → Bool, ∀ j, j < (bstr (((bl s).drop 1).dropWhile f)).size → (bat (bstr (((bl s).drop 1).dropWhile f)) j).toNat < 128 := fun f =>
      inSet_ascii s _ ha (fun x h => List.mem_of_mem_drop ((List.dropWhile_sublist f).mem h))
    have key : ∀ set : ByteArray, (∀ j, j < set.size → (bat set j).toNat < 128) → ∀ W, Calls Tryd.prog 78 #[.string (bstr ((bl s).drop 1)), .string set] W fun e w' => e = .returned (.string (bstr (((bl s).drop 1).dropWhile (inSet set)))) ∧ Below W.heap.size W w' :=
      fun set h W => cutLeft_calls _ set W hXa h
    have key2 : ∀ set : ByteArray, (∀ j, j < set.size → (bat set j).toNat < 128) → ∀ W, Calls Tryd.prog 77 #[.string (bstr (((bl s).drop 1).dropWhile (inSet set))), .string set] W fun e w' => (∃ r : ByteArray, e = .returned (.string r) ∧ r.toList.isEmpty = ((bl s).drop 1).all (inSet set)) ∧ Below W.heap.size W w' :=
      fun set h W => by
        refine (cutRight_calls _ set W (hYs _) (hYa _) h).mono ?_
        rintro e w' ⟨⟨n, hn, rfl, h1, h2⟩, hbel⟩
        exact ⟨⟨_, rfl, cut_both set ((bl s).drop 1) n hn h1 h2⟩, hbel⟩
    by_cases hx : bi (bat s 0) = 120
    · have HN := Lib.hid (basedB_hex (bl s) h1 hx)
      have c1 := key hexSet hex_ascii
      have c2 := key2 hexSet hex_ascii
      clear key key2 hYs hYa hXs hXa
      generalize hZ : ((bl s).drop 1) = Z at *
      clear hZ
      generalize bstr (Z.dropWhile (inSet hexSet)) = Y at *
      generalize bstr Z = X at *
      have hb' := hb h0
      rw [hx] at hb'
      clear hb hx
      go_enter Tryd.func68, Tryd.ntmps68
      go_wp2_with fail
      refine (c1 _).mono ?_
      rintro e w1 ⟨rfl, hb1⟩
      go_wp2_with fail
      refine (c2 _).mono ?_
      rintro e w2 ⟨⟨r, rfl, hr⟩, hb2⟩
      have HR := Lib.hid hr
      clear hr c1 c2
      go_wp2
      go_ret
      rw [HN.out, ← HR.out]
      exact ⟨rfl, hb1.trans (hb2.mono hb1.size)⟩
    · by_cases hy : bi (bat s 0) = 98
      · have HN := Lib.hid (basedB_bin (bl s) h1 hy)
        have c1 := key binSet bin_ascii
        have c2 := key2 binSet bin_ascii
        clear key key2 hYs hYa hXs hXa hx
        generalize hZ : ((bl s).drop 1) = Z at *
        clear hZ
        generalize bstr (Z.dropWhile (inSet binSet)) = Y at *
        generalize bstr Z = X at *
        have hb' := hb h0
        rw [hy] at hb'
        clear hb hy
        go_enter Tryd.func68, Tryd.ntmps68
        go_wp2_with fail
        refine (c1 _).mono ?_
        rintro e w1 ⟨rfl, hb1⟩
        go_wp2_with fail
        refine (c2 _).mono ?_
        rintro e w2 ⟨⟨r, rfl, hr⟩, hb2⟩
        have HR := Lib.hid hr
        clear hr c1 c2
        go_wp2
        go_ret
        rw [HN.out, ← HR.out]
        exact ⟨rfl, hb1.trans (hb2.mono hb1.size)⟩
      · have HN := Lib.hid (basedB_no (bl s) hx hy)
        have e1 : (bi (bat s 0) == 120) = false := by simpa using hx
        have e2 : (bi (bat s 0) == 98) = false := by simpa using hy
        clear key key2 hYs hYa hXs hXa hx hy
        generalize bat s 0 = x at *
        have hb' := hb h0
        clear hb
        go_enter Tryd.func68, Tryd.ntmps68
        go_wp2
        go_ret
        rw [HN.out]
        exact ⟨rfl, Below.refl _ _⟩
  · have HN : Hid (basedB (bl s) = false) := by unfold basedB; rw [bl_length, decide_eq_false h1]; rfl
    have hd : decide ((1 : Int) < (s.size : Int)) = false := by simp; omega
    generalize bat s 0 = x at hb
    have hb' := hb h0
    clear hb
    by_cases hx : (bi x == 120) = true
    all_goals
      go_enter Tryd.func68, Tryd.ntmps68
      go_wp2
      go_ret
      rw [HN.out]
      exact ⟨rfl, Below.refl _ _⟩
end Go.Proofs.YtppbijbgnhmdaaaDoor


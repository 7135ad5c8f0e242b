/- The table of classes of bytes. -/
import Derived.Test.YtppbijbgnhmdaaaDoorLexBase
import Derived.Test.YtppbijbgnhmdaaaDoorShelf
namespace Go.Proofs.YtppbijbgnhmdaaaDoor
open Go.RowKit

def tabTo (i : Nat) : Array Value := ((List.range 256).map fun c => if c < i then Value.int .u8 ((cl c : Nat) : Int) else Value.int .u8 0).toArray
def tabArr : Array Value := ((List.range 256).map fun c => Value.int .u8 ((cl c : Nat) : Int)).toArray
theorem tabTo_size (i : Nat) : (tabTo i).size = 256 := by simp [tabTo]
theorem tabArr_size : tabArr.size = 256 := by simp [tabArr]
theorem tabArr_one : tabArr.all (·.oneCell') = true := by
  unfold tabArr
  refine all_oneCell_toArray fun v hv => ?_
  obtain ⟨c, _, rfl⟩ := List.mem_map.1 hv
  rfl
theorem tabTo_end : tabTo 256 = tabArr := by
  have : ((List.range 256).map fun c => if c < 256 then Value.int .u8 ((cl c : Nat) : Int) else Value.int .u8 0) = ((List.range 256).map fun c => Value.int .u8 ((cl c : Nat) : Int)) := by
    refine List.map_congr_left fun c hc => ?_
    have := List.mem_range.1 hc
    rw [if_pos this]
  unfold tabTo tabArr
  rw [this]
theorem tabTo_zero : tabTo 0 = Array.replicate 256 (Value.int .u8 0) := by
  have : ((List.range 256).map fun c => if c < 0 then Value.int .u8 ((cl c : Nat) : Int) else Value.int .u8 0) = List.replicate 256 (Value.int .u8 0) := by
    rw [List.eq_replicate_iff]
    refine ⟨by rw [List.length_map, List.length_range], fun b hb => ?_⟩
    obtain ⟨c, _, rfl⟩ := List.mem_map.1 hb
    rw [if_neg (Nat.not_lt_zero _)]
  unfold tabTo
  rw [this]
  rfl
theorem tabTo_get (i : Nat) (h : i < 256) : (tabTo i)[i]? = some (.int .u8 0) := by
  simp [tabTo, h]
theorem tabTo_set (i : Nat) : (tabTo i).setIfInBounds i (.int .u8 ((cl i : Nat) : Int)) = tabTo (i + 1) := by
  apply Array.ext
  · simp [tabTo]
  · intro j h1 h2
    have hj : j < 256 := by simpa [tabTo] using h2
    by_cases e : i = j
    · subst e
      simp [tabTo]
    · rw [Array.getElem_setIfInBounds_ne (by simpa [tabTo] using hj) e]
      have : j < i + 1 ↔ j < i := by omega
      simp [tabTo, this]

def inExtras (i : Nat) : Prop := i ∈ [126, 33, 64, 36, 37, 94, 38, 42, 95, 45, 43, 61, 60, 62, 46, 63, 47]
instance (i : Nat) : Decidable (inExtras i) := inferInstanceAs (Decidable (i ∈ _))
def extras : List UInt8 := [126, 33, 64, 36, 37, 94, 38, 42, 95, 45, 43, 61, 60, 62, 46, 63, 47]
theorem idx_extras : ∀ i : Fin 256, (decide (0 ≤ Lib.indexByte extras (Nat.toUInt8 i.val))) = (decide (i.val ∈ [126, 33, 64, 36, 37, 94, 38, 42, 95, 45, 43, 61, 60, 62, 46, 63, 47])) := by decide +kernel
theorem idx_range : ∀ i : Fin 256, -1 ≤ Lib.indexByte extras (Nat.toUInt8 i.val) ∧ Lib.indexByte extras (Nat.toUInt8 i.val) ≤ 17 := by decide +kernel
theorem idx_calls (i : Nat) (h : i < 256) : ∃ v : Int, -1 ≤ v ∧ v ≤ 17 ∧ (0 ≤ v ↔ inExtras i) ∧
    ∀ W, Calls Tryd.prog 61 #[.string ⟨#[126, 33, 64, 36, 37, 94, 38, 42, 95, 45, 43, 61, 60, 62, 46, 63, 47]⟩, .int .u8 ((i : Nat) : Int)] W fun e w' => e = .returned (.int .i64 v) ∧ W = w' := by
  refine ⟨Lib.indexByte extras (Nat.toUInt8 i), (idx_range ⟨i, h⟩).1, (idx_range ⟨i, h⟩).2, ?_, fun W => ?_⟩
  · have := idx_extras ⟨i, h⟩
    rw [decide_eq_decide] at this
    exact this
  · refine (Tryd.strings_IndexByte ⟨#[126, 33, 64, 36, 37, 94, 38, 42, 95, 45, 43, 61, 60, 62, 46, 63, 47]⟩ ((i : Nat) : Int) W).mono ?_
    rintro e w' ⟨rfl, rfl⟩
    exact ⟨rfl, rfl⟩

theorem cl_digit : ∀ i : Fin 256, 48 ≤ i.val ∧ i.val ≤ 57 → cl i.val = 11 := by decide +kernel
theorem cl_lower : ∀ i : Fin 256, 97 ≤ i.val ∧ i.val ≤ 122 → cl i.val = 9 := by decide +kernel
theorem cl_upper : ∀ i : Fin 256, 65 ≤ i.val ∧ i.val ≤ 90 → cl i.val = 9 := by decide +kernel
theorem cl_extra : ∀ i : Fin 256, inExtras i.val → cl i.val = 9 ∧ 32 < i.val ∧ i.val ≠ 127 ∧ ¬ (48 ≤ i.val ∧ i.val ≤ 57) ∧ ¬ (97 ≤ i.val ∧ i.val ≤ 122) ∧ ¬ (65 ≤ i.val ∧ i.val ≤ 90) := by decide +kernel
theorem cl_blank : ∀ i : Fin 256, i.val = 9 ∨ i.val = 10 ∨ i.val = 13 ∨ i.val = 32 → cl i.val = 12 ∧ ¬ inExtras i.val := by decide +kernel
theorem cl_other : ∀ i : Fin 256, ¬ (48 ≤ i.val ∧ i.val ≤ 57) → ¬ (97 ≤ i.val ∧ i.val ≤ 122) → ¬ (65 ≤ i.val ∧ i.val ≤ 90) → ¬ inExtras i.val → ¬ (i.val = 9 ∨ i.val = 10 ∨ i.val = 13 ∨ i.val = 32) → cl i.val = if 32 < i.val ∧ i.val ≠ 127 then 8 else 0 := by decide +kernel

structure TabRel (w : World) (i : Nat) (wr : World) : Prop where
  hi : i ≤ 256
  blk : wr.heap[w.heap.size]? = some (.cells (tabTo i) 88 (0, 0))
  gr : Below w.heap.size w wr

theorem TabRel.cell {w wr : World} {i : Nat} (h : TabRel w i wr) (hi : i < 256) : wr.cell? ⟨w.heap.size, i, none⟩ = some (.int .u8 0) := by
  simp only [World.cell?, h.blk]
  simpa using tabTo_get i hi
theorem TabRel.free {w wr : World} {i : Nat} (h : TabRel w i wr) (o : Nat) : wr.frozen? ⟨w.heap.size, o, none⟩ = false := by simp [World.frozen?, h.blk]

theorem TabRel.keep {w wr : World} {i : Nat} (h : TabRel w i wr) (hi : i < 256) (h0 : cl i = 0) : TabRel w (i + 1) wr := by
  refine ⟨hi, ?_, h.gr⟩
  rw [← tabTo_set i, h0]
  have : (tabTo i).setIfInBounds i (Value.int .u8 ((0 : Nat) : Int)) = tabTo i := by
    apply Array.ext
    · simp
    · intro j h1 h2
      by_cases e : i = j
      · subst e
        have := tabTo_get i hi
        rw [Array.getElem?_eq_getElem h2] at this
        simp at this
        simp [this]
      · rw [Array.getElem_setIfInBounds_ne h2 e]
  rw [this]
  exact h.blk
theorem TabRel.one {w wr : World} {i : Nat} (h : TabRel w i wr) (hi : i < 256) (k : Int) (hk : ((cl i : Nat) : Int) = k) : TabRel w (i + 1) (wr.setCell ⟨w.heap.size, i, none⟩ (.int .u8 k)) := by
  subst hk
  refine ⟨hi, ?_, h.gr.setCell (Nat.le_refl _) _⟩
  rw [heap_setCell_at h.blk, tabTo_set i]
theorem TabRel.two {w wr : World} {i : Nat} (h : TabRel w i wr) (hi : i < 256) (k u : Int) (hk : ((cl i : Nat) : Int) = k) : TabRel w (i + 1) ((wr.setCell ⟨w.heap.size, i, none⟩ (.int .u8 u)).setCell ⟨w.heap.size, i, none⟩ (.int .u8 k)) := by
  subst hk
  refine ⟨hi, ?_, (h.gr.setCell (Nat.le_refl _) _).setCell (Nat.le_refl _) _⟩
  rw [heap_setCell_at (heap_setCell_at h.blk)]
  rw [Array.setIfInBounds_setIfInBounds, tabTo_set i]

set_option maxHeartbeats 1000000 in
set_option maxRecDepth 100000 in
theorem classes_calls (w : World) :
    Calls Tryd.prog 54 #[] w fun e w' => e = .returned (.agg tabArr) ∧ Below w.heap.size w w' := by
  have hz : ∀ W, (zeroValue 88).run Tryd.prog W = .ok (.agg (tabTo 0)) W := fun W => by rw [tabTo_zero]; kernel_rfl
  go_enter Tryd.func54, Tryd.ntmps54
  go_wp2
  clear hz
  go_loopw [3] (fun v wr => ∃ i : Nat, v = .int .i64 (i : Int) ∧ TabRel w i wr) (fun v _ => 256 - (intOf v).toNat)
  case atStart => exact ⟨0, rfl, Nat.zero_le _, heap_alloc_new w _, (Below.refl _ _).alloc (Nat.le_refl _) _⟩
  case round =>
    obtain ⟨i, rfl, hrel⟩ := hrel
    by_cases hlt : i < 256
    · have hc := hrel.cell hlt
      have hf := hrel.free i
      obtain ⟨v, hv1, hv2, hv3, hcall⟩ := idx_calls i hlt
      have b34 : bits BinOp.and IntKind.u8 3 4 = 0 := by decide
      have b14 : bits BinOp.and IntKind.u8 1 4 = 0 := by decide
      have b44 : bits BinOp.and IntKind.u8 4 4 = 4 := by decide
      have b04 : bits BinOp.and IntKind.u8 0 4 = 0 := by decide
      have o38 : bits BinOp.or IntKind.u8 3 8 = 11 := by decide
      have o18 : bits BinOp.or IntKind.u8 1 8 = 9 := by decide
      have o48 : bits BinOp.or IntKind.u8 4 8 = 12 := by decide
      have o08 : bits BinOp.or IntKind.u8 0 8 = 8 := by decide
      by_cases hA : 48 ≤ i ∧ i ≤ 57
      · have hk : Hid (((cl i : Nat) : Int) = 11) := congrArg (fun (n : Nat) => (n : Int)) (cl_digit ⟨i, hlt⟩ hA)
        obtain ⟨h1, h2⟩ := hA
        clear hv3
        go_wp2
        go_roundw
        case rel => exact ⟨i + 1, by go_num, hrel.two hlt _ _ hk.out⟩
        case measure => simp [intOf]; omega
      by_cases hB : 97 ≤ i ∧ i ≤ 122
      · have hk : Hid (((cl i : Nat) : Int) = 9) := congrArg (fun (n : Nat) => (n : Int)) (cl_lower ⟨i, hlt⟩ hB)
        obtain ⟨h1, h2⟩ := hB
        clear hv3 hA
        go_wp2
        go_roundw
        case rel => exact ⟨i + 1, by go_num, hrel.two hlt _ _ hk.out⟩
        case measure => simp [intOf]; omega
      by_cases hC : 65 ≤ i ∧ i ≤ 90
      · have hk : Hid (((cl i : Nat) : Int) = 9) := congrArg (fun (n : Nat) => (n : Int)) (cl_upper ⟨i, hlt⟩ hC)
        obtain ⟨h1, h2⟩ := hC
        clear hv3 hA hB
        go_wp2
        go_roundw
        case rel => exact ⟨i + 1, by go_num, hrel.two hlt _ _ hk.out⟩
        case measure => simp [intOf]; omega
      by_cases hD : inExtras i
      · obtain ⟨k0, k1', k2', _, _, _⟩ := cl_extra ⟨i, hlt⟩ hD
        have k1 : 32 < i := k1'
        have k2 : i ≠ 127 := k2'
        clear k1' k2'
        have hk : Hid (((cl i : Nat) : Int) = 9) := congrArg (fun (n : Nat) => (n : Int)) k0
        have hv0 : 0 ≤ v := hv3.2 hD
        have e1 : ¬ (48 ≤ i ∧ i ≤ 57) := hA
        clear hv3 hD k0
        have n1 : ((i : Int) != 0) = true := by simp; omega
        rcases (show i < 48 ∨ (57 < i ∧ i < 65) ∨ (90 < i ∧ i < 97) ∨ 122 < i from by omega) with h | ⟨h, h'⟩ | ⟨h, h'⟩ | h <;> clear hA hB hC e1
        all_goals
          go_wp2_with ((go_at_call 61; refine (hcall _).mono ?_; rintro e w' ⟨rfl, rfl⟩))
          go_roundw
          case rel => exact ⟨i + 1, by go_num, hrel.two hlt _ _ hk.out⟩
          case measure => simp [intOf]; omega
      · have hv0 : v < 0 := by
          rcases Int.lt_or_le v 0 with h | h
          · exact h
          · exact absurd (hv3.1 h) hD
        by_cases hE : i = 9 ∨ i = 10 ∨ i = 13 ∨ i = 32
        · obtain ⟨k0, _⟩ := cl_blank ⟨i, hlt⟩ hE
          have hk : Hid (((cl i : Nat) : Int) = 12) := congrArg (fun (n : Nat) => (n : Int)) k0
          clear hv3 hD k0 hA hB hC
          rcases hE with rfl | rfl | rfl | rfl
          all_goals
            go_wp2_with ((go_at_call 61; refine (hcall _).mono ?_; rintro e w' ⟨rfl, rfl⟩))
            go_roundw
            case rel => exact ⟨_, by go_num, hrel.two hlt _ _ hk.out⟩
            case measure => simp [intOf]
        · have k0 := cl_other ⟨i, hlt⟩ hA hB hC hD hE
          by_cases hF : 32 < i ∧ i ≠ 127
          · have hk : Hid (((cl i : Nat) : Int) = 8) := congrArg (fun (n : Nat) => (n : Int)) (k0.trans (if_pos hF))
            obtain ⟨g1, g2⟩ := hF
            have m1 : ((i : Int) == 9) = false := by simp; omega
            have m2 : ((i : Int) == 10) = false := by simp; omega
            have m3 : ((i : Int) == 13) = false := by simp; omega
            have m4 : ((i : Int) == 32) = false := by simp; omega
            have m5 : ((i : Int) != 127) = true := by simp; omega
            have m6 : ((i : Int) != 0) = true := by simp; omega
            clear hv3 hD k0 hE
            rcases (show i < 48 ∨ (57 < i ∧ i < 65) ∨ (90 < i ∧ i < 97) ∨ 122 < i from by omega) with h | ⟨h, h'⟩ | ⟨h, h'⟩ | h <;> clear hA hB hC
            all_goals
              go_wp2_with ((go_at_call 61; refine (hcall _).mono ?_; rintro e w' ⟨rfl, rfl⟩))
              go_roundw
              case rel => exact ⟨i + 1, by go_num, hrel.one hlt _ hk.out⟩
              case measure => simp [intOf]; omega
          · have hk : cl i = 0 := k0.trans (if_neg hF)
            have HK := Lib.hid hk
            have m1 : ((i : Int) == 9) = false := by simp; omega
            have m2 : ((i : Int) == 10) = false := by simp; omega
            have m3 : ((i : Int) == 13) = false := by simp; omega
            have m4 : ((i : Int) == 32) = false := by simp; omega
            clear hv3 hD k0 hE hk
            rcases (show i = 0 ∨ (0 < i ∧ i < 33) ∨ i = 127 from by omega) with rfl | ⟨h, h'⟩ | rfl <;> clear hA hB hC hF
            all_goals
              go_wp2_with ((go_at_call 61; refine (hcall _).mono ?_; rintro e w' ⟨rfl, rfl⟩))
              go_roundw
              case rel => exact ⟨_, by go_num, hrel.keep hlt HK.out⟩
              case measure => first | omega | (simp [intOf]; done) | (simp [intOf]; omega)
    · obtain rfl : i = 256 := by have := hrel.hi; omega
      have hblk := hrel.blk
      rw [tabTo_end] at hblk
      have hone : tabArr.all (·.oneCell') = true := tabArr_one
      go_wp2_with (first
        | (refine wpList_load_row rfl 88 _ rfl w.heap.size rfl 88 _ (0, 0) _ hblk Tryd.underlying88 rfl (by kernel_rfl) ?_)
        | (refine wpList_store_mid rfl 88 _ _ rfl w.heap.size 0 tabArr rfl rfl (tabArr_size ▸ there_row hblk) (by rw [tabArr_size]; kernel_rfl) hone ?_))
      have hfin := setCells_row hblk tabArr rfl
      have hgr := setCells_only w.heap.size tabArr.toList 0 wr
      have hbel : Below w.heap.size w (wr.setCells w.heap.size 0 tabArr.toList) := hrel.gr.grown hgr hrel.gr.size (fun k hk => by injection hk; omega)
      generalize wr.setCells w.heap.size 0 tabArr.toList = w2 at hfin hbel ⊢
      refine bodyPost_ret (results_cell_row rfl _ _ w.heap.size 88 tabArr (0, 0) _ rfl hfin Tryd.underlying88 rfl (by rw [tabArr_size]; kernel_rfl)) rfl ⟨rfl, hbel⟩
end Go.Proofs.YtppbijbgnhmdaaaDoor

/- What a tree's text is made of: the iterator's recursion. -/
import Derived.Test.YtppbijbgnhmdaaaDoorTreeParts
namespace Go.Proofs.YtppbijbgnhmdaaaDoor
open Go.RowKit Forest Go.Shelf
attribute [local go_sem] Oper.semAt_some

/-- What a call of visit does. -/
def VisitDoes (lr n₀ n₁ N By Bv : Nat) (J Jx : List Part → World → Prop) (F : Forest) : Prop :=
  ∀ (l : Bool) (k : Int) (x : List UInt8) (a : Int) (A : Option Addr) (c : Nat) (first : Bool) (d m : Nat) (pre : List Part) (W : World), x.length ≤ 100000 → F.len ≤ c → c ≤ maxLen → FitsT F → d + hgt F + 1 ≤ 1000000 →
    LiesB (· < n₀) W F A 0 → n₁ ≤ W.heap.size → W.heap[By]? = some (.cells #[.func (.yield lr) #[] #[]] 77 (0, 0)) → W.heap[Bv]? = some (.cells #[.func (.func 41) #[] #[.pointer (some ⟨By, 0, none⟩), .pointer (some ⟨Bv, 0, none⟩)]] 78 (0, 0)) →
    J pre W → pre.length + (partsT l k x a F first d).length ≤ N →
    CallsIn Fence.wide m Tryd.prog 41 #[.agg #[.bool l, .int .u8 k, .string (bstr x), .int .i64 a, .slice A F.len c], .bool first, .int .i64 ((d : Nat) : Int), .pointer (some ⟨By, 0, none⟩), .pointer (some ⟨Bv, 0, none⟩)] W fun e W' =>
      (e = .returned (.bool true) ∧ ∃ xs : List Part, xs.map Part.s = partsT l k x a F first d ∧ J (pre ++ xs) W' ∧ KeptO n₀ n₁ W W' ∧ n₁ ≤ W'.heap.size) ∨
      (e = .returned (.bool false) ∧ ∃ q : List Part, q.map Part.s <+: partsT l k x a F first d ∧ Jx (pre ++ q) W')

/-- What stands in a call of visit behind a round: the boxes and the tree. -/
structure VMid (lr n₀ n₁ By Bv Bt : Nat) (l : Bool) (k : Int) (x : List UInt8) (a : Int) (A : Option Addr) (F : Forest) (c : Nat) (W0 W : World) : Prop where
  kept : KeptO n₀ n₁ W0 W
  size : n₁ ≤ W.heap.size
  yb : W.heap[By]? = some (.cells #[.func (.yield lr) #[] #[]] 77 (0, 0))
  vb : W.heap[Bv]? = some (.cells #[.func (.func 41) #[] #[.pointer (some ⟨By, 0, none⟩), .pointer (some ⟨Bv, 0, none⟩)]] 78 (0, 0))
  tb : W.heap[Bt]? = some (.cells #[.bool l, .int .u8 k, .string (bstr x), .int .i64 a, .slice A F.len c] 27 (0, 0))
  f : LiesB (· < n₀) W F A 0
section
variable {lr n₀ n₁ By Bv Bt : Nat} {l : Bool} {k : Int} {x : List UInt8} {a : Int} {A : Option Addr} {F : Forest} {c : Nat} {W0 W W2 : World}
theorem VMid.y (h : VMid lr n₀ n₁ By Bv Bt l k x a A F c W0 W) : W.cell? ⟨By, 0, none⟩ = some (.func (.yield lr) #[] #[]) := by simp [World.cell?, h.yb]
theorem VMid.v (h : VMid lr n₀ n₁ By Bv Bt l k x a A F c W0 W) : W.cell? ⟨Bv, 0, none⟩ = some (.func (.func 41) #[] #[.pointer (some ⟨By, 0, none⟩), .pointer (some ⟨Bv, 0, none⟩)]) := by simp [World.cell?, h.vb]
theorem VMid.t0 (h : VMid lr n₀ n₁ By Bv Bt l k x a A F c W0 W) : W.cell? ⟨Bt, 0, none⟩ = some (.bool l) := by simp [World.cell?, h.tb]
theorem VMid.t1 (h : VMid lr n₀ n₁ By Bv Bt l k x a A F c W0 W) : W.cell? ⟨Bt, 1, none⟩ = some (.int .u8 k) := by simp [World.cell?, h.tb]
theorem VMid.t2 (h : VMid lr n₀ n₁ By Bv Bt l k x a A F c W0 W) : W.cell? ⟨Bt, 2, none⟩ = some (.string (bstr x)) := by simp [World.cell?, h.tb]
theorem VMid.t3 (h : VMid lr n₀ n₁ By Bv Bt l k x a A F c W0 W) : W.cell? ⟨Bt, 3, none⟩ = some (.int .i64 a) := by simp [World.cell?, h.tb]
theorem VMid.t4 (h : VMid lr n₀ n₁ By Bv Bt l k x a A F c W0 W) : W.cell? ⟨Bt, 4, none⟩ = some (.slice A F.len c) := by simp [World.cell?, h.tb]
theorem VMid.step (h : VMid lr n₀ n₁ By Bv Bt l k x a A F c W0 W) (hBy : n₁ ≤ By) (hBv : n₁ ≤ Bv) (hBt : n₁ ≤ Bt) (hk : KeptO n₀ n₁ W W2) (hs : n₁ ≤ W2.heap.size) : VMid lr n₀ n₁ By Bv Bt l k x a A F c W0 W2 :=
  ⟨h.kept.trans hk, hs, hk _ _ _ _ h.yb (.inr ⟨hBy, by decide⟩), hk _ _ _ _ h.vb (.inr ⟨hBv, by decide⟩), hk _ _ _ _ h.tb (.inr ⟨hBt, by decide⟩), h.f.kept hk.low⟩
theorem VMid.start (hx : n₁ ≤ W.heap.size) (hy0 : W.heap[By]? = some (.cells #[.func (.yield lr) #[] #[]] 77 (0, 0))) (hv0 : W.heap[Bv]? = some (.cells #[.func (.func 41) #[] #[.pointer (some ⟨By, 0, none⟩), .pointer (some ⟨Bv, 0, none⟩)]] 78 (0, 0))) (hF : LiesB (· < n₀) W F A 0) :
    VMid lr n₀ n₁ By Bv W.heap.size l k x a A F c W (W.alloc (.cells #[.bool l, .int .u8 k, .string (bstr x), .int .i64 a, .slice A F.len c] 27)) :=
  ⟨(KeptO.refl _ _ W).alloc _, by rw [World.size_alloc]; omega, (Below.heap_alloc _ _ _ (lt_of_block hy0)).trans hy0, (Below.heap_alloc _ _ _ (lt_of_block hv0)).trans hv0, World.alloc_heap_new W _, hF.kept ((KeptB.refl _ W).alloc _)⟩
end

set_option maxHeartbeats 4000000 in
set_option maxRecDepth 100000 in
theorem visit_walk (lr n₀ n₁ N By Bv B0 : Nat) (J Jx : List Part → World → Prop) (hBy : n₁ ≤ By) (hBv : n₁ ≤ Bv) (hJ : AbidesFrom B0 J)
    (hY : ∀ m pre x W, J pre W → pre.length < N → YieldAt Fence.wide m Tryd.prog lr (encP x) W fun e W' =>
      (e = .returned (.bool true) ∧ J (pre ++ [x]) W' ∧ KeptO n₀ n₁ W W' ∧ W.heap.size ≤ W'.heap.size) ∨ (e = .returned (.bool false) ∧ Jx (pre ++ [x]) W'))
    (F : Forest) (ih : AllKids (VisitDoes lr n₀ n₁ N By Bv J Jx) F) : VisitDoes lr n₀ n₁ N By Bv J Jx F := by
  intro l k x a A c first d m pre W hx hn hc hfit hd hF hsz hy0 hv0 hJ0 hN
  have hdd : ∀ k : Nat, (Fence.wide.depth.isSome = true → 1 ≤ k) := fun k h => by cases h
  have hn9 : F.len ≤ 9223372036854775807 := Nat.le_trans hn hc
  obtain ⟨p0, hp0⟩ : ∃ p0 : Part, p0 = ⟨l, k, x, a, A, F.len, c, false, first, d, hx, ⟨hn, hc⟩, by omega⟩ := ⟨_, rfl⟩
  have hs0 : p0.s = ⟨l, k, x, a, F.len, false, first, d⟩ := by rw [hp0]; rfl
  have HS0 := Lib.hid hs0
  have hJ1 : J pre (W.alloc (.cells #[.bool l, .int .u8 k, .string (bstr x), .int .i64 a, .slice A F.len c] 27)) := hJ _ _ _ none hJ0 (World.grownBy_alloc W _ none) (fun r e => by cases e)
  have hM : VMid lr n₀ n₁ By Bv W.heap.size l k x a A F c W (W.alloc (.cells #[.bool l, .int .u8 k, .string (bstr x), .int .i64 a, .slice A F.len c] 27)) := VMid.start hsz hy0 hv0 hF
  have hsz1 : W.heap.size ≤ (W.alloc (.cells #[.bool l, .int .u8 k, .string (bstr x), .int .i64 a, .slice A F.len c] 27)).heap.size := by rw [World.size_alloc]; omega
  have hyld := hY (m - 1) pre p0 _ hJ1 (by simp [partsT] at hN; omega)
  have henc : encP p0 = #[.agg #[.bool l, .int .u8 k, .string (bstr x), .int .i64 a, .slice A F.len c, .bool false, .bool first, .int .i64 ((d : Nat) : Int)]] := by rw [hp0]; rfl
  rw [henc] at hyld
  obtain ⟨fn, tmps, assign, body, hy, hR⟩ := YieldAt.mono (R' := fun e W2 => (e = .returned (.bool true) ∧ J (pre ++ [p0]) W2 ∧ VMid lr n₀ n₁ By Bv W.heap.size l k x a A F c W W2 ∧ W2.cell? ⟨W.heap.size, 0, none⟩ = some (.bool l) ∧ W2.cell? ⟨W.heap.size, 4, none⟩ = some (.slice A F.len c)) ∨ (e = .returned (.bool false) ∧ Jx (pre ++ [p0]) W2)) hyld (fun e W2 h => h.elim (fun ⟨he, hj, hk, hs⟩ => .inl (by
      have hm2 := hM.step (W2 := W2) hBy hBv hsz hk (by omega)
      exact ⟨he, hj, hm2, hm2.t0, hm2.t4⟩)) .inr)
  have hy1 := hM.y
  have HFIT := Lib.hid hfit
  have HN := Lib.hid hN
  have HY := Lib.hid hY
  have HJ := Lib.hid hJ
  clear hyld henc hM hJ1 hJ0 hs0 hp0 hF hy0 hv0 hfit hN hY hJ hsz1
  refine callsIn_of_wp Tryd.func41 rfl trivial ?_ rfl
  simp only [Tryd.ntmps41, List.size_toArray, List.length_cons, List.length_nil, Nat.reduceAdd, Nat.reduceSub, Array.replicate_succ, Array.replicate_zero, List.push_toArray, List.append_toArray, List.nil_append, List.cons_append]
  cases l with
  | false =>
    gi_wp2_with ((try refine ⟨hdd _, ?_⟩); refine hR.mono ?_; clear hR; rintro e W2 (⟨rfl, hJ2, hm2, t0, t4⟩ | ⟨rfl, hx2⟩))
    · go_ret
      exact .inl ⟨rfl, [p0], by simp [partsT, HS0.out], hJ2, hm2.kept, hm2.size⟩
    · go_ret
      exact .inr ⟨rfl, [p0], by simp [partsT, HS0.out], hx2⟩
  | true =>
    gi_wp2_with ((try refine ⟨hdd _, ?_⟩); refine hR.mono ?_; clear hR; rintro e W2 (⟨rfl, hJ2, hm2, t0, t4⟩ | ⟨rfl, hx2⟩))
    · have hF2 := hm2.f
      have ih0 := ih
      clear ih hy hy1 t0 t4
      gi_loopw [24] (fun u wr => ∃ (i : Nat) (G : Forest) (xs : List Part), u = .int .i64 (i : Int) ∧ i + G.len = F.len ∧ LiesB (· < n₀) wr G A i ∧ AllKids (VisitDoes lr n₀ n₁ N By Bv J Jx) G ∧ FitsT G ∧ hgt G ≤ hgt F ∧ J (pre ++ [p0] ++ xs) wr ∧ xs.map Part.s ++ partsF G ((i : Int) == 0) (d + 1) = partsF F true (d + 1) ∧ VMid lr n₀ n₁ By Bv W.heap.size true k x a A F c W wr) (fun u _ => F.len - (intOf u).toNat)
      case atStart => exact ⟨0, F, [], rfl, Nat.zero_add _, hF2, ih0, HFIT.out, Nat.le_refl _, by simpa using hJ2, rfl, hm2⟩
      case round =>
        obtain ⟨i, G, xs, rfl, hlen, hG, hK, hfg, hhg, hJr, hxs, hmr⟩ := hrel
        have HXS := Lib.hid hxs
        have hl0 := congrArg List.length hxs
        have hl1 := HN.out
        simp only [List.length_append, List.length_map, partsT, List.length_cons, if_true] at hl0 hl1
        clear hxs
        cases G with
        | nil =>
          have hil : i = F.len := by simpa [Forest.len] using hlen
          subst hil
          have hlx : pre.length + 1 + xs.length < N := by simp [partsF] at hl0 hl1; omega
          clear hl0 hl1 hG hK hfg hhg hlen hJ2 ih0 hF2
          obtain ⟨p1, hp1⟩ : ∃ p1 : Part, p1 = ⟨true, k, x, a, A, F.len, c, true, false, d, hx, ⟨hn, hc⟩, by omega⟩ := ⟨_, rfl⟩
          have HS1 : Hid (p1.s = ⟨true, k, x, a, F.len, true, false, d⟩) := by show _ = _; rw [hp1]; rfl
          have hyld := HY.out (m - 1) (pre ++ [p0] ++ xs) p1 wr hJr (by simp; omega)
          have henc : encP p1 = #[.agg #[.bool true, .int .u8 k, .string (bstr x), .int .i64 a, .slice A F.len c, .bool true, .bool false, .int .i64 ((d : Nat) : Int)]] := by rw [hp1]; rfl
          rw [henc] at hyld
          obtain ⟨fn2, tmps2, assign2, body2, hy2, hR2⟩ := hyld
          have y0 := hmr.y
          have t0 := hmr.t0
          have t1 := hmr.t1
          have t2 := hmr.t2
          have t3 := hmr.t3
          have t4 := hmr.t4
          have HXS2 : Hid (xs.map Part.s = partsF F true (d + 1)) := by
            show _ = _
            have := HXS.out
            simpa [partsF] using this
          clear henc hp1 hJr HXS
          gi_wp2_with ((try refine ⟨hdd _, ?_⟩); refine hR2.mono ?_; clear hR2; rintro e W3 (⟨rfl, hJ3, hk3, hs3⟩ | ⟨rfl, hx3⟩))
          · go_ret
            refine .inl ⟨rfl, [p0] ++ xs ++ [p1], ?_, by simpa using hJ3, hmr.kept.trans hk3, Nat.le_trans hmr.size hs3⟩
            simp [partsT, HS0.out, HS1.out, HXS2.out]
          · go_ret
            refine .inr ⟨rfl, [p0] ++ xs ++ [p1], ?_, by simpa using hx3⟩
            simp [partsT, HS0.out, HS1.out, HXS2.out]
        | cons l' k' x' a' kids rest =>
          have hlt : i < F.len := by simp [Forest.len] at hlen; omega
          have hkb : KeptO n₀ n₁ wr (wr.alloc (.cells #[.bool l', .int .u8 k', .string (bstr x'), .int .i64 a', .slice none 0 0] 27)) := (KeptO.refl _ _ wr).alloc _
          clear hkb
          obtain ⟨⟨g, o, rfl, hg, h0, h1, h2, h3, A', c', h4, h5, h6, h7⟩, hr⟩ := hG
          obtain ⟨f1, f2, f3⟩ := hfg
          have hpt : partsF (.cons l' k' x' a' kids rest) ((i : Int) == 0) (d + 1) = partsT l' k' x' a' kids ((i : Int) == 0) (d + 1) ++ partsF rest false (d + 1) := rfl
          rw [hpt, List.length_append] at hl0
          obtain ⟨O, hO⟩ : ∃ O : Obj, O = .cells #[.bool l', .int .u8 k', .string (bstr x'), .int .i64 a', .slice A' kids.len c'] 27 := ⟨_, rfl⟩
          have hkO : KeptO n₀ n₁ wr (wr.alloc O) := (KeptO.refl _ _ wr).alloc _
          have hmO := hmr.step hBy hBv hsz hkO (by rw [World.size_alloc]; have := hmr.size; omega)
          have hJO : J (pre ++ [p0] ++ xs) (wr.alloc O) := HJ.out _ _ _ none hJr (World.grownBy_alloc wr _ none) (fun r e => by cases e)
          have hcall := hK.1 l' k' x' a' A' c' ((i : Int) == 0) (d + 1) (m - 1) (pre ++ [p0] ++ xs) (wr.alloc O) f1 h5 h6 f2 (by have : hgt kids + 1 ≤ hgt F := Nat.le_trans (Nat.le_max_left _ _) hhg; omega) (h7.kept (hkO.low)) hmO.size hmO.yb hmO.vb hJO (by simp; omega)
          simp only [Int.natCast_add, Int.natCast_one] at hcall
          have HCALL := Lib.hid hcall
          have HRO := Lib.hid (hr.kept (hkO.low))
          have HMO := Lib.hid hmO
          have HK2 := Lib.hid hK.2
          have HF3 := Lib.hid f3
          have HHG : Hid (hgt rest ≤ hgt F) := Nat.le_trans (Nat.le_max_right _ _) hhg
          have v0 := hmO.v
          have hO2 := hO
          clear hcall hkO hmO hJO hr hK f1 f2 f3 h7 hpt hl0 hl1 hJr hmr ih0 hF2 hJ2 hhg
          rw [hO] at v0
          gi_wp2_with (refine ⟨trivial, hdd _, ?_⟩; rw [← hO2]; refine HCALL.out.mono ?_; clear HCALL; rintro e W3 (⟨rfl, ys, hys, hJ3, hk3, hs3⟩ | ⟨rfl, q, hq, hx3⟩))
          · go_roundw
            case rel =>
              refine ⟨i + 1, rest, xs ++ ys, by go_num, by simp [Forest.len] at hlen; omega, HRO.out.kept (hk3.low), HK2.out, HF3.out, HHG.out, by simpa [List.append_assoc] using hJ3, ?_, HMO.out.step hBy hBv hsz hk3 hs3⟩
              have hf : ((((i + 1 : Nat) : Nat) : Int) == 0) = false := by simp; omega
              rw [hf, List.map_append, hys, List.append_assoc]
              exact HXS.out
            case measure => simp [intOf]; omega
          · go_ret
            refine .inr ⟨rfl, [p0] ++ xs ++ q, ?_, by simpa [List.append_assoc] using hx3⟩
            obtain ⟨r, hr⟩ := hq
            refine ⟨r ++ partsF rest false (d + 1) ++ [⟨true, k, x, a, F.len, true, false, d⟩], ?_⟩
            have hxs := HXS.out
            have hpt : partsF (.cons l' k' x' a' kids rest) ((i : Int) == 0) (d + 1) = partsT l' k' x' a' kids ((i : Int) == 0) (d + 1) ++ partsF rest false (d + 1) := rfl
            rw [hpt, ← hr] at hxs
            simp only [partsT, if_true, ← hxs]
            simp [HS0.out]
    · go_ret
      exact .inr ⟨rfl, [p0], by simp [partsT, HS0.out], hx2⟩
theorem visit_in (lr n₀ n₁ N By Bv B0 : Nat) (J Jx : List Part → World → Prop) (hBy : n₁ ≤ By) (hBv : n₁ ≤ Bv) (hJ : AbidesFrom B0 J)
    (hY : ∀ m pre x W, J pre W → pre.length < N → YieldAt Fence.wide m Tryd.prog lr (encP x) W fun e W' =>
      (e = .returned (.bool true) ∧ J (pre ++ [x]) W' ∧ KeptO n₀ n₁ W W' ∧ W.heap.size ≤ W'.heap.size) ∨ (e = .returned (.bool false) ∧ Jx (pre ++ [x]) W')) : ∀ F, VisitDoes lr n₀ n₁ N By Bv J Jx F :=
  kids_induct (visit_walk lr n₀ n₁ N By Bv B0 J Jx hBy hBv hJ hY)
end Go.Proofs.YtppbijbgnhmdaaaDoor

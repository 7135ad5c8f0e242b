/- The reference's write of a list. -/
import Derived.Test.YtppbijbgnhmdaaaDoorRefWrite
namespace Go.Proofs.YtppbijbgnhmdaaaDoor
open Go.RowKit Forest

section
variable {base : Nat} {w W W3 : World} {x : List UInt8} {a : Int} {A : Option Addr} {F : Forest} {c : Nat} {bs : List UInt8} {i : Nat} {t acc : List UInt8} {B : Option Addr} {d : Nat} {l' : Bool} {k' : Int} {x' : List UInt8} {a' : Int} {kids rest : Forest}
def blank (i : Nat) : List UInt8 := if i = 0 then [] else [32]
theorem WrRel.fails (h : WrRel base w x a A F c bs i (.cons l' k' x' a' kids rest) t acc B d W) (hs : wrT l' k' x' kids = none) : wrF F true = none := by
  rw [h.spec, wrF_cons, hs]; rfl
theorem WrRel.step (h : WrRel base w x a A F c bs i (.cons l' k' x' a' kids rest) t acc B d W) {s1 acc3 : List UInt8} (hs : wrT l' k' x' kids = some s1) (hacc : acc3 = acc ++ blank i ++ s1) {B3 : Option Addr} {d3 : Nat}
    (hown : W3.ownsRow base 5 1 (.slice B3 acc3.length d3) acc3.length (cellsOf acc3)) (hb : Below base W W3) (ho : Lib.OthersKept 5 none W W3) : WrRel base w x a A F c bs (i + 1) rest (t ++ blank i ++ s1) acc3 B3 d3 W3 := by
  obtain ⟨_, hr⟩ := h.lies
  refine ⟨h.at_.next hb ho, by have := h.len; simp [Forest.len] at this; omega, hr.kept fun j hj c t fr hc => (hb.block j hj).trans hc, h.kids.2, h.texts.2.2, by rw [hacc, h.hacc]; simp, hown, ?_, ?_, Nat.le_trans h.size hb.size⟩
  · rw [h.spec, wrF_cons, hs]
    have e1 : decide (i + 1 = 0) = false := by simp
    rw [e1]
    cases wrF rest false with
    | none => rfl
    | some r =>
      simp only [Option.map_some]
      by_cases h0 : i = 0
      · simp [h0, blank]
      · simp [h0, blank]
  · have h1 := h.few
    have h2 := wrT_len hs
    rw [hacc]
    have h3 : (blank i).length ≤ 1 := by unfold blank; split <;> simp
    simp only [List.length_append, wgt, wgtT] at h1 h2 ⊢
    omega
theorem WrRel.call (h : WrRel base w x a A F c bs i (.cons l' k' x' a' kids rest) t acc B d W) (hw : bs.length + wgtT x F ≤ 1099511627776) {A' : Option Addr} {c' : Nat} (h5 : kids.len ≤ c') (h6 : c' ≤ maxLen) (h7 : LiesB (· < base) W kids A' 0) {acc2 : List UInt8} (hacc : acc2 = acc ++ blank i) {B2 : Option Addr} {d2 : Nat} {W2 : World}
    (hown : W2.ownsRow base 5 1 (.slice B2 acc2.length d2) acc2.length (cellsOf acc2)) (hb : Below base W W2) :
    Calls Tryd.prog 31 #[.slice B2 acc2.length d2, .agg #[.bool l', .int .u8 k', .string (bstr x'), .int .i64 a', .slice A' kids.len c']] W2 (WritePost base acc2 (wrT l' k' x' kids) W2) := by
  refine h.kids.1 l' k' x' a' A' c' base acc2 B2 d2 W2 hown (Nat.le_trans h.size hb.size) (h7.kept fun j hj c t fr hc => (hb.block j hj).trans hc) h5 h6 h.texts.1 h.texts.2.1 ?_
  have h1 := h.few
  have h3 : (blank i).length ≤ 1 := by unfold blank; split <;> simp
  rw [hacc]
  simp only [List.length_append, wgt, wgtT] at h1 hw ⊢
  omega
end

set_option maxHeartbeats 8000000 in
set_option maxRecDepth 100000 in
theorem write_list (F : Forest) (ih : AllKids WriteDoes F) (k : Int) (x : List UInt8) (a : Int) (A : Option Addr) (c base : Nat) (bs : List UInt8) (B : Option Addr) (d : Nat) (w : World)
    (hown : w.ownsRow base 5 1 (.slice B bs.length d) bs.length (cellsOf bs)) (hbase : base ≤ w.heap.size) (hF : LiesB (· < base) w F A 0) (hn : F.len ≤ c) (hc : c ≤ maxLen) (htx : Texts F) (hw : bs.length + wgtT x F ≤ 1099511627776) :
    Calls Tryd.prog 31 #[.slice B bs.length d, .agg #[.bool true, .int .u8 k, .string (bstr x), .int .i64 a, .slice A F.len c]] w (WritePost base bs (wrT true k x F) w) := by
  have hn9 : F.len ≤ 9223372036854775807 := Nat.le_trans hn hc
  have HR : Hid (wrT true k x F = if k = 1 ∧ x = [40] then (wrF F true).map (fun s => 40 :: (s ++ [41])) else none) := rfl
  have hB : Hid (∀ o, Below w.heap.size w (w.alloc o)) := fun o => (Below.refl _ w).alloc (Nat.le_refl _) _
  by_cases hk : k = 1
  · subst hk
    by_cases hx : x = [40]
    · have HR2 : Hid (wrT true 1 x F = (wrF F true).map (fun s => 40 :: (s ++ [41]))) := by show _ = _; rw [HR.out, if_pos ⟨rfl, hx⟩]
      have f1 : ((bstr x).toList == [40]) = true := by rw [bstr_list', hx]; rfl
      have f2 : (bstr x).toList = [40] := by rw [bstr_list', hx]
      have hwat : WrAt base w x a A F c (w.alloc (.cells #[.bool true, .int .u8 1, .string (bstr x), .int .i64 a, .slice A F.len c] 27)) := ⟨(hB.out _).mono hbase, othk_below (hB.out _), heap_alloc_new w _⟩
      have hown0 := own_of_below hown (hB.out (.cells #[.bool true, .int .u8 1, .string (bstr x), .int .i64 a, .slice A F.len c] 27))
      have hF0 := hF.kept (kept_below (hB.out (.cells #[.bool true, .int .u8 1, .string (bstr x), .int .i64 a, .slice A F.len c] 27)))
      have hsz0 : base ≤ (w.alloc (.cells #[.bool true, .int .u8 1, .string (bstr x), .int .i64 a, .slice A F.len c] 27)).heap.size := by rw [World.size_alloc]; omega
      have hbl : bs.length + 1 ≤ 140737488355328 := by omega
      have HF1 := Lib.hid f1
      have HF2 := Lib.hid f2
      clear hx
      go_enter Tryd.func31, Tryd.ntmps31
      go_wp2_with (at_builtin; refine append_byte base rfl _ _ rfl B d bs 40 40 rfl hown0 rfl _ rfl (by simp) hsz0 hbl ?_; intro A1 c1 acc1 w1 hacc1 hown1 hg1; (have HACC := Lib.hid hacc1); clear hacc1)
      have hw1 := hwat.next (below_own hown0 hsz0 hg1) (othk_own hown0 hg1)
      have hF1 : LiesB (· < base) w1 F A 0 := hF0.kept fun i hi c t fr hc => ((below_own hown0 hsz0 hg1).block i hi).trans hc
      have hrel0 : WrRel base w x a A F c bs 0 F [] acc1 A1 c1 w1 := ⟨hw1, Nat.zero_add _, hF1, ih, htx, by rw [HACC.out], hown1, by simp, by rw [HACC.out]; simp only [wgtT, List.length_append, List.length_cons, List.length_nil]; omega, Nat.le_trans hsz0 hg1.size⟩
      have HRR := HR2
      clear hw1 hF1 hwat hown0 hF0 hsz0 hown1 hg1 HACC hown hF ih htx f1 f2
      go_loopw [0, 8] (fun v u wr => ∃ (i : Nat) (G : Forest) (t acc : List UInt8) (B' : Option Addr) (d' : Nat), v = .slice B' acc.length d' ∧ u = .int .i64 (i : Int) ∧ WrRel base w x a A F c bs i G t acc B' d' wr) (fun _ u _ => F.len - (intOf u).toNat)
      case atStart => exact ⟨0, F, [], acc1, A1, c1, rfl, rfl, hrel0⟩
      case round =>
        clear hrel0
        obtain ⟨i, G, t, acc, B', d', rfl, rfl, hrel⟩ := hrel
        have hlen := hrel.len
        have h4 : wr.cell? ⟨w.heap.size, 4, none⟩ = some (.slice A F.len c) := by rw [cell_of_row wr _ 4 _ _ _ hrel.at_.box]; rfl
        have HREL := Lib.hid hrel
        have hfew := hrel.few
        have hsz := hrel.size
        have hown9 := hrel.own
        cases G with
        | nil =>
          have hil : i = F.len := by simpa [Forest.len] using hlen
          subst hil
          have hsp := hrel.spec
          have HT : Hid (wrT true 1 x F = some (40 :: (t ++ [41]))) := by
            show _ = _
            rw [HRR.out, hsp]; simp [wrF]
          clear hrel hlen hsp
          have hwg : acc.length + 1 ≤ 140737488355328 := by omega
          go_wp2_with (at_builtin; refine append_byte base rfl _ _ rfl B' d' acc 41 41 rfl hown9 rfl _ rfl rfl hsz hwg ?_; intro A2 c2 acc2 w2 hacc2 hown2 hg2; (have HACC := Lib.hid hacc2); clear hacc2)
          go_ret2
          rw [HT.out]
          have hw2 := HREL.out.at_.next (below_own hown9 hsz hg2) (othk_own hown9 hg2)
          have hE : acc2 = bs ++ (40 :: (t ++ [41])) := by rw [HACC.out, HREL.out.hacc]; simp
          subst hE
          exact ⟨⟨A2, c2, rfl, hown2⟩, hw2.bel, hw2.oth⟩
        | cons l' k' x' a' kids rest =>
          have hlt : i < F.len := by simp [Forest.len] at hlen; omega
          obtain ⟨⟨g, o, rfl, hg, m0, m1, m2, m3, A', c', m4, h5, h6, h7⟩, _⟩ := hrel.lies
          have hi0 : (0 : Int) ≤ (i : Int) := Int.natCast_nonneg _
          have hi1 : (i : Int) < (F.len : Int) := by omega
          have HL := Lib.hid hlen
          by_cases h0 : i = 0
          · have HACC2 : Hid (acc = acc ++ blank i) := by show _ = _; simp [blank, h0]
            have HCALL := Lib.hid (hrel.call hw h5 h6 h7 HACC2.out hown9 (.refl _ _))
            have HBW : Hid (Below base wr wr ∧ Lib.OthersKept 5 none wr wr) := ⟨.refl _ _, .refl _ _ _⟩
            have d0 : decide ((0 : Int) < (i : Int)) = false := by simp; omega
            have d1 : decide (0 < i) = false := by simp; omega
            have H0 := Lib.hid h0
            clear hrel h7 hlen h0
            go_wp2_with fail
            refine HCALL.out.mono ?_
            clear HCALL
            rintro e w3 ⟨hres, hb3, ho3⟩
            have HB3 := Lib.hid (HBW.out.1.trans hb3)
            have HO3 := Lib.hid (HBW.out.2.trans ho3)
            cases hT : wrT l' k' x' kids with
            | none =>
              rw [hT] at hres
              obtain ⟨v', rfl⟩ := hres
              have HN : Hid (wrT true 1 x F = none) := by show _ = _; rw [HRR.out, HREL.out.fails hT]; rfl
              clear hb3 ho3 hT
              go_wp2
              go_ret2
              rw [HN.out]
              have hw3 := HREL.out.at_.next HB3.out HO3.out
              exact ⟨⟨_, rfl⟩, hw3.bel, hw3.oth⟩
            | some s1 =>
              rw [hT] at hres
              obtain ⟨A3, c3, rfl, hown3⟩ := hres
              obtain ⟨acc3, HA3⟩ : ∃ acc3, Hid (acc3 = acc ++ s1) := ⟨_, rfl⟩
              rw [← HA3.out] at hown3 ⊢
              have HN := Lib.hid (HREL.out.step hT (by rw [HA3.out]; unfold blank; rw [if_pos H0.out]; simp) hown3 HB3.out HO3.out)
              clear hb3 ho3 hT hown3
              go_wp2
              go_round
              case rel => exact ⟨i + 1, rest, _, acc3, A3, c3, rfl, by go_num, HN.out⟩
              case measure => simp [intOf]; omega
          · have d0 : decide ((0 : Int) < (i : Int)) = true := by simp; omega
            have d1 : decide (0 < i) = true := by simp; omega
            have d2 : 0 < i := by omega
            have H0 := Lib.hid h0
            have H7 := Lib.hid h7
            have hwg : acc.length + 1 ≤ 140737488355328 := by omega
            have HCM : Hid (∀ w2, Below base wr w2 → ∀ u j, wr.cell? ⟨g, j, none⟩ = some u → w2.cell? ⟨g, j, none⟩ = some u) := fun w2 hb u j hc => (hb.cell (p := ⟨g, j, none⟩) hg).trans hc
            clear hrel h7 hlen h0
            go_wp2_with (at_builtin; refine append_byte base rfl _ _ rfl B' d' acc 32 32 rfl hown9 rfl _ rfl rfl hsz hwg ?_; intro A2 c2 acc2 w2 hacc2 hown2 hg2; (have HACC := Lib.hid hacc2); clear hacc2; (have hw2 := HREL.out.at_.next (below_own hown9 hsz hg2) (othk_own hown9 hg2)); (have h42 : w2.cell? ⟨w.heap.size, 4, none⟩ = some (.slice (some ⟨g, o, none⟩) F.len c) := by rw [cell_of_row w2 _ 4 _ _ _ hw2.box]; rfl); (have n0 := HCM.out w2 (below_own hown9 hsz hg2) _ _ m0); (have n1 := HCM.out w2 (below_own hown9 hsz hg2) _ _ m1); (have n2 := HCM.out w2 (below_own hown9 hsz hg2) _ _ m2); (have n3 := HCM.out w2 (below_own hown9 hsz hg2) _ _ m3); (have n4 := HCM.out w2 (below_own hown9 hsz hg2) _ _ m4); (have HBW : Hid (Below base wr w2 ∧ Lib.OthersKept 5 none wr w2) := ⟨below_own hown9 hsz hg2, othk_own hown9 hg2⟩); clear hw2 hg2)
            have HACC2 : Hid (acc2 = acc ++ blank i) := by show _ = _; rw [HACC.out]; unfold blank; rw [if_neg H0.out]
            have HCALL := Lib.hid (HREL.out.call hw h5 h6 H7.out HACC2.out hown2 HBW.out.1)
            refine HCALL.out.mono ?_
            clear HCALL
            rintro e w3 ⟨hres, hb3, ho3⟩
            have HB3 := Lib.hid (HBW.out.1.trans hb3)
            have HO3 := Lib.hid (HBW.out.2.trans ho3)
            cases hT : wrT l' k' x' kids with
            | none =>
              rw [hT] at hres
              obtain ⟨v', rfl⟩ := hres
              have HN : Hid (wrT true 1 x F = none) := by show _ = _; rw [HRR.out, HREL.out.fails hT]; rfl
              clear hb3 ho3 hT
              go_wp2
              go_ret2
              rw [HN.out]
              have hw3 := HREL.out.at_.next HB3.out HO3.out
              exact ⟨⟨_, rfl⟩, hw3.bel, hw3.oth⟩
            | some s1 =>
              rw [hT] at hres
              obtain ⟨A3, c3, rfl, hown3⟩ := hres
              obtain ⟨acc3, HA3⟩ : ∃ acc3, Hid (acc3 = acc2 ++ s1) := ⟨_, rfl⟩
              rw [← HA3.out] at hown3 ⊢
              have HN := Lib.hid (HREL.out.step hT (by rw [HA3.out, HACC2.out]) hown3 HB3.out HO3.out)
              clear hb3 ho3 hT hown3
              go_wp2
              go_round
              case rel => exact ⟨i + 1, rest, _, acc3, A3, c3, rfl, by go_num, HN.out⟩
              case measure => simp [intOf]; omega
    · have HR2 : Hid (wrT true 1 x F = none) := by show _ = _; rw [HR.out, if_neg (fun h => hx h.2)]
      have f1 : ((bstr x).toList == [40]) = false := by rw [bstr_list']; simpa using hx
      have f2 : ¬ (bstr x).toList = [40] := by rw [bstr_list']; exact hx
      clear hx
      go_enter Tryd.func31, Tryd.ntmps31
      go_wp2
      go_ret2
      rw [HR2.out]
      exact ⟨⟨_, rfl⟩, (hB.out _).mono hbase, othk_below (hB.out _)⟩
  · have HR2 : Hid (wrT true k x F = none) := by show _ = _; rw [HR.out, if_neg (fun h => hk h.1)]
    have e1 : (k != 1) = true := by simpa using hk
    clear hk
    go_enter Tryd.func31, Tryd.ntmps31
    go_wp2
    go_ret2
    rw [HR2.out]
    exact ⟨⟨_, rfl⟩, (hB.out _).mono hbase, othk_below (hB.out _)⟩
theorem write_calls : ∀ F, WriteDoes F := kids_induct fun F ih => by
  intro l k x a A c base bs B d w hown hbase hF hn hc hx htx hw
  cases l with
  | false => exact write_leaf F k x a A c base bs B d w hown hbase hn hc hx hw
  | true => exact write_list F ih k x a A c base bs B d w hown hbase hF hn hc htx hw
end Go.Proofs.YtppbijbgnhmdaaaDoor

/- The reference's Depth and Text. -/
namespace Go.Proofs.YtppbijbgnhmdaaaDoor
open Go.RowKit Forest

theorem rdepth_calls (F : Forest) (l : Bool) (k : Int) (x : List UInt8) (a : Int) (A : Option Addr) (c : Nat) (w : World) (hF : Lies w F A 0) (hn : F.len ≤ c) (hc : c ≤ maxLen) :
    Calls Tryd.prog 14 #[.agg #[.bool l, .int .u8 k, .string (bstr x), .int .i64 a, .slice A F.len c]] w fun e w' => e = .returned (.int .i64 ((depT l 0 F : Nat) : Int)) ∧ Below w.heap.size w w' := by
  have hd := fun W hb => depth_calls F l k x a A c 0 W (hF.below hb) hn hc (by omega)
  have hB := (Below.refl w.heap.size w).alloc (Nat.le_refl _) (.cells #[.bool l, .int .u8 k, .string (bstr x), .int .i64 a, .slice A F.len c] 27)
  have HD := Lib.hid (hd _ hB)
  have HB := Lib.hid hB
  clear hd hB
  go_enter Tryd.func14, Tryd.ntmps14
  go_wp2_with fail
  refine HD.out.mono ?_
  rintro e w2 ⟨rfl, hb2⟩
  go_wp2
  go_ret
  exact ⟨rfl, bel_trans HB.out hb2⟩

set_option maxHeartbeats 4000000 in
set_option maxRecDepth 100000 in
theorem rtext_calls (F : Forest) (l : Bool) (k : Int) (x : List UInt8) (a : Int) (A : Option Addr) (c : Nat) (w : World) (hF : Lies w F A 0) (hn : F.len ≤ c) (hc : c ≤ maxLen) (hx : x.length ≤ 100000) (htx : Texts F) (hw : wgtT x F ≤ 1000000000000) :
    Calls Tryd.prog 12 #[.agg #[.bool l, .int .u8 k, .string (bstr x), .int .i64 a, .slice A F.len c]] w fun e w' =>
      e = .returned (.tuple #[.string (bstr (textS l k x F (decide (200 < depT l 0 F))).1), .int .i64 (textS l k x F (decide (200 < depT l 0 F))).2]) ∧ Below w.heap.size w w' := by
  obtain ⟨W0, hW0⟩ : ∃ W0, W0 = w.alloc (.cells #[.bool l, .int .u8 k, .string (bstr x), .int .i64 a, .slice A F.len c] 27) := ⟨_, rfl⟩
  have hB0 : Below w.heap.size w W0 := by rw [hW0]; exact (Below.refl _ w).alloc (Nat.le_refl _) _
  have hz0 : W0.heap.size = w.heap.size + 1 := by rw [hW0, World.size_alloc]
  have hbx : W0.heap[w.heap.size]? = some (.cells #[.bool l, .int .u8 k, .string (bstr x), .int .i64 a, .slice A F.len c] 27 (0, 0)) := by rw [hW0]; exact heap_alloc_new w _
  have hFB : LiesB (· < W0.heap.size) W0 F A 0 := (hF.below hB0).old
  have hwr := write_calls F l k x a A c W0.heap.size [] none 0 W0 (World.ownsRow_nil _ _ _ _) (Nat.le_refl _) hFB hn hc hx htx (by simp; omega)
  have hdp : ∀ W, Below w.heap.size w W → _ := fun W hb => rdepth_calls F l k x a A c W (hF.below hb) hn hc
  have HDP := Lib.hid hdp
  have HW := Lib.hid hwr
  have HBX := Lib.hid hbx
  have HB0 := Lib.hid hB0
  have HW0 := Lib.hid hW0
  have hsz0 : w.heap.size ≤ W0.heap.size := by omega
  have HS : Hid (textS l k x F (decide (200 < depT l 0 F)) = match wrT l k x F with | none => ([], 5) | some s => if decide (200 < depT l 0 F) then ([], 40) else if 1048576 < s.length then ([], 3) else (s, 0)) := rfl
  have HLEN : Hid (∀ s, wrT l k x F = some s → s.length ≤ 1000000000000) := fun s h => Nat.le_trans (wrT_len h) hw
  clear hwr hdp hFB hbx hB0 hz0 hW0
  go_enter Tryd.func12, Tryd.ntmps12
  go_wp2_with fail
  rw [← HW0.out]
  refine HW.out.mono ?_
  clear HW
  rintro e w1 ⟨hres, hb1, ho1⟩
  have hbx1 := ho1 _ _ HBX.out (by simp) (fun _ _ e => by cases e)
  have HB1 : Hid (Below w.heap.size w w1) := HB0.out.trans (hb1.mono hsz0)
  have cq : ∀ j u, (#[.bool l, .int .u8 k, .string (bstr x), .int .i64 a, .slice A F.len c] : Array Value)[j]? = some u → w1.cell? ⟨w.heap.size, j, none⟩ = some u := fun j u hj => by
    rw [cell_of_row w1 w.heap.size j _ _ _ hbx1]; exact hj
  have c0 := cq 0 _ rfl
  have c1 := cq 1 _ rfl
  have c2 := cq 2 _ rfl
  have c3 := cq 3 _ rfl
  have c4 := cq 4 _ rfl
  clear cq hbx1 ho1 hb1
  cases hT : wrT l k x F with
  | none =>
    rw [hT] at hres
    obtain ⟨v', rfl⟩ := hres
    have HN : Hid (textS l k x F (decide (200 < depT l 0 F)) = ([], 5)) := by show _ = _; rw [HS.out, hT]
    clear hT
    go_wp2
    go_ret2
    rw [HN.out]
    exact ⟨rfl, HB1.out⟩
  | some s =>
    rw [hT] at hres
    obtain ⟨A3, c3', rfl, hown3⟩ := hres
    rw [List.nil_append] at hown3 ⊢
    have hlen := HLEN.out s hT
    have HOWN := Lib.hid hown3
    have hdp1 := HDP.out w1 HB1.out
    have HT := Lib.hid hT
    clear hT hown3
    go_wp2_with fail
    refine hdp1.mono ?_
    clear hdp1
    rintro e w2 ⟨rfl, hb2⟩
    have HB2 : Hid (Below w.heap.size w w2) := bel_trans HB1.out hb2
    have hown2 := own_of_below HOWN.out hb2
    clear hb2
    by_cases hd : 200 < depT l 0 F
    · have HN : Hid (textS l k x F (decide (200 < depT l 0 F)) = ([], 40)) := by show _ = _; rw [HS.out, HT.out]; simp [hd]
      have d1 : decide ((200 : Int) < ((depT l 0 F : Nat) : Int)) = true := by simp; omega
      go_wp2
      go_ret2
      rw [HN.out]
      exact ⟨rfl, HB2.out⟩
    · have d1 : decide ((200 : Int) < ((depT l 0 F : Nat) : Int)) = false := by simp; omega
      by_cases hm : 1048576 < s.length
      · have HN : Hid (textS l k x F (decide (200 < depT l 0 F)) = ([], 3)) := by show _ = _; rw [HS.out, HT.out]; simp [hd, hm]
        have d2 : decide ((1048576 : Int) < (s.length : Int)) = true := by simp; omega
        clear hd
        go_wp2
        go_ret2
        rw [HN.out]
        exact ⟨rfl, HB2.out⟩
      · have HN : Hid (textS l k x F (decide (200 < depT l 0 F)) = (s, 0)) := by show _ = _; rw [HS.out, HT.out]; simp [hd, hm]
        have d2 : decide ((1048576 : Int) < (s.length : Int)) = false := by simp; omega
        have hcv := conv_own w2 _ _ _ s hown2
        clear hd hm hown2
        go_wp2
        go_ret2
        rw [HN.out]
        exact ⟨rfl, HB2.out⟩
end Go.Proofs.YtppbijbgnhmdaaaDoor


/- What the reader takes between two marks. -/
import Derived.Test.YtppbijbgnhmdaaaDoorLexSpec

namespace Go.Proofs.YtppbijbgnhmdaaaDoor
open Go.RowKit

structure QRel (w : World) (g : Nat) (A : Option Addr) (cap p : Nat) (bs : List UInt8) (m : UInt8) (v : Value) (wr : World) (q : Nat) (acc : List UInt8) : Prop where
  hp : p < q
  hq : q ≤ bs.length
  rd : Rdr wr g A bs.length cap q
  gr : w.grownBy wr (some g)
  own : wr.ownsRow w.heap.size 5 1 v acc.length (cellsOf acc)
  hacc : acc.length ≤ q
  spec : qscan m (bs.drop (p + 1)) = (qscan m (bs.drop q)).pre acc (q - (p + 1))

theorem grown_set {w wr : World} {g : Nat} (h : w.grownBy wr (some g)) (o : Nat) (u : Value) : w.grownBy (wr.setCell ⟨g, o, none⟩ u) (some g) :=
  ⟨h.os, h.tape, h.output, by simpa [World.setCell] using h.size, fun i hi hne => (Below.heap_setCell _ _ _ i (fun e => hne (by rw [e]))).trans (h.block i hi hne)⟩
theorem grown_own {w W w1 : World} {g base : Nat} {e : TypeId} {size n : Nat} {v : Value} {xs : List Value} (hown : W.ownsRow base e size v n xs) (hb : w.heap.size ≤ base) (h : w.grownBy W (some g)) (h1 : W.grownBy w1 v.ownBlock) : w.grownBy w1 (some g) :=
  ⟨h1.os.trans h.os, h1.tape.trans h.tape, h1.output.trans h.output, Nat.le_trans h.size h1.size, fun i hi hne => (h1.block i (Nat.lt_of_lt_of_le hi h.size) (fun e => by have := (hown.lt i e.symm).1; omega)).trans (h.block i hi hne)⟩
theorem Rdr.own {W w1 : World} {g : Nat} {A : Option Addr} {n cap q base : Nat} {e : TypeId} {size k : Nat} {v : Value} {xs : List Value} (h : Rdr W g A n cap q) (hown : W.ownsRow base e size v k xs) (hb : g < base) (h1 : W.grownBy w1 v.ownBlock) : Rdr w1 g A n cap q :=
  h.kept (h1.block g h.lt (fun e => by have := (hown.lt g e.symm).1; omega))
theorem QRel.push {w : World} {g : Nat} {A : Option Addr} {cap p : Nat} {bs : List UInt8} {m : UInt8} {v : Value} {wr : World} {q : Nat} {acc : List UInt8} (h : QRel w g A cap p bs m v wr q acc) {v1 : Value} {w1 : World} {q1 : Nat} (c : UInt8) (k : Nat) (hk : 0 < k) (hq1 : q1 = q + k) (hql : q1 ≤ bs.length)
    (hs : qscan m (bs.drop q) = (qscan m (bs.drop q1)).pre [c] k) (hown : w1.ownsRow w.heap.size 5 1 v1 (acc.length + 1) (cellsOf acc ++ (#[Value.int .u8 (bi c)] : Array Value).toList)) (hrd : Rdr w1 g A bs.length cap q1) (hgr : w.grownBy w1 (some g)) :
    QRel w g A cap p bs m v1 w1 q1 (acc ++ [c]) := by
  subst hq1
  refine ⟨by have := h.hp; omega, hql, hrd, hgr, ?_, by have := h.hacc; simp; omega, ?_⟩
  · have e1 : (acc ++ [c]).length = acc.length + 1 := by simp
    have e2 : cellsOf (acc ++ [c]) = cellsOf acc ++ (#[Value.int .u8 (bi c)] : Array Value).toList := by simp [cellsOf]
    rw [e1, e2]; exact hown
  · rw [h.spec, hs, QRes.pre_pre]
    have : q - (p + 1) + k = q + k - (p + 1) := by have := h.hp; omega
    rw [this]

/-- What quoted hands back. -/
def QPost (w : World) (g : Nat) (A : Option Addr) (cap p : Nat) (bs : List UInt8) (r : QRes) (e : Ending) (w' : World) : Prop :=
  w.grownBy w' (some g) ∧ match r with
    | .ok t n => e = .returned (.tuple #[.string (bstr t), .int .i64 0]) ∧ p + 1 + n ≤ bs.length ∧ Rdr w' g A bs.length cap (p + 1 + n)
    | .err c => e = .returned (.tuple #[.string ⟨#[]⟩, .int .i64 c]) ∧ ∃ q, q ≤ bs.length ∧ Rdr w' g A bs.length cap q

theorem QRel.fin {w : World} {g : Nat} {A : Option Addr} {cap p : Nat} {bs : List UInt8} {m : UInt8} {v : Value} {wr : World} {q : Nat} {acc : List UInt8} (h : QRel w g A cap p bs m v wr q acc)
    (hs : qscan m (bs.drop (p + 1)) = QRes.pre acc (q - (p + 1)) (.ok [] 1)) (hq : q < bs.length) (k : Nat) :
    QPost w g A cap p bs (qscan m (bs.drop (p + 1))) (.returned (.tuple #[.string (bstr acc), .int .i64 0])) ((wr.drewN k).setCell ⟨g, 257, none⟩ (.int .i64 ((q : Int) + 1))) := by
  rw [hs]
  have hp := h.hp
  have e : p + 1 + (q - (p + 1) + 1) = q + 1 := by omega
  refine ⟨grown_set (grownBy_drewN h.gr _) _ _, by simp, by omega, ?_⟩
  have := (h.rd.drewN k).set1
  rw [e]; exact this
theorem QRel.bad {w : World} {g : Nat} {A : Option Addr} {cap p : Nat} {bs : List UInt8} {m : UInt8} {v : Value} {wr : World} {q : Nat} {acc : List UInt8} (h : QRel w g A cap p bs m v wr q acc)
    (c : Int) (hs : qscan m (bs.drop (p + 1)) = QRes.pre acc (q - (p + 1)) (.err c)) (k : Nat) :
    QPost w g A cap p bs (qscan m (bs.drop (p + 1))) (.returned (.tuple #[.string ⟨#[]⟩, .int .i64 c])) (wr.drewN k) := by
  rw [hs]
  exact ⟨grownBy_drewN h.gr _, rfl, q, h.hq, h.rd.drewN k⟩

theorem info_byte : (Tryd.prog.info? 5).map (fun i => (i.zero, i.size, i.bytes)) = some (some (.int .u8 0), 1, 1) := by kernel_rfl

set_option maxHeartbeats 4000000 in
set_option maxRecDepth 100000 in
theorem quoted_calls (g : Nat) (A : Option Addr) (cap p : Nat) (bs : List UInt8) (w : World) (hr : Rdr w g A bs.length cap p) (hb : Bys w A bs) (hg : ∀ ad, A = some ad → ad.block ≠ g ∧ ad.block < w.heap.size) (hp : p < bs.length) (hl : bs.length ≤ 1048576) :
    Calls Tryd.prog 66 #[.pointer (some ⟨g, 0, none⟩)] w fun e w' => QPost w g A cap p bs (qscan bs[p] (bs.drop (p + 1))) e w' := by
  have h1 := hr.at_
  have h2 := hr.b
  have h5 := hr.free 257
  have hgw := hr.lt
  obtain ⟨ad, rfl, hc⟩ := hb.out p hp
  generalize bs[p] = m at hc ⊢
  have hrm := bi_range m
  go_enter Tryd.func66, Tryd.ntmps66
  go_wp2
  go_quiet (fail)
  go_wp2
  clear h1 h2 h5 hc
  go_loopg [5] (bs.length - (p + 1)) (fun k v wr => ∃ q acc, k = bs.length - q ∧ QRel w g (some ad) cap p bs m v wr q acc)
  case atStart =>
    refine ⟨p + 1, [], rfl, Nat.lt_succ_self _, hp, ?_, ?_, World.ownsRow_nil _ _ _ _, Nat.zero_le _, ?_⟩
    · have := (hr.drewN nq).set (p + 1)
      simpa using this
    · exact ⟨rfl, rfl, rfl, by simp [World.setCell], fun i hi hne => Below.heap_setCell _ _ _ i (fun e => hne (by rw [e]))⟩
    · rw [Nat.sub_self, QRes.pre_nil]
  case round =>
    obtain ⟨q, acc, hk, hrel⟩ := hrel
    have HK := Lib.hid hk
    clear hk
    have hq := hrel.hq
    have hpq := hrel.hp
    have h1 := hrel.rd.at_
    have h2 := hrel.rd.b
    have h5 := hrel.rd.free 257
    have hb1 : Bys wr (some ad) bs := hb.kept hrel.gr hg
    by_cases hlt : q < bs.length
    · obtain ⟨ad', e, hc⟩ := hb1.out q hlt
      cases e
      by_cases e1 : bi bs[q] = bi m
      · by_cases hpair : bi m = 34 ∧ ∃ h2 : q + 1 < bs.length, bi bs[q + 1] = bi m
        · obtain ⟨e2, hlt2, e3⟩ := hpair
          obtain ⟨ad', e, hc2⟩ := hb1.out (q + 1) hlt2
          cases e
          rw [add_succ] at hc2
          have HS := Lib.hid (qscan_pair m bs q hlt hlt2 e1 e2 e3)
          have f1 : (bi bs[q] == bi m) = true := by simpa using e1
          have f2 : (bi m == 34) = true := by simpa using e2
          have f3 : (bi bs[q + 1] == bi m) = true := by simpa using e3
          clear e1 e2 e3
          generalize bs[q + 1] = d at hc2 f3 HS
          generalize bs[q] = c at hc f1 HS
          have hd : decide (((q : Int) + 1) < (bs.length : Int)) = true := by simp; omega
          go_wp2
          go_quiet (fail)
          go_wp2
          go_quiet (fail)
          go_wp2
          have s1 : IntKind.i64.wrap ((q : Int) + 1) = (q : Int) + 1 := IntWalk.i64_in _ (by omega)
          have s2 : 0 ≤ (q : Int) + 1 := by omega
          have s3 : ((q : Int) + 1).toNat = q + 1 := by omega
          have s4 : (q : Int) + 1 < (bs.length : Int) := by omega
          go_quiet (fail)
          clear s1 s2 s3 s4
          go_wp2_with (at_builtin; refine append_one w.heap.size rfl _ _ 43 5 (.int .u8 0) 1 1 rfl Tryd.underlying43 info_byte rfl (by omega) (by omega) _ acc.length (cellsOf acc) #[.int .u8 (bi c)] rfl (by rfl) wr.heap.size (by rfl) (by simp) (by simp; rfl) (ownsRow_setCell_below (own_drewN hrel.own _) hgw _) (by simpa [World.setCell] using hrel.gr.size) (by have := hrel.hacc; omega) ?_; intro v1 w1 hown1 hg1 hat1 hnil1; have rd1 := Rdr.own ((hrel.rd.drewN _).set1) (ownsRow_setCell_below (own_drewN hrel.own _) hgw _) hgw hg1; have h1' := rd1.at_; have h5' := rd1.free 257)
          go_roundg (bs.length - (q + 1 + 1))
          case measure => have := HK.out; omega
          case rel =>
            have hgr1 := grown_own (ownsRow_setCell_below (own_drewN hrel.own _) hgw _) (Nat.le_refl _) (grown_set (grownBy_drewN hrel.gr _) _ _) hg1
            exact ⟨q + 1 + 1, _, rfl, hrel.push c 2 (by omega) rfl hlt2 HS.out (ownsRow_setCell_below hown1 hgw _) rd1.set1 (grown_set hgr1 _ _)⟩
        · have HS := Lib.hid (hrel.spec.trans (congrArg (fun r => QRes.pre acc (q - (p + 1)) r) (qscan_close m bs q hlt e1 hpair)))
          have hcv := fun k u => conv_own ((wr.drewN k).setCell ⟨g, 257, none⟩ u) w.heap.size acc.length _ acc (ownsRow_setCell_below (own_drewN hrel.own _) hgw _)
          have f1 : (bi bs[q] == bi m) = true := by simpa using e1
          by_cases e2 : bi m = 34
          · have f2 : (bi m == 34) = true := by simpa using e2
            by_cases hlt2 : q + 1 < bs.length
            · have e3 : ¬ bi bs[q + 1] = bi m := fun e3 => hpair ⟨e2, hlt2, e3⟩
              obtain ⟨ad', e, hc2⟩ := hb1.out (q + 1) hlt2
              cases e
              rw [add_succ] at hc2
              have f3 : (bi bs[q + 1] == bi m) = false := by simpa using e3
              clear e1 e2 e3 hpair
              generalize bs[q + 1] = d at hc2 f3
              generalize bs[q] = c at hc f1
              have hd : decide (((q : Int) + 1) < (bs.length : Int)) = true := by simp; omega
              go_wp2
              go_quiet (fail)
              go_wp2
              go_quiet (fail)
              go_wp2
              have s1 : IntKind.i64.wrap ((q : Int) + 1) = (q : Int) + 1 := IntWalk.i64_in _ (by omega)
              have s2 : 0 ≤ (q : Int) + 1 := by omega
              have s3 : ((q : Int) + 1).toNat = q + 1 := by omega
              have s4 : (q : Int) + 1 < (bs.length : Int) := by omega
              go_quiet (fail)
              clear s1 s2 s3 s4
              go_wp2
              go_ret2
              exact hrel.fin HS.out hlt _
            · clear e1 e2 hpair
              generalize bs[q] = c at hc f1
              have hd : decide (((q : Int) + 1) < (bs.length : Int)) = false := by simp; omega
              go_wp2
              go_quiet (fail)
              go_wp2
              go_quiet (fail)
              go_wp2
              have s1 : IntKind.i64.wrap ((q : Int) + 1) = (q : Int) + 1 := IntWalk.i64_in _ (by omega)
              go_quiet (fail)
              clear s1
              go_wp2
              go_ret2
              exact hrel.fin HS.out hlt _
          · have f2 : (bi m == 34) = false := by simpa using e2
            clear e1 e2 hpair
            generalize bs[q] = c at hc f1
            go_wp2
            go_quiet (fail)
            go_wp2
            go_quiet (fail)
            go_wp2
            go_quiet (fail)
            go_wp2
            go_ret2
            exact hrel.fin HS.out hlt _
      · have h3 := hrel.rd.tab bs[q]
        have f1 : (bi bs[q] == bi m) = false := by simpa using e1
        have hrc := bi_range bs[q]
        cases hin : isInner bs[q] with
        | false =>
          have HS := Lib.hid (hrel.spec.trans (congrArg (fun r => QRes.pre acc (q - (p + 1)) r) (qscan_bad m bs q hlt e1 (by simp [badIn, hin]))))
          have f2 : (bits BinOp.and IntKind.u8 ((cl bs[q].toNat : Nat) : Int) 8 == 0) = true := by
            unfold isInner at hin
            simpa using hin
          clear e1 hin
          generalize bs[q] = c at hc f1 f2 h3 hrc
          go_wp2
          go_quiet (fail)
          go_wp2
          go_quiet (fail)
          go_wp2
          go_quiet (fail)
          go_wp2
          go_ret2
          exact hrel.bad _ HS.out _
        | true =>
          have f2 : (bits BinOp.and IntKind.u8 ((cl bs[q].toNat : Nat) : Int) 8 == 0) = false := by
            unfold isInner at hin
            simpa using hin
          by_cases e4 : bi m = 124
          · have f4 : (bi m == 124) = true := by simpa using e4
            by_cases e5 : bi bs[q] = 92
            · have HS := Lib.hid (hrel.spec.trans (congrArg (fun r => QRes.pre acc (q - (p + 1)) r) (qscan_bad m bs q hlt e1 (by simp [badIn, e4, e5]))))
              have f5 : (bi bs[q] == 92) = true := by simpa using e5
              clear e1 hin e4 e5
              generalize bs[q] = c at hc f1 f2 h3 hrc f5
              go_wp2
              go_quiet (fail)
              go_wp2
              go_quiet (fail)
              go_wp2
              go_quiet (fail)
              go_wp2
              go_ret2
              exact hrel.bad _ HS.out _
            · have HS := Lib.hid (qscan_go m bs q hlt e1 (by simp [badIn, hin, e5]))
              have f5 : (bi bs[q] == 92) = false := by simpa using e5
              clear e1 hin e4 e5
              generalize bs[q] = c at hc f1 f2 h3 hrc f5 HS
              go_wp2
              go_quiet (fail)
              go_wp2
              go_quiet (fail)
              go_wp2
              go_quiet (fail)
              go_wp2_with (at_builtin; refine append_one w.heap.size rfl _ _ 43 5 (.int .u8 0) 1 1 rfl Tryd.underlying43 info_byte rfl (by omega) (by omega) _ acc.length (cellsOf acc) #[.int .u8 (bi c)] rfl (by rfl) wr.heap.size (by rfl) (by simp) (by simp; rfl) (own_drewN hrel.own _) (by simpa using hrel.gr.size) (by have := hrel.hacc; omega) ?_; intro v1 w1 hown1 hg1 hat1 hnil1; have rd1 := Rdr.own (hrel.rd.drewN _) (own_drewN hrel.own _) hgw hg1; have h1' := rd1.at_; have h5' := rd1.free 257)
              go_roundg (bs.length - (q + 1))
              case measure => have := HK.out; omega
              case rel =>
                have hgr1 := grown_own (own_drewN hrel.own _) (Nat.le_refl _) (grownBy_drewN hrel.gr _) hg1
                exact ⟨q + 1, _, rfl, hrel.push c 1 (by omega) rfl hlt HS.out (ownsRow_setCell_below hown1 hgw _) rd1.set1 (grown_set hgr1 _ _)⟩
          · have HS := Lib.hid (qscan_go m bs q hlt e1 (by simp [badIn, hin, e4]))
            have f4 : (bi m == 124) = false := by simpa using e4
            clear e1 hin e4
            generalize bs[q] = c at hc f1 f2 h3 hrc HS
            go_wp2
            go_quiet (fail)
            go_wp2
            go_quiet (fail)
            go_wp2
            go_quiet (fail)
            go_wp2_with (at_builtin; refine append_one w.heap.size rfl _ _ 43 5 (.int .u8 0) 1 1 rfl Tryd.underlying43 info_byte rfl (by omega) (by omega) _ acc.length (cellsOf acc) #[.int .u8 (bi c)] rfl (by rfl) wr.heap.size (by rfl) (by simp) (by simp; rfl) (own_drewN hrel.own _) (by simpa using hrel.gr.size) (by have := hrel.hacc; omega) ?_; intro v1 w1 hown1 hg1 hat1 hnil1; have rd1 := Rdr.own (hrel.rd.drewN _) (own_drewN hrel.own _) hgw hg1; have h1' := rd1.at_; have h5' := rd1.free 257)
            go_roundg (bs.length - (q + 1))
            case measure => have := HK.out; omega
            case rel =>
              have hgr1 := grown_own (own_drewN hrel.own _) (Nat.le_refl _) (grownBy_drewN hrel.gr _) hg1
              exact ⟨q + 1, _, rfl, hrel.push c 1 (by omega) rfl hlt HS.out (ownsRow_setCell_below hown1 hgw _) rd1.set1 (grown_set hgr1 _ _)⟩
    · obtain rfl : q = bs.length := by omega
      have HS := Lib.hid (hrel.spec.trans (congrArg (fun r => QRes.pre acc (bs.length - (p + 1)) r) (qscan_end m bs)))
      go_wp2
      go_quiet (fail)
      go_wp2
      go_ret2
      exact hrel.bad _ HS.out _
end Go.Proofs.YtppbijbgnhmdaaaDoor

/- What the reader takes for a token. -/
import Derived.Test.YtibbmoeifpfgjaaDoorLexQuoted
namespace Go.Proofs.YtibbmoeifpfgjaaDoor
open Go.RowKit

/-- What token hands back. -/
def TPost (w : World) (g : Nat) (A : Option Addr) (cap p : Nat) (bs : List UInt8) (r : TRes) (e : Ending) (w' : World) : Prop :=
  w.grownBy w' (some g) ∧ match r with
    | .ok k t n => e = .returned (.tuple #[.agg #[.int .u8 k, .string (bstr t), .int .i64 ((p : Nat) : Int)], .int .i64 0]) ∧ p + n ≤ bs.length ∧ 0 < n ∧ Rdr w' g A bs.length cap (p + n)
    | .err c => c ≠ 0 ∧ (∃ (k : Int) (s : ByteArray) (a : Int), e = .returned (.tuple #[.agg #[.int .u8 k, .string s, .int .i64 a], .int .i64 c])) ∧ ∃ q, q ≤ bs.length ∧ Rdr w' g A bs.length cap q

theorem cell_alloc {w : World} {a : Addr} {v : Value} (h : w.cell? a = some v) (o : Obj) : (w.alloc o).cell? a = some v :=
  (World.cell?_of_block (Below.heap_alloc w o _ (World.block_lt_of_cell? w a h))).trans h

/-- The local token's block. -/
structure TBlk (W : World) (H : Nat) (k : Int) (s : ByteArray) (a : Int) : Prop where
  blk : W.heap[H]? = some (.cells #[.int .u8 k, .string s, .int .i64 a] 33 (0, 0))
section
variable {W : World} {H : Nat} {k : Int} {s : ByteArray} {a : Int}
theorem TBlk.c0 (h : TBlk W H k s a) : W.cell? ⟨H, 0, none⟩ = some (.int .u8 k) := by simp [World.cell?, h.blk]
theorem TBlk.c1 (h : TBlk W H k s a) : W.cell? ⟨H, 1, none⟩ = some (.string s) := by simp [World.cell?, h.blk]
theorem TBlk.c2 (h : TBlk W H k s a) : W.cell? ⟨H, 2, none⟩ = some (.int .i64 a) := by simp [World.cell?, h.blk]
theorem TBlk.fr (h : TBlk W H k s a) (o : Nat) : W.frozen? ⟨H, o, none⟩ = false := by simp [World.frozen?, h.blk]
theorem TBlk.kept {W1 : World} (h : TBlk W H k s a) (e : W1.heap[H]? = W.heap[H]?) : TBlk W1 H k s a := ⟨e.trans h.blk⟩
theorem TBlk.set0 (h : TBlk W H k s a) (u : Int) : TBlk (W.setCell ⟨H, 0, none⟩ (.int .u8 u)) H u s a := ⟨(heap_setCell_at h.blk).trans rfl⟩
theorem TBlk.set1 (h : TBlk W H k s a) (u : ByteArray) : TBlk (W.setCell ⟨H, 1, none⟩ (.string u)) H k u a := ⟨(heap_setCell_at h.blk).trans rfl⟩
theorem TBlk.set2 (h : TBlk W H k s a) (u : Int) : TBlk (W.setCell ⟨H, 2, none⟩ (.int .i64 u)) H k s u := ⟨(heap_setCell_at h.blk).trans rfl⟩
theorem TBlk.other (h : TBlk W H k s a) {b : Nat} (hb : b ≠ H) (o : Nat) (u : Value) : TBlk (W.setCell ⟨b, o, none⟩ u) H k s a := ⟨(Below.heap_setCell _ _ _ _ (fun e => hb e.symm)).trans h.blk⟩
theorem TBlk.drewN (h : TBlk W H k s a) (n : Nat) : TBlk (W.drewN n) H k s a := ⟨h.blk⟩
theorem TBlk.res (h : TBlk W H k s a) {fn : Func} (hf : fn.results = #[.cell 2 33, .tmp 3]) (tmps : Array Value) (e : Int) (h2 : tmps.getD 2 undef = .pointer (some ⟨H, 0, none⟩)) (h3 : tmps.getD 3 undef = .int .i64 e) :
    (results fn tmps).run Tryd.prog W = .ok (.tuple #[.agg #[.int .u8 k, .string s, .int .i64 a], .int .i64 e]) W := by
  have hl := run_loadVar_row (P := Tryd.prog) W H 33 33 _ (0, 0) _ h.blk Tryd.underlying33 rfl (by kernel_rfl)
  have h2' : tmps[2]?.getD undef = .pointer (some ⟨H, 0, none⟩) := by simpa using h2
  have h3' : tmps[3]?.getD undef = .int .i64 e := by simpa using h3
  simp [results, hf, h2', h3', asAddr, hl]
theorem TBlk.lt (h : TBlk W H k s a) : H < W.heap.size := lt_of_block h.blk
end

/-- What stands while a token is taken: the local token and the reader. -/
structure TMid (w : World) (g : Nat) (A : Option Addr) (cap p : Nat) (bs : List UInt8) (W : World) (H : Nat) (k : Int) (s : ByteArray) (q : Nat) : Prop where
  gr : w.grownBy W (some g)
  hH : w.heap.size = H
  gH : g ≠ H
  tb : TBlk W H k s ((p : Nat) : Int)
  rd : Rdr W g A bs.length cap q
section
variable {w : World} {g : Nat} {A : Option Addr} {cap p : Nat} {bs : List UInt8} {W : World} {H : Nat} {k : Int} {s : ByteArray} {q : Nat}
theorem tstart (w : World) (g : Nat) (A : Option Addr) (cap p : Nat) (bs : List UInt8) (hr : Rdr w g A bs.length cap p) (n : Nat) :
    TMid w g A cap p bs ((w.alloc (.cells #[.int .u8 0, .string ⟨#[]⟩, .int .i64 ((p : Nat) : Int)] 33)).drewN n) w.heap.size 0 ⟨#[]⟩ p :=
  ⟨gb_drewN (gb_alloc (World.grownBy.refl _ _) _) _, rfl, Nat.ne_of_lt hr.lt, ⟨heap_alloc_new w _⟩, (hr.alloc _).drewN _⟩
theorem TMid.set0 (h : TMid w g A cap p bs W H k s q) (u : Int) : TMid w g A cap p bs (W.setCell ⟨H, 0, none⟩ (.int .u8 u)) H u s q :=
  ⟨gb_set_new h.gr (Nat.le_of_eq h.hH) _ _, h.hH, h.gH, h.tb.set0 _, h.rd.other h.gH _ _⟩
theorem TMid.set1 (h : TMid w g A cap p bs W H k s q) (u : ByteArray) : TMid w g A cap p bs (W.setCell ⟨H, 1, none⟩ (.string u)) H k u q :=
  ⟨gb_set_new h.gr (Nat.le_of_eq h.hH) _ _, h.hH, h.gH, h.tb.set1 _, h.rd.other h.gH _ _⟩
theorem TMid.set2 (h : TMid w g A cap p bs W H k s q) : TMid w g A cap p bs (W.setCell ⟨H, 2, none⟩ (.int .i64 ((p : Nat) : Int))) H k s q :=
  ⟨gb_set_new h.gr (Nat.le_of_eq h.hH) _ _, h.hH, h.gH, h.tb.set2 _, h.rd.other h.gH _ _⟩
theorem TMid.adv (h : TMid w g A cap p bs W H k s q) : TMid w g A cap p bs (W.setCell ⟨g, 257, none⟩ (.int .i64 ((q : Int) + 1))) H k s (q + 1) :=
  ⟨gb_set h.gr _ _, h.hH, h.gH, h.tb.other h.gH _ _, h.rd.set1⟩
theorem TMid.drewN (h : TMid w g A cap p bs W H k s q) (n : Nat) : TMid w g A cap p bs (W.drewN n) H k s q := ⟨gb_drewN h.gr n, h.hH, h.gH, h.tb.drewN n, h.rd.drewN n⟩
theorem TMid.call (h : TMid w g A cap p bs W H k s q) {W2 : World} {q2 : Nat} (hg : W.grownBy W2 (some g)) (hr : Rdr W2 g A bs.length cap q2) : TMid w g A cap p bs W2 H k s q2 :=
  ⟨gb_trans h.gr hg, h.hH, h.gH, h.tb.kept (hg.block H h.tb.lt (fun e => h.gH (by injection e with e; exact e.symm))), hr⟩
theorem TMid.below (h : TMid w g A cap p bs W H k s q) {W2 : World} (hb : Below W.heap.size W W2) : TMid w g A cap p bs W2 H k s q :=
  ⟨gb_trans h.gr (gb_below hb _), h.hH, h.gH, h.tb.kept (hb.block H h.tb.lt), h.rd.below hb⟩
theorem TMid.bys (h : TMid w g A cap p bs W H k s q) (hb : Bys w A bs) (hg : ∀ ad, A = some ad → ad.block ≠ g ∧ ad.block < w.heap.size) : Bys W A bs := hb.kept h.gr hg
theorem TMid.hg (h : TMid w g A cap p bs W H k s q) (hg : ∀ ad, A = some ad → ad.block ≠ g ∧ ad.block < w.heap.size) : ∀ ad, A = some ad → ad.block ≠ g ∧ ad.block < W.heap.size :=
  fun ad e => ⟨(hg ad e).1, Nat.lt_of_lt_of_le (hg ad e).2 h.gr.size⟩
/-- The token's end: a token. -/
theorem TMid.fin {k : Int} {t : List UInt8} {n : Nat} (h : TMid w g A cap p bs W H k (bstr t) (p + n)) (hn : p + n ≤ bs.length) (h0 : 0 < n) {a : Act} (hd : a.defers = []) (h2 : a.tmps.getD 2 undef = .pointer (some ⟨H, 0, none⟩)) (h3 : a.tmps.getD 3 undef = .int .i64 0) {r : TRes} (hr : r = .ok k t n) :
    bodyPost Tryd.prog Tryd.f16 (fun e w' => TPost w g A cap p bs r e w') Exit.ret a W := by
  subst hr
  exact bodyPost_ret (h.tb.res rfl _ 0 h2 h3) hd ⟨h.gr, rfl, hn, h0, h.rd⟩
/-- The token's end: an error. -/
theorem TMid.bad {k : Int} {s : ByteArray} (h : TMid w g A cap p bs W H k s q) (hq : q ≤ bs.length) {a : Act} (c : Int) (hc : c ≠ 0) (hd : a.defers = []) (h2 : a.tmps.getD 2 undef = .pointer (some ⟨H, 0, none⟩)) (h3 : a.tmps.getD 3 undef = .int .i64 c) {r : TRes} (hr : r = .err c) :
    bodyPost Tryd.prog Tryd.f16 (fun e w' => TPost w g A cap p bs r e w') Exit.ret a W := by
  subst hr
  exact bodyPost_ret (h.tb.res rfl _ c h2 h3) hd ⟨h.gr, hc, ⟨_, _, _, rfl⟩, q, hq, h.rd⟩
end

theorem enc40 : Utf8.encode 40 = bstr [40] := by decide +kernel
theorem enc41 : Utf8.encode 41 = bstr [41] := by decide +kernel

theorem tok_cell {w : World} {A : Option Addr} {bs : List UInt8} (hb : Bys w A bs) (p : Nat) (hp : p < bs.length) : ∃ ad, A = some ad ∧ ∀ o, (w.alloc o).cell? (ad.add p) = some (.int .u8 (bi bs[p])) := by
  obtain ⟨ad, e, hc⟩ := hb.out p hp
  exact ⟨ad, e, fun o => cell_alloc hc o⟩

set_option maxHeartbeats 4000000 in
set_option maxRecDepth 100000 in
theorem token_paren (g : Nat) (A : Option Addr) (cap p : Nat) (bs : List UInt8) (w : World) (hr : Rdr w g A bs.length cap p) (hb : Bys w A bs) (hg : ∀ ad, A = some ad → ad.block ≠ g ∧ ad.block < w.heap.size) (hp : p < bs.length) (hl : bs.length ≤ 1048576) (hc : bi bs[p] = 40 ∨ bi bs[p] = 41) :
    Calls Tryd.prog 16 #[.pointer (some ⟨g, 0, none⟩)] w fun e w' => TPost w g A cap p bs (tok bs[p] (bs.drop (p + 1))) e w' := by
  have h1 := hr.at_
  have h2 := hr.b
  have hgw := hr.lt
  obtain ⟨ad, rfl, hcell⟩ := tok_cell hb p hp
  rcases hc with hc | hc
  · have HT := Lib.hid (tok_open (bs.drop (p + 1)) hc)
    rw [hc] at hcell
    clear hc
    go_enter Tryd.func16, Tryd.ntmps16
    go_wp2
    go_quiet (fail)
    have hs := tstart w g (some ad) cap p bs hr nq
    generalize (w.alloc (.cells #[.int .u8 0, .string ⟨#[]⟩, .int .i64 ((p : Nat) : Int)] 33)).drewN nq = W at hs ⊢
    generalize w.heap.size = H at hs ⊢
    have hgH := hs.gH
    have k0 := hs.tb.c0
    have k1 := hs.tb.c1
    have k2 := hs.tb.c2
    have f0 := hs.tb.fr 0
    have f1 := hs.tb.fr 1
    have f2 := hs.tb.fr 2
    have r1 := hs.rd.at_
    have r5 := hs.rd.free 257
    clear h1 h2 hcell hgw
    go_wp2
    rw [enc40]
    exact (((((hs.set0 1).set1 (bstr [40])).adv.set0 1).set1 (bstr [40])).set2).fin hp Nat.one_pos rfl rfl rfl HT.out
  · have HT := Lib.hid (tok_close (bs.drop (p + 1)) hc)
    rw [hc] at hcell
    clear hc
    go_enter Tryd.func16, Tryd.ntmps16
    go_wp2
    go_quiet (fail)
    have hs := tstart w g (some ad) cap p bs hr nq
    generalize (w.alloc (.cells #[.int .u8 0, .string ⟨#[]⟩, .int .i64 ((p : Nat) : Int)] 33)).drewN nq = W at hs ⊢
    generalize w.heap.size = H at hs ⊢
    have hgH := hs.gH
    have k0 := hs.tb.c0
    have k1 := hs.tb.c1
    have k2 := hs.tb.c2
    have f0 := hs.tb.fr 0
    have f1 := hs.tb.fr 1
    have f2 := hs.tb.fr 2
    have r1 := hs.rd.at_
    have r5 := hs.rd.free 257
    clear h1 h2 hcell hgw
    go_wp2
    rw [enc41]
    exact ((((((hs.set0 1).set1 (bstr [41])).set0 2).adv.set0 2).set1 (bstr [41])).set2).fin hp Nat.one_pos rfl rfl rfl HT.out

set_option maxHeartbeats 4000000 in
set_option maxRecDepth 100000 in
theorem token_quote (g : Nat) (A : Option Addr) (cap p : Nat) (bs : List UInt8) (w : World) (hr : Rdr w g A bs.length cap p) (hb : Bys w A bs) (hg : ∀ ad, A = some ad → ad.block ≠ g ∧ ad.block < w.heap.size) (hp : p < bs.length) (hl : bs.length ≤ 1048576) (hc : bi bs[p] = 124 ∨ bi bs[p] = 34) :
    Calls Tryd.prog 16 #[.pointer (some ⟨g, 0, none⟩)] w fun e w' => TPost w g A cap p bs (tok bs[p] (bs.drop (p + 1))) e w' := by
  have h1 := hr.at_
  have h2 := hr.b
  have hgw := hr.lt
  obtain ⟨ad, rfl, hcell⟩ := tok_cell hb p hp
  have HT := Lib.hid (tok_quote (bs.drop (p + 1)) hc)
  have HN := Lib.hid (qscan_err bs[p] (bs.drop (p + 1)))
  have hQ := fun W h1 h2 h3 => quoted_calls g (some ad) cap p bs W h1 h2 h3 hp hl
  have HQ := Lib.hid hQ
  clear hQ
  generalize bs[p] = c at hcell HT HQ HN hc ⊢
  generalize qscan c (bs.drop (p + 1)) = q at HT HQ HN
  rcases hc with hc | hc
  · have HC := Lib.hid hc
    rw [hc] at hcell
    clear hc
    go_enter Tryd.func16, Tryd.ntmps16
    go_wp2
    go_quiet (fail)
    have hs := tstart w g (some ad) cap p bs hr nq
    generalize (w.alloc (.cells #[.int .u8 0, .string ⟨#[]⟩, .int .i64 ((p : Nat) : Int)] 33)).drewN nq = W at hs ⊢
    generalize w.heap.size = H at hs ⊢
    have hgH := hs.gH
    have k0 := hs.tb.c0
    have k1 := hs.tb.c1
    have k2 := hs.tb.c2
    have f0 := hs.tb.fr 0
    have f1 := hs.tb.fr 1
    have f2 := hs.tb.fr 2
    have r1 := hs.rd.at_
    have r5 := hs.rd.free 257
    clear h1 h2 hcell hgw
    go_wp2_with fail
    have hm := hs.set0 3
    refine (HQ.out _ hm.rd (hm.bys hb hg) (hm.hg hg)).mono ?_
    rintro e w2 ⟨hgr, hq⟩
    cases q with
    | ok t n =>
      obtain ⟨rfl, hn, hrd⟩ := hq
      have hm2 := hm.call hgr hrd
      clear k0 k1 k2 f0 f1 f2 r1 r5 hgr hrd
      have k0 := hm2.tb.c0
      have k1 := hm2.tb.c1
      have k2 := hm2.tb.c2
      have f0 := hm2.tb.fr 0
      have f1 := hm2.tb.fr 1
      have f2 := hm2.tb.fr 2
      go_wp2
      have e1 : p + 1 + n = p + (n + 1) := by omega
      rw [e1] at hm2 hn
      refine ((((hm2.set1 _).set0 _).set1 _).set2).fin hn (Nat.succ_pos _) rfl rfl rfl ?_
      rw [HT.out]; unfold tokQuote; rw [HC.out]; rfl
    | err c2 =>
      obtain ⟨rfl, q2, hq2, hrd⟩ := hq
      have hm2 := hm.call hgr hrd
      clear k0 k1 k2 f0 f1 f2 r1 r5 hgr hrd
      have k0 := hm2.tb.c0
      have k1 := hm2.tb.c1
      have k2 := hm2.tb.c2
      have f0 := hm2.tb.fr 0
      have f1 := hm2.tb.fr 1
      have f2 := hm2.tb.fr 2
      go_wp2
      refine ((((hm2.set1 _).set0 _).set1 _).set2).bad hq2 c2 (HN.out _ rfl) rfl rfl rfl ?_
      rw [HT.out]; rfl
  · have HC := Lib.hid hc
    rw [hc] at hcell
    clear hc
    go_enter Tryd.func16, Tryd.ntmps16
    go_wp2
    go_quiet (fail)
    have hs := tstart w g (some ad) cap p bs hr nq
    generalize (w.alloc (.cells #[.int .u8 0, .string ⟨#[]⟩, .int .i64 ((p : Nat) : Int)] 33)).drewN nq = W at hs ⊢
    generalize w.heap.size = H at hs ⊢
    have hgH := hs.gH
    have k0 := hs.tb.c0
    have k1 := hs.tb.c1
    have k2 := hs.tb.c2
    have f0 := hs.tb.fr 0
    have f1 := hs.tb.fr 1
    have f2 := hs.tb.fr 2
    have r1 := hs.rd.at_
    have r5 := hs.rd.free 257
    clear h1 h2 hcell hgw
    go_wp2_with fail
    have hm := (hs.set0 3).set0 5
    refine (HQ.out _ hm.rd (hm.bys hb hg) (hm.hg hg)).mono ?_
    rintro e w2 ⟨hgr, hq⟩
    cases q with
    | ok t n =>
      obtain ⟨rfl, hn, hrd⟩ := hq
      have hm2 := hm.call hgr hrd
      clear k0 k1 k2 f0 f1 f2 r1 r5 hgr hrd
      have k0 := hm2.tb.c0
      have k1 := hm2.tb.c1
      have k2 := hm2.tb.c2
      have f0 := hm2.tb.fr 0
      have f1 := hm2.tb.fr 1
      have f2 := hm2.tb.fr 2
      go_wp2
      have e1 : p + 1 + n = p + (n + 1) := by omega
      rw [e1] at hm2 hn
      refine ((((hm2.set1 _).set0 _).set1 _).set2).fin hn (Nat.succ_pos _) rfl rfl rfl ?_
      rw [HT.out]; unfold tokQuote; rw [HC.out]; rfl
    | err c2 =>
      obtain ⟨rfl, q2, hq2, hrd⟩ := hq
      have hm2 := hm.call hgr hrd
      clear k0 k1 k2 f0 f1 f2 r1 r5 hgr hrd
      have k0 := hm2.tb.c0
      have k1 := hm2.tb.c1
      have k2 := hm2.tb.c2
      have f0 := hm2.tb.fr 0
      have f1 := hm2.tb.fr 1
      have f2 := hm2.tb.fr 2
      go_wp2
      refine ((((hm2.set1 _).set0 _).set1 _).set2).bad hq2 c2 (HN.out _ rfl) rfl rfl rfl ?_
      rw [HT.out]; rfl
end Go.Proofs.YtibbmoeifpfgjaaDoor

/- What the reader takes for a token. -/
import Derived.Test.YtppbijbgnhmdaaaDoorLexQuoted
namespace Go.Proofs.YtppbijbgnhmdaaaDoor
open Go.RowKit

/-- What token hands back. -/
def TPost (w : World) (g : Nat) (A : Option Addr) (cap p : Nat) (bs : List UInt8) (r : TRes) (e : Ending) (w' : World) : Prop :=
  w.grownBy w' (some g) ∧ match r with
    | .ok k t n => e = .returned (.tuple #[.agg #[.int .u8 k, .string (bstr t), .int .i64 ((p : Nat) : Int)], .int .i64 0]) ∧ p + n ≤ bs.length ∧ 0 < n ∧ Rdr w' g A bs.length cap (p + n)
    | .err c => c ≠ 0 ∧ (∃ (k : Int) (s : ByteArray) (a : Int), e = .returned (.tuple #[.agg #[.int .u8 k, .string s, .int .i64 a], .int .i64 c])) ∧ ∃ q, q ≤ bs.length ∧ Rdr w' g A bs.length cap q

theorem cell_alloc {w : World} {a : Addr} {v : Value} (h : w.cell? a = some v) (o : Obj) : (w.alloc o).cell? a = some v :=
  (World.cell?_of_block (Below.heap_alloc w o _ (World.block_lt_of_cell? w a h))).trans h

/-- The local token's block. -/
structure TBlk (W : World) (H : Nat) (k : Int) (s : ByteArray) (a : Int) : Prop where
  blk : W.heap[H]? = some (.cells #[.int .u8 k, .string s, .int .i64 a] 24 (0, 0))
section
variable {W : World} {H : Nat} {k : Int} {s : ByteArray} {a : Int}
theorem TBlk.c0 (h : TBlk W H k s a) : W.cell? ⟨H, 0, none⟩ = some (.int .u8 k) := by simp [World.cell?, h.blk]
theorem TBlk.c1 (h : TBlk W H k s a) : W.cell? ⟨H, 1, none⟩ = some (.string s) := by simp [World.cell?, h.blk]
theorem TBlk.c2 (h : TBlk W H k s a) : W.cell? ⟨H, 2, none⟩ = some (.int .i64 a) := by simp [World.cell?, h.blk]
theorem TBlk.fr (h : TBlk W H k s a) (o : Nat) : W.frozen? ⟨H, o, none⟩ = false := by simp [World.frozen?, h.blk]
theorem TBlk.kept {W1 : World} (h : TBlk W H k s a) (e : W1.heap[H]? = W.heap[H]?) : TBlk W1 H k s a := ⟨e.trans h.blk⟩
theorem TBlk.set0 (h : TBlk W H k s a) (u : Int) : TBlk (W.setCell ⟨H, 0, none⟩ (.int .u8 u)) H u s a := ⟨(heap_setCell_at h.blk).trans rfl⟩
theorem TBlk.set1 (h : TBlk W H k s a) (u : ByteArray) : TBlk (W.setCell ⟨H, 1, none⟩ (.string u)) H k u a := ⟨(heap_setCell_at h.blk).trans rfl⟩
theorem TBlk.set2 (h : TBlk W H k s a) (u : Int) : TBlk (W.setCell ⟨H, 2, none⟩ (.int .i64 u)) H k s u := ⟨(heap_setCell_at h.blk).trans rfl⟩
theorem TBlk.other (h : TBlk W H k s a) {b : Nat} (hb : b ≠ H) (o : Nat) (u : Value) : TBlk (W.setCell ⟨b, o, none⟩ u) H k s a := ⟨(Below.heap_setCell _ _ _ _ (fun e => hb e.symm)).trans h.blk⟩
theorem TBlk.drewN (h : TBlk W H k s a) (n : Nat) : TBlk (W.drewN n) H k s a := ⟨h.blk⟩
theorem TBlk.res (h : TBlk W H k s a) {fn : Func} (hf : fn.results = #[.cell 2 24, .tmp 3]) (tmps : Array Value) (e : Int) (h2 : tmps.getD 2 undef = .pointer (some ⟨H, 0, none⟩)) (h3 : tmps.getD 3 undef = .int .i64 e) :
    (results fn tmps).run Tryd.prog W = .ok (.tuple #[.agg #[.int .u8 k, .string s, .int .i64 a], .int .i64 e]) W := by
  have hl := run_loadVar_row (P := Tryd.prog) W H 24 24 _ (0, 0) _ h.blk Tryd.underlying24 rfl (by kernel_rfl)
  have h2' : tmps[2]?.getD undef = .pointer (some ⟨H, 0, none⟩) := by simpa using h2
  have h3' : tmps[3]?.getD undef = .int .i64 e := by simpa using h3
  simp [results, hf, h2', h3', asAddr, hl]
theorem TBlk.lt (h : TBlk W H k s a) : H < W.heap.size := lt_of_block h.blk
end

/-- What stands while a token is taken: the local token and the reader. -/
structure TMid (w : World) (g : Nat) (A : Option Addr) (cap p : Nat) (bs : List UInt8) (W : World) (H : Nat) (k : Int) (s : ByteArray) (q : Nat) : Prop where
  gr : w.grownBy W (some g)
  hH : w.heap.size = H
  gH : g ≠ H
  tb : TBlk W H k s ((p : Nat) : Int)
  rd : Rdr W g A bs.length cap q
section
variable {w : World} {g : Nat} {A : Option Addr} {cap p : Nat} {bs : List UInt8} {W : World} {H : Nat} {k : Int} {s : ByteArray} {q : Nat}
theorem tstart (w : World) (g : Nat) (A : Option Addr) (cap p : Nat) (bs : List UInt8) (hr : Rdr w g A bs.length cap p) (n : Nat) :
    TMid w g A cap p bs ((w.alloc (.cells #[.int .u8 0, .string ⟨#[]⟩, .int .i64 ((p : Nat) : Int)] 24)).drewN n) w.heap.size 0 ⟨#[]⟩ p :=
  ⟨gb_drewN (gb_alloc (World.grownBy.refl _ _) _) _, rfl, Nat.ne_of_lt hr.lt, ⟨heap_alloc_new w _⟩, (hr.alloc _).drewN _⟩
theorem TMid.set0 (h : TMid w g A cap p bs W H k s q) (u : Int) : TMid w g A cap p bs (W.setCell ⟨H, 0, none⟩ (.int .u8 u)) H u s q :=
  ⟨gb_set_new h.gr (Nat.le_of_eq h.hH) _ _, h.hH, h.gH, h.tb.set0 _, h.rd.other h.gH _ _⟩
theorem TMid.set1 (h : TMid w g A cap p bs W H k s q) (u : ByteArray) : TMid w g A cap p bs (W.setCell ⟨H, 1, none⟩ (.string u)) H k u q :=
  ⟨gb_set_new h.gr (Nat.le_of_eq h.hH) _ _, h.hH, h.gH, h.tb.set1 _, h.rd.other h.gH _ _⟩
theorem TMid.set2 (h : TMid w g A cap p bs W H k s q) : TMid w g A cap p bs (W.setCell ⟨H, 2, none⟩ (.int .i64 ((p : Nat) : Int))) H k s q :=
  ⟨gb_set_new h.gr (Nat.le_of_eq h.hH) _ _, h.hH, h.gH, h.tb.set2 _, h.rd.other h.gH _ _⟩
theorem TMid.adv (h : TMid w g A cap p bs W H k s q) : TMid w g A cap p bs (W.setCell ⟨g, 257, none⟩ (.int .i64 ((q : Int) + 1))) H k s (q + 1) :=
  ⟨gb_set h.gr _ _, h.hH, h.gH, h.tb.other h.gH _ _, h.rd.set1⟩
theorem TMid.drewN (h : TMid w g A cap p bs W H k s q) (n : Nat) : TMid w g A cap p bs (W.drewN n) H k s q := ⟨gb_drewN h.gr n, h.hH, h.gH, h.tb.drewN n, h.rd.drewN n⟩
theorem TMid.call (h : TMid w g A cap p bs W H k s q) {W2 : World} {q2 : Nat} (hg : W.grownBy W2 (some g)) (hr : Rdr W2 g A bs.length cap q2) : TMid w g A cap p bs W2 H k s q2 :=
  ⟨gb_trans h.gr hg, h.hH, h.gH, h.tb.kept (hg.block H h.tb.lt (fun e => h.gH (by injection e with e; exact e.symm))), hr⟩
theorem TMid.below (h : TMid w g A cap p bs W H k s q) {W2 : World} (hb : Below W.heap.size W W2) : TMid w g A cap p bs W2 H k s q :=
  ⟨gb_trans h.gr (gb_below hb _), h.hH, h.gH, h.tb.kept (hb.block H h.tb.lt), h.rd.below hb⟩
theorem TMid.bys (h : TMid w g A cap p bs W H k s q) (hb : Bys w A bs) (hg : ∀ ad, A = some ad → ad.block ≠ g ∧ ad.block < w.heap.size) : Bys W A bs := hb.kept h.gr hg
theorem TMid.hg (h : TMid w g A cap p bs W H k s q) (hg : ∀ ad, A = some ad → ad.block ≠ g ∧ ad.block < w.heap.size) : ∀ ad, A = some ad → ad.block ≠ g ∧ ad.block < W.heap.size :=
  fun ad e => ⟨(hg ad e).1, Nat.lt_of_lt_of_le (hg ad e).2 h.gr.size⟩
/-- The token's end: a token. -/
theorem TMid.fin {k : Int} {t : List UInt8} {n : Nat} (h : TMid w g A cap p bs W H k (bstr t) (p + n)) (hn : p + n ≤ bs.length) (h0 : 0 < n) {a : Act} (hd : a.defers = []) (h2 : a.tmps.getD 2 undef = .pointer (some ⟨H, 0, none⟩)) (h3 : a.tmps.getD 3 undef = .int .i64 0) {r : TRes} (hr : r = .ok k t n) :
    bodyPost Tryd.prog Tryd.f57 (fun e w' => TPost w g A cap p bs r e w') Exit.ret a W := by
  subst hr
  exact bodyPost_ret (h.tb.res rfl _ 0 h2 h3) hd ⟨h.gr, rfl, hn, h0, h.rd⟩
/-- The token's end: an error. -/
theorem TMid.bad {k : Int} {s : ByteArray} (h : TMid w g A cap p bs W H k s q) (hq : q ≤ bs.length) {a : Act} (c : Int) (hc : c ≠ 0) (hd : a.defers = []) (h2 : a.tmps.getD 2 undef = .pointer (some ⟨H, 0, none⟩)) (h3 : a.tmps.getD 3 undef = .int .i64 c) {r : TRes} (hr : r = .err c) :
    bodyPost Tryd.prog Tryd.f57 (fun e w' => TPost w g A cap p bs r e w') Exit.ret a W := by
  subst hr
  exact bodyPost_ret (h.tb.res rfl _ c h2 h3) hd ⟨h.gr, hc, ⟨_, _, _, rfl⟩, q, hq, h.rd⟩
end

theorem enc40 : Utf8.encode 40 = bstr [40] := by decide +kernel
theorem enc41 : Utf8.encode 41 = bstr [41] := by decide +kernel

theorem tok_cell {w : World} {A : Option Addr} {bs : List UInt8} (hb : Bys w A bs) (p : Nat) (hp : p < bs.length) : ∃ ad, A = some ad ∧ ∀ o, (w.alloc o).cell? (ad.add p) = some (.int .u8 (bi bs[p])) := by
  obtain ⟨ad, e, hc⟩ := hb.out p hp
  exact ⟨ad, e, fun o => cell_alloc hc o⟩

set_option maxHeartbeats 4000000 in
set_option maxRecDepth 100000 in
theorem token_paren (g : Nat) (A : Option Addr) (cap p : Nat) (bs : List UInt8) (w : World) (hr : Rdr w g A bs.length cap p) (hb : Bys w A bs) (hg : ∀ ad, A = some ad → ad.block ≠ g ∧ ad.block < w.heap.size) (hp : p < bs.length) (hl : bs.length ≤ 1048576) (hc : bi bs[p] = 40 ∨ bi bs[p] = 41) :
    Calls Tryd.prog 57 #[.pointer (some ⟨g, 0, none⟩)] w fun e w' => TPost w g A cap p bs (tok bs[p] (bs.drop (p + 1))) e w' := by
  have h1 := hr.at_
  have h2 := hr.b
  have hgw := hr.lt
  obtain ⟨ad, rfl, hcell⟩ := tok_cell hb p hp
  rcases hc with hc | hc
  · have HT := Lib.hid (tok_open (bs.drop (p + 1)) hc)
    rw [hc] at hcell
    clear hc
    go_enter Tryd.func57, Tryd.ntmps57
    go_wp2
    go_quiet (fail)
    have hs := tstart w g (some ad) cap p bs hr nq
    generalize (w.alloc (.cells #[.int .u8 0, .string ⟨#[]⟩, .int .i64 ((p : Nat) : Int)] 24)).drewN nq = W at hs ⊢
    generalize w.heap.size = H at hs ⊢
    have hgH := hs.gH
    have k0 := hs.tb.c0
    have k1 := hs.tb.c1
    have k2 := hs.tb.c2
    have f0 := hs.tb.fr 0
    have f1 := hs.tb.fr 1
    have f2 := hs.tb.fr 2
    have r1 := hs.rd.at_
    have r5 := hs.rd.free 257
    clear h1 h2 hcell hgw
    go_wp2
    rw [enc40]
    exact (((((hs.set0 1).set1 (bstr [40])).adv.set0 1).set1 (bstr [40])).set2).fin hp Nat.one_pos rfl rfl rfl HT.out
  · have HT := Lib.hid (tok_close (bs.drop (p + 1)) hc)
    rw [hc] at hcell
    clear hc
    go_enter Tryd.func57, Tryd.ntmps57
    go_wp2
    go_quiet (fail)
    have hs := tstart w g (some ad) cap p bs hr nq
    generalize (w.alloc (.cells #[.int .u8 0, .string ⟨#[]⟩, .int .i64 ((p : Nat) : Int)] 24)).drewN nq = W at hs ⊢
    generalize w.heap.size = H at hs ⊢
    have hgH := hs.gH
    have k0 := hs.tb.c0
    have k1 := hs.tb.c1
    have k2 := hs.tb.c2
    have f0 := hs.tb.fr 0
    have f1 := hs.tb.fr 1
    have f2 := hs.tb.fr 2
    have r1 := hs.rd.at_
    have r5 := hs.rd.free 257
    clear h1 h2 hcell hgw
    go_wp2
    rw [enc41]
    exact ((((((hs.set0 1).set1 (bstr [41])).set0 2).adv.set0 2).set1 (bstr [41])).set2).fin hp Nat.one_pos rfl rfl rfl HT.out

set_option maxHeartbeats 4000000 in
set_option maxRecDepth 100000 in
theorem token_quote (g : Nat) (A : Option Addr) (cap p : Nat) (bs : List UInt8) (w : World) (hr : Rdr w g A bs.length cap p) (hb : Bys w A bs) (hg : ∀ ad, A = some ad → ad.block ≠ g ∧ ad.block < w.heap.size) (hp : p < bs.length) (hl : bs.length ≤ 1048576) (hc : bi bs[p] = 124 ∨ bi bs[p] = 34) :
    Calls Tryd.prog 57 #[.pointer (some ⟨g, 0, none⟩)] w fun e w' => TPost w g A cap p bs (tok bs[p] (bs.drop (p + 1))) e w' := by
  have h1 := hr.at_
  have h2 := hr.b
  have hgw := hr.lt
  obtain ⟨ad, rfl, hcell⟩ := tok_cell hb p hp
  have HT := Lib.hid (tok_quote (bs.drop (p + 1)) hc)
  have HN := Lib.hid (qscan_err bs[p] (bs.drop (p + 1)))
  have hQ := fun W h1 h2 h3 => quoted_calls g (some ad) cap p bs W h1 h2 h3 hp hl
  have HQ := Lib.hid hQ
  clear hQ
  generalize bs[p] = c at hcell HT HQ HN hc ⊢
  generalize qscan c (bs.drop (p + 1)) = q at HT HQ HN
  rcases hc with hc | hc
  · have HC := Lib.hid hc
    rw [hc] at hcell
    clear hc
    go_enter Tryd.func57, Tryd.ntmps57
    go_wp2
    go_quiet (fail)
    have hs := tstart w g (some ad) cap p bs hr nq
    generalize (w.alloc (.cells #[.int .u8 0, .string ⟨#[]⟩, .int .i64 ((p : Nat) : Int)] 24)).drewN nq = W at hs ⊢
    generalize w.heap.size = H at hs ⊢
    have hgH := hs.gH
    have k0 := hs.tb.c0
    have k1 := hs.tb.c1
    have k2 := hs.tb.c2
    have f0 := hs.tb.fr 0
    have f1 := hs.tb.fr 1
    have f2 := hs.tb.fr 2
    have r1 := hs.rd.at_
    have r5 := hs.rd.free 257
    clear h1 h2 hcell hgw
    go_wp2_with fail
    have hm := hs.set0 3
    refine (HQ.out _ hm.rd (hm.bys hb hg) (hm.hg hg)).mono ?_
    rintro e w2 ⟨hgr, hq⟩
    cases q with
    | ok t n =>
      obtain ⟨rfl, hn, hrd⟩ := hq
      have hm2 := hm.call hgr hrd
      clear k0 k1 k2 f0 f1 f2 r1 r5 hgr hrd
      have k0 := hm2.tb.c0
      have k1 := hm2.tb.c1
      have k2 := hm2.tb.c2
      have f0 := hm2.tb.fr 0
      have f1 := hm2.tb.fr 1
      have f2 := hm2.tb.fr 2
      go_wp2
      have e1 : p + 1 + n = p + (n + 1) := by omega
      rw [e1] at hm2 hn
      refine ((((hm2.set1 _).set0 _).set1 _).set2).fin hn (Nat.succ_pos _) rfl rfl rfl ?_
      rw [HT.out]; unfold tokQuote; rw [HC.out]; rfl
    | err c2 =>
      obtain ⟨rfl, q2, hq2, hrd⟩ := hq
      have hm2 := hm.call hgr hrd
      clear k0 k1 k2 f0 f1 f2 r1 r5 hgr hrd
      have k0 := hm2.tb.c0
      have k1 := hm2.tb.c1
      have k2 := hm2.tb.c2
      have f0 := hm2.tb.fr 0
      have f1 := hm2.tb.fr 1
      have f2 := hm2.tb.fr 2
      go_wp2
      refine ((((hm2.set1 _).set0 _).set1 _).set2).bad hq2 c2 (HN.out _ rfl) rfl rfl rfl ?_
      rw [HT.out]; rfl
  · have HC := Lib.hid hc
    rw [hc] at hcell
    clear hc
    go_enter Tryd.func57, Tryd.ntmps57
    go_wp2
    go_quiet (fail)
    have hs := tstart w g (some ad) cap p bs hr nq
    generalize (w.alloc (.cells #[.int .u8 0, .string ⟨#[]⟩, .int .i64 ((p : Nat) : Int)] 24)).drewN nq = W at hs ⊢
    generalize w.heap.size = H at hs ⊢
    have hgH := hs.gH
    have k0 := hs.tb.c0
    have k1 := hs.tb.c1
    have k2 := hs.tb.c2
    have f0 := hs.tb.fr 0
    have f1 := hs.tb.fr 1
    have f2 := hs.tb.fr 2
    have r1 := hs.rd.at_
    have r5 := hs.rd.free 257
    clear h1 h2 hcell hgw
    go_wp2_with fail
    have hm := (hs.set0 3).set0 5
    refine (HQ.out _ hm.rd (hm.bys hb hg) (hm.hg hg)).mono ?_
    rintro e w2 ⟨hgr, hq⟩
    cases q with
    | ok t n =>
      obtain ⟨rfl, hn, hrd⟩ := hq
      have hm2 := hm.call hgr hrd
      clear k0 k1 k2 f0 f1 f2 r1 r5 hgr hrd
      have k0 := hm2.tb.c0
      have k1 := hm2.tb.c1
      have k2 := hm2.tb.c2
      have f0 := hm2.tb.fr 0
      have f1 := hm2.tb.fr 1
      have f2 := hm2.tb.fr 2
      go_wp2
      have e1 : p + 1 + n = p + (n + 1) := by omega
      rw [e1] at hm2 hn
      refine ((((hm2.set1 _).set0 _).set1 _).set2).fin hn (Nat.succ_pos _) rfl rfl rfl ?_
      rw [HT.out]; unfold tokQuote; rw [HC.out]; rfl
    | err c2 =>
      obtain ⟨rfl, q2, hq2, hrd⟩ := hq
      have hm2 := hm.call hgr hrd
      clear k0 k1 k2 f0 f1 f2 r1 r5 hgr hrd
      have k0 := hm2.tb.c0
      have k1 := hm2.tb.c1
      have k2 := hm2.tb.c2
      have f0 := hm2.tb.fr 0
      have f1 := hm2.tb.fr 1
      have f2 := hm2.tb.fr 2
      go_wp2
      refine ((((hm2.set1 _).set0 _).set1 _).set2).bad hq2 c2 (HN.out _ rfl) rfl rfl rfl ?_
      rw [HT.out]; rfl
end Go.Proofs.YtppbijbgnhmdaaaDoor

/- What the reader takes for a token: a colon or a number sign, and words. -/
namespace Go.Proofs.YtppbijbgnhmdaaaDoor
open Go.RowKit

theorem letter_ascii : ∀ b : UInt8, isLetter b = true → b.toNat < 128 := by
  have key : ∀ i : Fin 256, (bits BinOp.and IntKind.u8 ((cl i.val : Nat) : Int) 1 != 0) = true → i.val < 128 := by decide +kernel
  intro b h
  exact key ⟨b.toNat, b.toNat_lt⟩ h
theorem word_ascii (l : List UInt8) : ∀ x ∈ bl (bstr (l.takeWhile isLetter)), x.toNat < 128 := by
  intro x hx
  rw [bl_bstr] at hx
  have := List.all_takeWhile (p := isLetter) (l := l)
  rw [List.all_eq_true] at this
  exact letter_ascii x (this x hx)
theorem bstr_empty (t : List UInt8) : (bstr t).toList.isEmpty = t.isEmpty := by
  rw [ByteArray.toList_eq]; rfl
theorem hash_append (t : List UInt8) : (⟨#[35]⟩ : ByteArray) ++ bstr t = bstr (35 :: t) := by
  apply ByteArray.ext
  simp [bstr]

set_option maxHeartbeats 4000000 in
set_option maxRecDepth 100000 in
theorem token_mark (g : Nat) (A : Option Addr) (cap p : Nat) (bs : List UInt8) (w : World) (hr : Rdr w g A bs.length cap p) (hb : Bys w A bs) (hg : ∀ ad, A = some ad → ad.block ≠ g ∧ ad.block < w.heap.size) (hp : p < bs.length) (hl : bs.length ≤ 1048576) (hcap : bs.length ≤ cap) (hc : bi bs[p] = 58 ∨ bi bs[p] = 35) :
    Calls Tryd.prog 57 #[.pointer (some ⟨g, 0, none⟩)] w fun e w' => TPost w g A cap p bs (tok bs[p] (bs.drop (p + 1))) e w' := by
  have h1 := hr.at_
  have h2 := hr.b
  have hgw := hr.lt
  obtain ⟨ad, rfl, hcell⟩ := tok_cell hb p hp
  have HT := Lib.hid (tok_mark (bs.drop (p + 1)) hc)
  have HW := fun W h1 h2 h3 => word_calls g (some ad) cap (p + 1) bs W h1 h2 h3 hp hl hcap
  have HW' := Lib.hid HW
  have hlen : Hid (p + 1 + ((bs.drop (p + 1)).takeWhile isLetter).length ≤ bs.length) := by
    have h1 := (List.takeWhile_sublist isLetter (l := bs.drop (p + 1))).length_le
    have h2 : (bs.drop (p + 1)).length = bs.length - (p + 1) := List.length_drop ..
    show _ ≤ _
    omega
  have hasc := Lib.hid (word_ascii (bs.drop (p + 1)))
  clear HW
  generalize bs[p] = c at hcell HT hc ⊢
  generalize (bs.drop (p + 1)).takeWhile isLetter = t at HT HW' hlen hasc
  have htl : (bstr t).size ≤ 1048576 := by rw [bstr_size]; have := hlen.out; omega
  rcases hc with hc | hc
  · have HC := Lib.hid hc
    rw [hc] at hcell
    clear hc
    go_enter Tryd.func57, Tryd.ntmps57
    go_wp2
    go_quiet (fail)
    have hs := tstart w g (some ad) cap p bs hr nq
    generalize (w.alloc (.cells #[.int .u8 0, .string ⟨#[]⟩, .int .i64 ((p : Nat) : Int)] 24)).drewN nq = W at hs ⊢
    generalize w.heap.size = H at hs ⊢
    have hgH := hs.gH
    have k0 := hs.tb.c0
    have k1 := hs.tb.c1
    have k2 := hs.tb.c2
    have f0 := hs.tb.fr 0
    have f1 := hs.tb.fr 1
    have f2 := hs.tb.fr 2
    have r1 := hs.rd.at_
    have r5 := hs.rd.free 257
    clear h1 h2 hcell hgw
    go_wp2_with fail
    have hm := hs.adv
    refine (HW'.out _ hm.rd (hm.bys hb hg) (hm.hg hg)).mono ?_
    rintro e w2 ⟨rfl, hrd, hgr⟩
    have hm2 := hm.call hgr hrd
    clear k0 k1 k2 f0 f1 f2 r1 r5 hgr hrd
    have k0 := hm2.tb.c0
    have k1 := hm2.tb.c1
    have k2 := hm2.tb.c2
    have f0 := hm2.tb.fr 0
    have f1 := hm2.tb.fr 1
    have f2 := hm2.tb.fr 2
    cases ht : t.isEmpty with
    | true =>
      have he : (bstr t).toList.isEmpty = true := (bstr_empty t).trans ht
      have HE := Lib.hid ht
      clear ht
      go_wp2
      refine (((((hm2.set0 _).set1 _).set0 _).set1 _).set2).bad hlen.out 30 (by decide) rfl rfl rfl ?_
      rw [HT.out]; unfold tokMark; rw [if_pos (List.isEmpty_iff.1 HE.out)]
    | false =>
      have he : (bstr t).toList.isEmpty = false := (bstr_empty t).trans ht
      have HE := Lib.hid ht
      clear ht
      go_wp2
      have e1 : p + 1 + t.length = p + (t.length + 1) := by omega
      rw [e1] at hm2 hlen
      refine (((((hm2.set0 _).set1 _).set0 _).set1 _).set2).fin hlen.out (Nat.succ_pos _) rfl rfl rfl ?_
      rw [HT.out]; unfold tokMark
      rw [if_neg (fun h => by rw [h] at HE; cases HE.out), if_neg (by rw [HC.out]; omega)]
  · have HC := Lib.hid hc
    rw [hc] at hcell
    clear hc
    go_enter Tryd.func57, Tryd.ntmps57
    go_wp2
    go_quiet (fail)
    have hs := tstart w g (some ad) cap p bs hr nq
    generalize (w.alloc (.cells #[.int .u8 0, .string ⟨#[]⟩, .int .i64 ((p : Nat) : Int)] 24)).drewN nq = W at hs ⊢
    generalize w.heap.size = H at hs ⊢
    have hgH := hs.gH
    have k0 := hs.tb.c0
    have k1 := hs.tb.c1
    have k2 := hs.tb.c2
    have f0 := hs.tb.fr 0
    have f1 := hs.tb.fr 1
    have f2 := hs.tb.fr 2
    have r1 := hs.rd.at_
    have r5 := hs.rd.free 257
    clear h1 h2 hcell hgw
    go_wp2_with fail
    have hm := hs.adv
    refine (HW'.out _ hm.rd (hm.bys hb hg) (hm.hg hg)).mono ?_
    rintro e w2 ⟨rfl, hrd, hgr⟩
    have hm2 := hm.call hgr hrd
    clear k0 k1 k2 f0 f1 f2 r1 r5 hgr hrd
    have k0 := hm2.tb.c0
    have k1 := hm2.tb.c1
    have k2 := hm2.tb.c2
    have f0 := hm2.tb.fr 0
    have f1 := hm2.tb.fr 1
    have f2 := hm2.tb.fr 2
    cases ht : t.isEmpty with
    | true =>
      have he : (bstr t).toList.isEmpty = true := (bstr_empty t).trans ht
      have HE := Lib.hid ht
      clear ht
      go_wp2
      refine (((((hm2.set0 _).set1 _).set0 _).set1 _).set2).bad hlen.out 30 (by decide) rfl rfl rfl ?_
      rw [HT.out]; unfold tokMark; rw [if_pos (List.isEmpty_iff.1 HE.out)]
    | false =>
      have he : (bstr t).toList.isEmpty = false := (bstr_empty t).trans ht
      have h0 : 0 < (bstr t).size := by
        rw [bstr_size]
        cases t with
        | nil => cases ht
        | cons x r => simp
      have HE := Lib.hid ht
      clear ht
      go_wp2_with fail
      have hmm := (hm2.set0 6).set1 (bstr t)
      refine (based_calls (bstr t) _ h0 (by omega) hasc.out).mono ?_
      rw [bl_bstr]
      rintro e w3 ⟨rfl, hbel⟩
      have hm3 := hmm.below hbel
      have e1 : p + 1 + t.length = p + (t.length + 1) := by omega
      have hE1 := Lib.hid e1
      clear e1 k0 k1 k2 f0 f1 f2 hbel
      have k0 := hm3.tb.c0
      have k1 := hm3.tb.c1
      have k2 := hm3.tb.c2
      have f0 := hm3.tb.fr 0
      have f1 := hm3.tb.fr 1
      have f2 := hm3.tb.fr 2
      cases hbd : basedB t with
      | true =>
        have HB := Lib.hid hbd
        clear hbd
        have ha := hash_append t
        have hz : ((⟨#[35]⟩ : ByteArray).size : Int) + ((bstr t).size : Int) ≤ 9223372036854775807 := by
          have : (⟨#[35]⟩ : ByteArray).size = 1 := rfl
          rw [this]; omega
        go_wp2
        rw [hE1.out] at hm3 hlen
        refine (((((hm3.set0 _).set1 _).set0 _).set1 _).set2).fin hlen.out (Nat.succ_pos _) rfl rfl rfl ?_
        rw [HT.out]; unfold tokMark
        rw [if_neg (fun h => by rw [h] at HE; cases HE.out), if_pos HC.out, if_pos HB.out]
      | false =>
        have HB := Lib.hid hbd
        clear hbd
        go_wp2
        refine (((hm3.set0 _).set1 _).set2).bad hlen.out 5 (by decide) rfl rfl rfl ?_
        rw [HT.out]; unfold tokMark
        rw [if_neg (fun h => by rw [h] at HE; cases HE.out), if_pos HC.out, if_neg (by rw [HB.out]; simp)]
end Go.Proofs.YtppbijbgnhmdaaaDoor

/- What the reader takes for a token: words. -/
namespace Go.Proofs.YtppbijbgnhmdaaaDoor
open Go.RowKit

theorem cutW_cases (s : ByteArray) : ∃ A B f, cutW s = .tuple #[.string A, .string B, .bool f] ∧ A.size ≤ s.size ∧ B.size ≤ s.size ∧ f = decide (dotAt (bl s) < s.size) ∧ (f = true → bl A = (bl s).take (dotAt (bl s)) ∧ bl B = (bl s).drop (dotAt (bl s) + 1)) := by
  unfold cutW
  by_cases h : dotAt (bl s) < s.size
  · refine ⟨_, _, _, if_pos h, ?_, ?_, (decide_eq_true h).symm, fun _ => ⟨rfl, rfl⟩⟩
    · rw [bstr_size, List.length_take, bl_length]; omega
    · rw [bstr_size, List.length_drop, bl_length]; omega
  · exact ⟨_, _, _, if_neg h, Nat.le_refl _, Nat.zero_le _, (decide_eq_false h).symm, fun h => by cases h⟩

/-- What word does, put by. -/
def WordGives (w : World) (g : Nat) (A : Option Addr) (n cap p : Nat) (t : List UInt8) : Prop := ∀ W, w.grownBy W (some g) → Rdr W g A n cap p →
  Calls Tryd.prog 67 #[.pointer (some ⟨g, 0, none⟩)] W fun e w' => e = .returned (.string (bstr t)) ∧ Rdr w' g A n cap (p + t.length) ∧ W.grownBy w' (some g)

set_option maxHeartbeats 8000000 in
set_option maxRecDepth 100000 in
theorem token_word (g : Nat) (A : Option Addr) (cap p : Nat) (bs : List UInt8) (w : World) (hr : Rdr w g A bs.length cap p) (hb : Bys w A bs) (hg : ∀ ad, A = some ad → ad.block ≠ g ∧ ad.block < w.heap.size) (hp : p < bs.length) (hl : bs.length ≤ 1048576) (hcap : bs.length ≤ cap) (hc : ¬ bi bs[p] = 40 ∧ ¬ bi bs[p] = 41 ∧ ¬ bi bs[p] = 124 ∧ ¬ bi bs[p] = 34 ∧ ¬ bi bs[p] = 58 ∧ ¬ bi bs[p] = 35) :
    Calls Tryd.prog 57 #[.pointer (some ⟨g, 0, none⟩)] w fun e w' => TPost w g A cap p bs (tok bs[p] (bs.drop (p + 1))) e w' := by
  have h1 := hr.at_
  have h2 := hr.b
  have hgw := hr.lt
  obtain ⟨ad, rfl, hcell⟩ := tok_cell hb p hp
  have HT0 := tok_word (bs.drop (p + 1)) hc
  rw [← List.drop_eq_getElem_cons hp] at HT0
  have HT := Lib.hid HT0
  clear HT0
  have HW : WordGives w g (some ad) bs.length cap p ((bs.drop p).takeWhile isLetter) := fun W h1 h2 => word_calls g (some ad) cap p bs W h2 (hb.kept h1 hg) (fun a e => ⟨(hg a e).1, Nat.lt_of_lt_of_le (hg a e).2 h1.size⟩) (Nat.le_of_lt hp) hl hcap
  have hlen : Hid (p + ((bs.drop p).takeWhile isLetter).length ≤ bs.length) := by
    have h1 := (List.takeWhile_sublist isLetter (l := bs.drop p)).length_le
    have h2 : (bs.drop p).length = bs.length - p := List.length_drop ..
    show _ ≤ _
    omega
  obtain ⟨c1, c2, c3, c4, c5, c6⟩ := hc
  have b1 : (bi bs[p] == 40) = false := by simpa using c1
  have b2 : (bi bs[p] == 41) = false := by simpa using c2
  have b3 : (bi bs[p] == 124) = false := by simpa using c3
  have b4 : (bi bs[p] == 34) = false := by simpa using c4
  have b5 : (bi bs[p] == 58) = false := by simpa using c5
  have b6 : (bi bs[p] == 35) = false := by simpa using c6
  clear c1 c2 c3 c4 c5 c6
  generalize bs[p] = c at hcell HT b1 b2 b3 b4 b5 b6 ⊢
  generalize (bs.drop p).takeWhile isLetter = t at HT HW hlen
  have htl : (bstr t).size ≤ 1048576 := by rw [bstr_size]; have := hlen.out; omega
  have htl2 : (bstr t).size ≤ 140737488351232 := by omega
  go_enter Tryd.func57, Tryd.ntmps57
  go_wp2
  go_quiet (fail)
  have hs := tstart w g (some ad) cap p bs hr nq
  generalize (w.alloc (.cells #[.int .u8 0, .string ⟨#[]⟩, .int .i64 ((p : Nat) : Int)] 24)).drewN nq = W at hs ⊢
  generalize w.heap.size = H at hs ⊢
  have hgH := hs.gH
  have k0 := hs.tb.c0
  have k1 := hs.tb.c1
  have k2 := hs.tb.c2
  have f0 := hs.tb.fr 0
  have f1 := hs.tb.fr 1
  have f2 := hs.tb.fr 2
  have r1 := hs.rd.at_
  have r5 := hs.rd.free 257
  clear h1 h2 hcell hgw
  go_wp2_with fail
  refine (HW _ hs.gr hs.rd).mono ?_
  rintro e w2 ⟨rfl, hrd, hgr⟩
  have hm2 := hs.call hgr hrd
  clear k0 k1 k2 f0 f1 f2 r1 r5 hgr hrd HW b1 b2 b3 b4 b5 b6
  have k0 := hm2.tb.c0
  have k1 := hm2.tb.c1
  have k2 := hm2.tb.c2
  have f0 := hm2.tb.fr 0
  have f1 := hm2.tb.fr 1
  have f2 := hm2.tb.fr 2
  have hm3 := hm2.set1 (bstr t)
  go_wp2_with fail
  refine (cut_calls (bstr t) _ htl2).mono ?_
  obtain ⟨A0, B0, f, hv, hA, hB, hf, hAB⟩ := cutW_cases (bstr t)
  rw [hv]
  have HF := Lib.hid hf
  have HAB := Lib.hid hAB
  have hA2 : A0.size ≤ 140737488351232 := by omega
  have hB2 : B0.size ≤ 140737488351232 := by omega
  clear hv hf hAB hA hB
  rintro e w3 ⟨rfl, m, rfl⟩
  cases ht : t.isEmpty with
  | true =>
    have he : (bstr t).toList.isEmpty = true := (bstr_empty t).trans ht
    have HE := Lib.hid (List.isEmpty_iff.1 ht)
    clear ht
    go_wp2
    refine ((((hm3.drewN m).set0 _).set1 _).set2).bad hlen.out 30 (by decide) rfl rfl rfl ?_
    rw [HT.out]; unfold tokWord; rw [if_pos HE.out]
  | false =>
    have he : (bstr t).toList.isEmpty = false := (bstr_empty t).trans ht
    have HE : Hid (¬ t = []) := fun h => by rw [h] at ht; cases ht
    have h0 : Hid (0 < t.length) := by
      cases t with
      | nil => cases ht
      | cons x r => exact Nat.succ_pos _
    clear ht
    go_wp2_with fail
    refine (plain_calls (bstr t) _ htl2).mono ?_
    rw [bl_bstr]
    rintro e w4 ⟨rfl, hbel⟩
    have hm4 := (hm3.drewN m).below hbel
    clear k0 k1 k2 f0 f1 f2 hbel
    have k0 := hm4.tb.c0
    have k1 := hm4.tb.c1
    have k2 := hm4.tb.c2
    have f0 := hm4.tb.fr 0
    have f1 := hm4.tb.fr 1
    have f2 := hm4.tb.fr 2
    cases hpl : plainB t with
    | true =>
      have HP := Lib.hid hpl
      clear hpl
      go_wp2
      refine ((((hm4.set0 _).set0 _).set1 _).set2).fin hlen.out h0.out rfl rfl rfl ?_
      rw [HT.out]; unfold tokWord; rw [if_neg HE.out, if_pos HP.out]
    | false =>
      have HP := Lib.hid hpl
      clear hpl
      go_wp2_with fail
      refine (numeral_calls g (some ad) bs.length cap _ (bstr t) _ hm4.rd htl2).mono ?_
      rw [bl_bstr]
      rintro e w5 ⟨rfl, m2, rfl⟩
      cases hnum : numeralB t with
      | true =>
        have HNU := Lib.hid hnum
        clear hnum
        go_wp2
        refine (((((hm4.drewN m2).set0 _).set0 _).set1 _).set2).fin hlen.out h0.out rfl rfl rfl ?_
        rw [HT.out]; unfold tokWord; rw [if_neg HE.out, if_neg (by rw [HP.out]; simp), if_pos HNU.out]
      | false =>
        have HNU := Lib.hid hnum
        clear hnum
        have HX : Hid (tokWord t = if dotAt t < t.length ∧ numeralB (t.take (dotAt t)) = true ∧ (!(t.drop (dotAt t + 1)).isEmpty && (t.drop (dotAt t + 1)).all (inCl 2)) = true then .ok 7 t t.length else .err 5) := by
          show _ = _
          unfold tokWord
          rw [if_neg HE.out, if_neg (by rw [HP.out]; simp), if_neg (by rw [HNU.out]; simp)]
        clear HP HNU
        cases f with
        | false =>
          go_wp2
          refine ((((hm4.drewN m2).set0 _).set1 _).set2).bad hlen.out 5 (by decide) rfl rfl rfl ?_
          rw [HT.out, HX.out, if_neg]
          intro h
          have := HF.out
          rw [decide_eq_true (show dotAt (bl (bstr t)) < (bstr t).size from h.1)] at this
          cases this
        | true =>
          obtain ⟨eA, eB⟩ := HAB.out rfl
          have HA := Lib.hid eA
          have HB := Lib.hid eB
          clear eA eB HAB
          have HD := Lib.hid (show dotAt t < t.length from of_decide_eq_true HF.out.symm)
          go_wp2_with fail
          refine (numeral_calls g (some ad) bs.length cap _ A0 _ (hm4.drewN m2).rd hA2).mono ?_
          rw [HA.out]
          rintro e w6 ⟨rfl, m3, rfl⟩
          cases hn2 : numeralB ((bl (bstr t)).take (dotAt (bl (bstr t)))) with
          | false =>
            have HN2 := Lib.hid hn2
            clear hn2
            go_wp2
            refine ((((hm4.drewN _).set0 _).set1 _).set2).bad hlen.out 5 (by decide) rfl rfl rfl ?_
            rw [HT.out, HX.out, if_neg]
            intro h
            have h1 := HN2.out
            rw [bl_bstr] at h1
            rw [h1] at h
            cases h.2.1
          | true =>
            have HN2 := Lib.hid hn2
            clear hn2
            go_wp2_with fail
            refine (all_calls g (some ad) bs.length cap _ B0 2 _ (hm4.drewN _).rd hB2).mono ?_
            rw [HB.out]
            rintro e w7 ⟨rfl, m4, rfl⟩
            cases hn3 : (!((bl (bstr t)).drop (dotAt (bl (bstr t)) + 1)).isEmpty && ((bl (bstr t)).drop (dotAt (bl (bstr t)) + 1)).all (inCl 2)) with
            | false =>
              have HN3 := Lib.hid hn3
              clear hn3
              go_wp2
              refine ((((hm4.drewN _).set0 _).set1 _).set2).bad hlen.out 5 (by decide) rfl rfl rfl ?_
              rw [HT.out, HX.out, if_neg]
              intro h
              have h1 := HN3.out
              rw [bl_bstr] at h1
              rw [h1] at h
              cases h.2.2
            | true =>
              have HN3 := Lib.hid hn3
              clear hn3
              go_wp2
              refine (((((hm4.drewN _).set0 _).set0 _).set1 _).set2).fin hlen.out h0.out rfl rfl rfl ?_
              rw [HT.out, HX.out, if_pos ⟨HD.out, HN2.out, HN3.out⟩]

/-- A token: whatever its first byte. -/
theorem token_calls (g : Nat) (A : Option Addr) (cap p : Nat) (bs : List UInt8) (w : World) (hr : Rdr w g A bs.length cap p) (hb : Bys w A bs) (hg : ∀ ad, A = some ad → ad.block ≠ g ∧ ad.block < w.heap.size) (hp : p < bs.length) (hl : bs.length ≤ 1048576) (hcap : bs.length ≤ cap) :
    Calls Tryd.prog 57 #[.pointer (some ⟨g, 0, none⟩)] w fun e w' => TPost w g A cap p bs (tok bs[p] (bs.drop (p + 1))) e w' := by
  by_cases h1 : bi bs[p] = 40 ∨ bi bs[p] = 41
  · exact token_paren g A cap p bs w hr hb hg hp hl h1
  · by_cases h2 : bi bs[p] = 124 ∨ bi bs[p] = 34
    · exact token_quote g A cap p bs w hr hb hg hp hl h2
    · by_cases h3 : bi bs[p] = 58 ∨ bi bs[p] = 35
      · exact token_mark g A cap p bs w hr hb hg hp hl hcap h3
      · exact token_word g A cap p bs w hr hb hg hp hl hcap (by omega)
end Go.Proofs.YtppbijbgnhmdaaaDoor


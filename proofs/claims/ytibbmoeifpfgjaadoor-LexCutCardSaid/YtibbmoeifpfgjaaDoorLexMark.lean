/- What the reader takes for a token: a colon or a number sign, and words. -/
import Derived.Test.YtibbmoeifpfgjaaDoorLexToken
namespace Go.Proofs.YtibbmoeifpfgjaaDoor
open Go.RowKit

theorem letter_ascii : ∀ b : UInt8, isLetter b = true → b.toNat < 128 := by
  have key : ∀ i : Fin 256, (bits BinOp.and IntKind.u8 ((cl i.val : Nat) : Int) 1 != 0) = true → i.val < 128 := by decide +kernel
  intro b h
  exact key ⟨b.toNat, b.toNat_lt⟩ h
theorem word_ascii (l : List UInt8) : ∀ x ∈ bl (bstr (l.takeWhile isLetter)), x.toNat < 128 := by
  intro x hx
  rw [bl_bstr] at hx
  have := List.all_takeWhile (p := isLetter) (l := l)
  rw [List.all_eq_true] at this
  exact letter_ascii x (this x hx)
theorem bstr_empty (t : List UInt8) : (bstr t).toList.isEmpty = t.isEmpty := by
  rw [ByteArray.toList_eq]; rfl
theorem hash_append (t : List UInt8) : (⟨#[35]⟩ : ByteArray) ++ bstr t = bstr (35 :: t) := by
  apply ByteArray.ext
  simp [bstr]

set_option maxHeartbeats 4000000 in
set_option maxRecDepth 100000 in
theorem token_mark (g : Nat) (A : Option Addr) (cap p : Nat) (bs : List UInt8) (w : World) (hr : Rdr w g A bs.length cap p) (hb : Bys w A bs) (hg : ∀ ad, A = some ad → ad.block ≠ g ∧ ad.block < w.heap.size) (hp : p < bs.length) (hl : bs.length ≤ 1048576) (hcap : bs.length ≤ cap) (hc : bi bs[p] = 58 ∨ bi bs[p] = 35) :
    Calls Tryd.prog 16 #[.pointer (some ⟨g, 0, none⟩)] w fun e w' => TPost w g A cap p bs (tok bs[p] (bs.drop (p + 1))) e w' := by
  have h1 := hr.at_
  have h2 := hr.b
  have hgw := hr.lt
  obtain ⟨ad, rfl, hcell⟩ := tok_cell hb p hp
  have HT := Lib.hid (tok_mark (bs.drop (p + 1)) hc)
  have HW := fun W h1 h2 h3 => word_calls g (some ad) cap (p + 1) bs W h1 h2 h3 hp hl hcap
  have HW' := Lib.hid HW
  have hlen : Hid (p + 1 + ((bs.drop (p + 1)).takeWhile isLetter).length ≤ bs.length) := by
    have h1 := (List.takeWhile_sublist isLetter (l := bs.drop (p + 1))).length_le
    have h2 : (bs.drop (p + 1)).length = bs.length - (p + 1) := List.length_drop ..
    show _ ≤ _
    omega
  have hasc := Lib.hid (word_ascii (bs.drop (p + 1)))
  clear HW
  generalize bs[p] = c at hcell HT hc ⊢
  generalize (bs.drop (p + 1)).takeWhile isLetter = t at HT HW' hlen hasc
  have htl : (bstr t).size ≤ 1048576 := by rw [bstr_size]; have := hlen.out; omega
  rcases hc with hc | hc
  · have HC := Lib.hid hc
    rw [hc] at hcell
    clear hc
    go_enter Tryd.func16, Tryd.ntmps16
    go_wp2
    go_quiet (fail)
    have hs := tstart w g (some ad) cap p bs hr nq
    generalize (w.alloc (.cells #[.int .u8 0, .string ⟨#[]⟩, .int .i64 ((p : Nat) : Int)] 33)).drewN nq = W at hs ⊢
    generalize w.heap.size = H at hs ⊢
    have hgH := hs.gH
    have k0 := hs.tb.c0
    have k1 := hs.tb.c1
    have k2 := hs.tb.c2
    have f0 := hs.tb.fr 0
    have f1 := hs.tb.fr 1
    have f2 := hs.tb.fr 2
    have r1 := hs.rd.at_
    have r5 := hs.rd.free 257
    clear h1 h2 hcell hgw
    go_wp2_with fail
    have hm := hs.adv
    refine (HW'.out _ hm.rd (hm.bys hb hg) (hm.hg hg)).mono ?_
    rintro e w2 ⟨rfl, hrd, hgr⟩
    have hm2 := hm.call hgr hrd
    clear k0 k1 k2 f0 f1 f2 r1 r5 hgr hrd
    have k0 := hm2.tb.c0
    have k1 := hm2.tb.c1
    have k2 := hm2.tb.c2
    have f0 := hm2.tb.fr 0
    have f1 := hm2.tb.fr 1
    have f2 := hm2.tb.fr 2
    cases ht : t.isEmpty with
    | true =>
      have he : (bstr t).toList.isEmpty = true := (bstr_empty t).trans ht
      have HE := Lib.hid ht
      clear ht
      go_wp2
      refine (((((hm2.set0 _).set1 _).set0 _).set1 _).set2).bad hlen.out 30 (by decide) rfl rfl rfl ?_
      rw [HT.out]; unfold tokMark; rw [if_pos (List.isEmpty_iff.1 HE.out)]
    | false =>
      have he : (bstr t).toList.isEmpty = false := (bstr_empty t).trans ht
      have HE := Lib.hid ht
      clear ht
      go_wp2
      have e1 : p + 1 + t.length = p + (t.length + 1) := by omega
      rw [e1] at hm2 hlen
      refine (((((hm2.set0 _).set1 _).set0 _).set1 _).set2).fin hlen.out (Nat.succ_pos _) rfl rfl rfl ?_
      rw [HT.out]; unfold tokMark
      rw [if_neg (fun h => by rw [h] at HE; cases HE.out), if_neg (by rw [HC.out]; omega)]
  · have HC := Lib.hid hc
    rw [hc] at hcell
    clear hc
    go_enter Tryd.func16, Tryd.ntmps16
    go_wp2
    go_quiet (fail)
    have hs := tstart w g (some ad) cap p bs hr nq
    generalize (w.alloc (.cells #[.int .u8 0, .string ⟨#[]⟩, .int .i64 ((p : Nat) : Int)] 33)).drewN nq = W at hs ⊢
    generalize w.heap.size = H at hs ⊢
    have hgH := hs.gH
    have k0 := hs.tb.c0
    have k1 := hs.tb.c1
    have k2 := hs.tb.c2
    have f0 := hs.tb.fr 0
    have f1 := hs.tb.fr 1
    have f2 := hs.tb.fr 2
    have r1 := hs.rd.at_
    have r5 := hs.rd.free 257
    clear h1 h2 hcell hgw
    go_wp2_with fail
    have hm := hs.adv
    refine (HW'.out _ hm.rd (hm.bys hb hg) (hm.hg hg)).mono ?_
    rintro e w2 ⟨rfl, hrd, hgr⟩
    have hm2 := hm.call hgr hrd
    clear k0 k1 k2 f0 f1 f2 r1 r5 hgr hrd
    have k0 := hm2.tb.c0
    have k1 := hm2.tb.c1
    have k2 := hm2.tb.c2
    have f0 := hm2.tb.fr 0
    have f1 := hm2.tb.fr 1
    have f2 := hm2.tb.fr 2
    cases ht : t.isEmpty with
    | true =>
      have he : (bstr t).toList.isEmpty = true := (bstr_empty t).trans ht
      have HE := Lib.hid ht
      clear ht
      go_wp2
      refine (((((hm2.set0 _).set1 _).set0 _).set1 _).set2).bad hlen.out 30 (by decide) rfl rfl rfl ?_
      rw [HT.out]; unfold tokMark; rw [if_pos (List.isEmpty_iff.1 HE.out)]
    | false =>
      have he : (bstr t).toList.isEmpty = false := (bstr_empty t).trans ht
      have h0 : 0 < (bstr t).size := by
        rw [bstr_size]
        cases t with
        | nil => cases ht
        | cons x r => simp
      have HE := Lib.hid ht
      clear ht
      go_wp2_with fail
      have hmm := (hm2.set0 6).set1 (bstr t)
      refine (based_calls (bstr t) _ h0 (by omega) hasc.out).mono ?_
      rw [bl_bstr]
      rintro e w3 ⟨rfl, hbel⟩
      have hm3 := hmm.below hbel
      have e1 : p + 1 + t.length = p + (t.length + 1) := by omega
      have hE1 := Lib.hid e1
      clear e1 k0 k1 k2 f0 f1 f2 hbel
      have k0 := hm3.tb.c0
      have k1 := hm3.tb.c1
      have k2 := hm3.tb.c2
      have f0 := hm3.tb.fr 0
      have f1 := hm3.tb.fr 1
      have f2 := hm3.tb.fr 2
      cases hbd : basedB t with
      | true =>
        have HB := Lib.hid hbd
        clear hbd
        have ha := hash_append t
        have hz : ((⟨#[35]⟩ : ByteArray).size : Int) + ((bstr t).size : Int) ≤ 9223372036854775807 := by
          have : (⟨#[35]⟩ : ByteArray).size = 1 := rfl
          rw [this]; omega
        go_wp2
        rw [hE1.out] at hm3 hlen
        refine (((((hm3.set0 _).set1 _).set0 _).set1 _).set2).fin hlen.out (Nat.succ_pos _) rfl rfl rfl ?_
        rw [HT.out]; unfold tokMark
        rw [if_neg (fun h => by rw [h] at HE; cases HE.out), if_pos HC.out, if_pos HB.out]
      | false =>
        have HB := Lib.hid hbd
        clear hbd
        go_wp2
        refine (((hm3.set0 _).set1 _).set2).bad hlen.out 5 (by decide) rfl rfl rfl ?_
        rw [HT.out]; unfold tokMark
        rw [if_neg (fun h => by rw [h] at HE; cases HE.out), if_pos HC.out, if_neg (by rw [HB.out]; simp)]
end Go.Proofs.YtibbmoeifpfgjaaDoor

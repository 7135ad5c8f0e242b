/- What the reference takes for a token. -/
import Derived.Test.YtppbijbgnhmdaaaDoorRefSmall
import Derived.Test.YtppbijbgnhmdaaaDoorRefPlain
import Derived.Test.YtppbijbgnhmdaaaDoorLexToken
namespace Go.Proofs.YtppbijbgnhmdaaaDoor
open Go.RowKit

/-- What One hands back. -/
def RO (p : Nat) (r : TRes) (v : Value) : Prop := match r with
  | .ok k t n => v = .tuple #[.agg #[.int .u8 k, .string (bstr t), .int .i64 ((p : Nat) : Int)], .int .i64 (n : Int), .int .i64 0]
  | .err c => c ≠ 0 ∧ ∃ (k : Int) (s : ByteArray) (a n : Int), v = .tuple #[.agg #[.int .u8 k, .string s, .int .i64 a], .int .i64 n, .int .i64 c]
def ROP (w : World) (p : Nat) (r : TRes) (e : Ending) (w' : World) : Prop := Below w.heap.size w w' ∧ ∃ v, e = .returned v ∧ RO p r v

theorem below_two (w : World) (o1 o2 : Obj) : Below w.heap.size w ((w.alloc o1).alloc o2) := ((Below.refl _ w).alloc (Nat.le_refl _) o1).alloc (by simp) o2
theorem Bys.alloc {w : World} {A : Option Addr} {bs : List UInt8} (h : Bys w A bs) (o : Obj) : Bys (w.alloc o) A bs := ⟨fun i hi => by
  obtain ⟨ad, e, hc⟩ := h.out i hi
  exact ⟨ad, e, cell_alloc hc o⟩⟩
theorem one_fin {w : World} {k a n e : Int} {s : ByteArray} {o : Obj} {ac : Act} {r : TRes} {p : Nat} (hd : ac.defers = []) (h4 : ac.tmps.getD 4 undef = .pointer (some ⟨w.heap.size, 0, none⟩)) (h5 : ac.tmps.getD 5 undef = .int .i64 n) (h6 : ac.tmps.getD 6 undef = .int .i64 e)
    (h : RO p r (.tuple #[.agg #[.int .u8 k, .string s, .int .i64 a], .int .i64 n, .int .i64 e])) :
    bodyPost Tryd.prog Tryd.f39 (fun e w' => ROP w p r e w') Exit.ret ac ((w.alloc (.cells #[.int .u8 k, .string s, .int .i64 a] 24)).alloc o) := by
  have hblk : ((w.alloc (.cells #[.int .u8 k, .string s, .int .i64 a] 24)).alloc o).heap[w.heap.size]? = some (.cells #[.int .u8 k, .string s, .int .i64 a] 24 (0, 0)) :=
    (Below.heap_alloc _ o _ (by simp)).trans (heap_alloc_new w _)
  have hl := run_loadVar_row (P := Tryd.prog) _ w.heap.size 24 24 _ (0, 0) _ hblk Tryd.underlying24 rfl (by kernel_rfl)
  have hf : Tryd.f39.results = #[.cell 4 24, .tmp 5, .tmp 6] := rfl
  have h4' : ac.tmps[4]?.getD undef = .pointer (some ⟨w.heap.size, 0, none⟩) := by simpa using h4
  have h5' : ac.tmps[5]?.getD undef = .int .i64 n := by simpa using h5
  have h6' : ac.tmps[6]?.getD undef = .int .i64 e := by simpa using h6
  have hr : (results Tryd.f39 ac.tmps).run Tryd.prog ((w.alloc (.cells #[.int .u8 k, .string s, .int .i64 a] 24)).alloc o) = .ok (.tuple #[.agg #[.int .u8 k, .string s, .int .i64 a], .int .i64 n, .int .i64 e]) ((w.alloc (.cells #[.int .u8 k, .string s, .int .i64 a] 24)).alloc o) := by
    simp [results, h4', h5', h6', asAddr, hl]
  exact bodyPost_ret hr hd ⟨below_two _ _ _, _, rfl, h⟩

theorem plainB_word (c : UInt8) (r : List UInt8) (hne : ¬ (c :: r).takeWhile isLetter = []) : plainB ((c :: r).takeWhile isLetter) = !isDigit c := by
  have h1 : isLetter c = true := by
    cases h : isLetter c with
    | true => rfl
    | false => exact absurd (List.takeWhile_cons_of_neg (by simp [h])) hne
  have hall : ∀ l : List UInt8, (l.takeWhile isLetter).takeWhile isLetter = l.takeWhile isLetter := by
    intro l
    induction l with
    | nil => rfl
    | cons a r ih =>
      cases ha : isLetter a with
      | true => simp [ha, ih]
      | false => simp [ha]
  rw [plainB_eq, hall, List.takeWhile_cons_of_pos h1]
  simp

theorem take_word (l : List UInt8) : l.take (l.takeWhile isLetter).length = l.takeWhile isLetter := by
  induction l with
  | nil => rfl
  | cons a r ih =>
    cases ha : isLetter a with
    | true => simp [ha, ih]
    | false => simp [ha]
theorem word_len (bs : List UInt8) (p : Nat) (hp : p ≤ bs.length) : p + ((bs.drop p).takeWhile isLetter).length ≤ bs.length := by
  have h1 := (List.takeWhile_sublist isLetter (l := bs.drop p)).length_le
  have h2 : (bs.drop p).length = bs.length - p := List.length_drop ..
  omega

set_option maxHeartbeats 4000000 in
set_option maxRecDepth 100000 in
theorem one_paren (A : Option Addr) (cap p : Nat) (bs : List UInt8) (w : World) (hb : Bys w A bs) (hp : p < bs.length) (_hl : bs.length ≤ 1048576) (hc : bi bs[p] = 40 ∨ bi bs[p] = 41) :
    Calls Tryd.prog 39 #[.slice A bs.length cap, .int .i64 ((p : Nat) : Int)] w fun e w' => ROP w p (tok bs[p] (bs.drop (p + 1))) e w' := by
  obtain ⟨ad, rfl, hcell⟩ := tok_cell hb p hp
  rcases hc with hc | hc
  · have HT := Lib.hid (tok_open (bs.drop (p + 1)) hc)
    rw [hc] at hcell
    clear hc
    go_enter Tryd.func39, Tryd.ntmps39
    go_wp2
    exact one_fin rfl rfl rfl rfl (by rw [HT.out]; rfl)
  · have HT := Lib.hid (tok_close (bs.drop (p + 1)) hc)
    rw [hc] at hcell
    clear hc
    go_enter Tryd.func39, Tryd.ntmps39
    go_wp2
    exact one_fin rfl rfl rfl rfl (by rw [HT.out]; rfl)

set_option maxHeartbeats 4000000 in
set_option maxRecDepth 100000 in
theorem one_quote (A : Option Addr) (cap p : Nat) (bs : List UInt8) (w : World) (hb : Bys w A bs) (hp : p < bs.length) (hl : bs.length ≤ 1048576) (hcap : bs.length ≤ cap) (hc : bi bs[p] = 124 ∨ bi bs[p] = 34) :
    Calls Tryd.prog 39 #[.slice A bs.length cap, .int .i64 ((p : Nat) : Int)] w fun e w' => ROP w p (tok bs[p] (bs.drop (p + 1))) e w' := by
  obtain ⟨ad, rfl, hcell⟩ := tok_cell hb p hp
  have HT := Lib.hid (tok_quote (bs.drop (p + 1)) hc)
  have HN := Lib.hid (qscan_err bs[p] (bs.drop (p + 1)))
  have hQ : ∀ o1 o2, Calls Tryd.prog 47 #[.slice (some ad) bs.length cap, .int .i64 ((p : Nat) : Int), .int .u8 (bi bs[p])] ((w.alloc o1).alloc o2) fun e w' => (∃ v, e = .returned v ∧ RQ (qscan bs[p] (bs.drop (p + 1))) v) ∧ (w.alloc o1).alloc o2 = w' :=
    fun o1 o2 => rquoted_calls (some ad) cap p bs[p] bs _ ((hb.alloc _).alloc _) hp hl hcap
  generalize bs[p] = c at hcell HT hQ HN hc ⊢
  generalize qscan c (bs.drop (p + 1)) = q at HT hQ HN
  rcases hc with hc | hc
  · have HC := Lib.hid hc
    rw [hc] at hcell hQ
    clear hc
    go_enter Tryd.func39, Tryd.ntmps39
    go_wp2_with fail
    refine (hQ _ _).mono ?_
    rintro e w2 ⟨⟨v, rfl, hq⟩, rfl⟩
    cases q with
    | ok t n =>
      subst hq
      go_wp2
      refine one_fin rfl rfl rfl rfl ?_
      rw [HT.out]; unfold tokQuote; rw [HC.out]; rfl
    | err c2 =>
      subst hq
      go_wp2
      refine one_fin rfl rfl rfl rfl ?_
      rw [HT.out]
      exact ⟨HN.out _ rfl, _, _, _, _, rfl⟩
  · have HC := Lib.hid hc
    rw [hc] at hcell hQ
    clear hc
    go_enter Tryd.func39, Tryd.ntmps39
    go_wp2_with fail
    refine (hQ _ _).mono ?_
    rintro e w2 ⟨⟨v, rfl, hq⟩, rfl⟩
    cases q with
    | ok t n =>
      subst hq
      go_wp2
      refine one_fin rfl rfl rfl rfl ?_
      rw [HT.out]; unfold tokQuote; rw [HC.out]; rfl
    | err c2 =>
      subst hq
      go_wp2
      refine one_fin rfl rfl rfl rfl ?_
      rw [HT.out]
      exact ⟨HN.out _ rfl, _, _, _, _, rfl⟩

/-- A word's calls and slices, put by. -/
structure WordAt (w : World) (ad : Addr) (cap p : Nat) (bs : List UInt8) (t : List UInt8) (sv : Value) : Prop where
  call : ∀ o1 o2, Calls Tryd.prog 48 #[.slice (some ad) bs.length cap, .int .i64 ((p : Nat) : Int)] ((w.alloc o1).alloc o2) fun e w' => e = .returned (.int .i64 ((t.length : Nat) : Int)) ∧ (w.alloc o1).alloc o2 = w'
  sl : ∀ W, (Instr.slice 43 (.slice (some ad) bs.length cap) (some (.int .i64 ((p : Nat) : Int))) (some (.int .i64 ((p : Int) + (t.length : Int)))) none).run Tryd.prog W = .ok sv W
  cv : ∀ o1 o2, (convert 43 9 sv).run Tryd.prog ((w.alloc o1).alloc o2) = .ok (.string (bstr t)) ((w.alloc o1).alloc o2)
  len : p + t.length ≤ bs.length
theorem wordAt (w : World) (ad : Addr) (cap p : Nat) (bs : List UInt8) (hb : Bys w (some ad) bs) (hp : p ≤ bs.length) (hl : bs.length ≤ 1048576) (hcap : bs.length ≤ cap) : ∃ sv, WordAt w ad cap p bs ((bs.drop p).takeWhile isLetter) sv := by
  have h1 := word_len bs p hp
  refine ⟨subSl (some ad) p (p + ((bs.drop p).takeWhile isLetter).length) cap, fun o1 o2 => rword_calls (some ad) cap p bs _ ((hb.alloc _).alloc _) hp (by omega), fun W => ?_, fun o1 o2 => ?_, h1⟩
  · have := run_sub W (some ad) bs.length cap p (p + ((bs.drop p).takeWhile isLetter).length) (by omega) (by omega)
    simpa using this
  · have := conv_sub ((w.alloc o1).alloc o2) (some ad) bs p (p + ((bs.drop p).takeWhile isLetter).length) cap ((hb.alloc _).alloc _) (by omega) h1 (by omega)
    rw [this, Nat.add_sub_cancel_left, take_word]

set_option maxHeartbeats 4000000 in
set_option maxRecDepth 100000 in
theorem one_mark (A : Option Addr) (cap p : Nat) (bs : List UInt8) (w : World) (hb : Bys w A bs) (hp : p < bs.length) (hl : bs.length ≤ 1048576) (hcap : bs.length ≤ cap) (hc : bi bs[p] = 58 ∨ bi bs[p] = 35) :
    Calls Tryd.prog 39 #[.slice A bs.length cap, .int .i64 ((p : Nat) : Int)] w fun e w' => ROP w p (tok bs[p] (bs.drop (p + 1))) e w' := by
  obtain ⟨ad, rfl, hcell⟩ := tok_cell hb p hp
  have HT := Lib.hid (tok_mark (bs.drop (p + 1)) hc)
  obtain ⟨sv, hw⟩ := wordAt w ad cap (p + 1) bs hb hp hl hcap
  generalize bs[p] = c at hcell HT hc ⊢
  generalize (bs.drop (p + 1)).takeWhile isLetter = t at HT hw
  have hlen := hw.len
  have hcall := hw.call
  have hsl := hw.sl
  have hcv := hw.cv
  simp only [Int.natCast_add, Int.natCast_one] at hcall hsl
  clear hw
  have htl : (bstr t).size ≤ 1048576 := by rw [bstr_size]; omega
  rcases hc with hc | hc
  · have HC := Lib.hid hc
    rw [hc] at hcell
    clear hc
    by_cases hz : t.length = 0
    · have hz' : ((t.length : Int) == 0) = true := by simp [hz]
      have HE : Hid (t = []) := List.eq_nil_of_length_eq_zero hz
      clear hz
      go_enter Tryd.func39, Tryd.ntmps39
      go_wp2_with (go_at_call 48; refine (hcall _ _).mono ?_; rintro e w' ⟨rfl, rfl⟩)
      refine one_fin rfl rfl rfl rfl ?_
      rw [HT.out]; unfold tokMark; rw [if_pos HE.out]
      exact ⟨by decide, _, _, _, _, rfl⟩
    · have hz' : ((t.length : Int) == 0) = false := by simp; exact fun h => hz (by rw [h]; rfl)
      have HE : Hid (¬ t = []) := fun h => hz (by rw [h]; rfl)
      clear hz
      go_enter Tryd.func39, Tryd.ntmps39
      go_wp2_with (go_at_call 48; refine (hcall _ _).mono ?_; rintro e w' ⟨rfl, rfl⟩)
      refine one_fin rfl rfl rfl rfl ?_
      rw [HT.out]; unfold tokMark; rw [if_neg HE.out, if_neg (by rw [HC.out]; omega)]
      simp [RO]
  · have HC := Lib.hid hc
    rw [hc] at hcell
    clear hc
    by_cases hz : t.length = 0
    · have hz' : ((t.length : Int) == 0) = true := by simp [hz]
      have HE : Hid (t = []) := List.eq_nil_of_length_eq_zero hz
      clear hz
      go_enter Tryd.func39, Tryd.ntmps39
      go_wp2_with (go_at_call 48; refine (hcall _ _).mono ?_; rintro e w' ⟨rfl, rfl⟩)
      refine one_fin rfl rfl rfl rfl ?_
      rw [HT.out]; unfold tokMark; rw [if_pos HE.out]
      exact ⟨by decide, _, _, _, _, rfl⟩
    · have hz' : ((t.length : Int) == 0) = false := by simp; exact fun h => hz (by rw [h]; rfl)
      have HE : Hid (¬ t = []) := fun h => hz (by rw [h]; rfl)
      clear hz
      have hnum := fun W => rnumber_calls (bstr t) W (by omega)
      rw [bl_bstr] at hnum
      cases hbd : basedB t with
      | true =>
        rw [hbd] at hnum
        have HB := Lib.hid hbd
        clear hbd
        have ha := hash_append t
        have hz : ((⟨#[35]⟩ : ByteArray).size : Int) + ((bstr t).size : Int) ≤ 9223372036854775807 := by
          have : (⟨#[35]⟩ : ByteArray).size = 1 := rfl
          rw [this]; omega
        go_enter Tryd.func39, Tryd.ntmps39
        go_wp2_with (first | (go_at_call 48; refine (hcall _ _).mono ?_; rintro e w' ⟨rfl, rfl⟩) | (go_at_call 49; refine (hnum _).mono ?_; rintro e w' ⟨rfl, rfl⟩))
        refine one_fin rfl rfl rfl rfl ?_
        rw [HT.out]; unfold tokMark; rw [if_neg HE.out, if_pos HC.out, if_pos HB.out]
        simp [RO]
      | false =>
        rw [hbd] at hnum
        have HB := Lib.hid hbd
        clear hbd
        go_enter Tryd.func39, Tryd.ntmps39
        go_wp2_with (first | (go_at_call 48; refine (hcall _ _).mono ?_; rintro e w' ⟨rfl, rfl⟩) | (go_at_call 49; refine (hnum _).mono ?_; rintro e w' ⟨rfl, rfl⟩))
        refine one_fin rfl rfl rfl rfl ?_
        rw [HT.out]; unfold tokMark; rw [if_neg HE.out, if_pos HC.out, if_neg (by rw [HB.out]; simp)]
        exact ⟨by decide, _, _, _, _, rfl⟩

set_option maxHeartbeats 4000000 in
set_option maxRecDepth 100000 in
theorem one_word (A : Option Addr) (cap p : Nat) (bs : List UInt8) (w : World) (hb : Bys w A bs) (hp : p < bs.length) (hl : bs.length ≤ 1048576) (hcap : bs.length ≤ cap) (hc : ¬ bi bs[p] = 40 ∧ ¬ bi bs[p] = 41 ∧ ¬ bi bs[p] = 124 ∧ ¬ bi bs[p] = 34 ∧ ¬ bi bs[p] = 58 ∧ ¬ bi bs[p] = 35) :
    Calls Tryd.prog 39 #[.slice A bs.length cap, .int .i64 ((p : Nat) : Int)] w fun e w' => ROP w p (tok bs[p] (bs.drop (p + 1))) e w' := by
  obtain ⟨ad, rfl, hcell⟩ := tok_cell hb p hp
  have HT0 := tok_word (bs.drop (p + 1)) hc
  have HP0 := plainB_word bs[p] (bs.drop (p + 1))
  rw [← List.drop_eq_getElem_cons hp] at HT0 HP0
  have HT := Lib.hid HT0
  clear HT0
  obtain ⟨sv, hw⟩ := wordAt w ad cap p bs hb (Nat.le_of_lt hp) hl hcap
  obtain ⟨c1, c2, c3, c4, c5, c6⟩ := hc
  have b1 : (bi bs[p] == 40) = false := by simpa using c1
  have b2 : (bi bs[p] == 41) = false := by simpa using c2
  have b3 : (bi bs[p] == 124) = false := by simpa using c3
  have b4 : (bi bs[p] == 34) = false := by simpa using c4
  have b5 : (bi bs[p] == 58) = false := by simpa using c5
  have b6 : (bi bs[p] == 35) = false := by simpa using c6
  clear c1 c2 c3 c4 c5 c6
  have hdig := fun W => digit_calls bs[p] W
  generalize bs[p] = c at hcell HT b1 b2 b3 b4 b5 b6 HP0 hdig ⊢
  generalize (bs.drop p).takeWhile isLetter = t at HT hw HP0
  have hlen := hw.len
  have hcall := hw.call
  have hsl := hw.sl
  have hcv := hw.cv
  clear hw
  have htl : (bstr t).size ≤ 1048576 := by rw [bstr_size]; omega
  by_cases hz : t.length = 0
  · have hz' : ((t.length : Int) == 0) = true := by simp [hz]
    have HE : Hid (t = []) := List.eq_nil_of_length_eq_zero hz
    clear hz HP0
    go_enter Tryd.func39, Tryd.ntmps39
    go_wp2_with (go_at_call 48; refine (hcall _ _).mono ?_; rintro e w' ⟨rfl, rfl⟩)
    refine one_fin rfl rfl rfl rfl ?_
    rw [HT.out]; unfold tokWord; rw [if_pos HE.out]
    exact ⟨by decide, _, _, _, _, rfl⟩
  · have hz' : ((t.length : Int) == 0) = false := by simp; exact fun h => hz (by rw [h]; rfl)
    have HE : Hid (¬ t = []) := fun h => hz (by rw [h]; rfl)
    have HP1 := HP0 HE.out
    clear hz HP0
    have hnum := fun W => rnumeral_calls (bstr t) W (by omega)
    have hdec := fun W => rdecimal_calls (bstr t) W (by omega)
    rw [bl_bstr] at hnum hdec
    cases hD : isDigit c with
    | false =>
      rw [hD] at hdig HP1
      have HP := Lib.hid HP1
      clear HP1 hD
      go_enter Tryd.func39, Tryd.ntmps39
      go_wp2_with (first | (go_at_call 48; refine (hcall _ _).mono ?_; rintro e w' ⟨rfl, rfl⟩) | (go_at_call 50; refine (hdig _).mono ?_; rintro e w' ⟨rfl, rfl⟩))
      refine one_fin rfl rfl rfl rfl ?_
      rw [HT.out]; unfold tokWord; rw [if_neg HE.out, if_pos (by rw [HP.out]; rfl)]
      rfl
    | true =>
      rw [hD] at hdig HP1
      have HP := Lib.hid HP1
      clear HP1 hD
      cases hN : numeralB t with
      | true =>
        rw [hN] at hnum
        have HN := Lib.hid hN
        clear hN
        go_enter Tryd.func39, Tryd.ntmps39
        go_wp2_with (first | (go_at_call 48; refine (hcall _ _).mono ?_; rintro e w' ⟨rfl, rfl⟩) | (go_at_call 50; refine (hdig _).mono ?_; rintro e w' ⟨rfl, rfl⟩) | (go_at_call 51; refine (hnum _).mono ?_; rintro e w' ⟨rfl, rfl⟩))
        refine one_fin rfl rfl rfl rfl ?_
        rw [HT.out]; unfold tokWord; rw [if_neg HE.out, if_neg (by rw [HP.out]; simp), if_pos HN.out]
        rfl
      | false =>
        rw [hN] at hnum
        have HN := Lib.hid hN
        clear hN
        have HX : Hid (tokWord t = if decB t = true then .ok 7 t t.length else .err 5) := by
          show _ = _
          unfold tokWord
          rw [if_neg HE.out, if_neg (by rw [HP.out]; simp), if_neg (by rw [HN.out]; simp)]
          by_cases h : decB t = true
          · rw [if_pos h, if_pos ((decB_iff t).1 h)]
          · rw [if_neg h, if_neg (fun h' => h ((decB_iff t).2 h'))]
        cases hB : decB t with
        | true =>
          rw [hB] at hdec
          have HB := Lib.hid hB
          clear hB
          go_enter Tryd.func39, Tryd.ntmps39
          go_wp2_with (first | (go_at_call 48; refine (hcall _ _).mono ?_; rintro e w' ⟨rfl, rfl⟩) | (go_at_call 50; refine (hdig _).mono ?_; rintro e w' ⟨rfl, rfl⟩) | (go_at_call 51; refine (hnum _).mono ?_; rintro e w' ⟨rfl, rfl⟩) | (go_at_call 52; refine (hdec _).mono ?_; rintro e w' ⟨rfl, rfl⟩))
          refine one_fin rfl rfl rfl rfl ?_
          rw [HT.out, HX.out, if_pos HB.out]
          rfl
        | false =>
          rw [hB] at hdec
          have HB := Lib.hid hB
          clear hB
          go_enter Tryd.func39, Tryd.ntmps39
          go_wp2_with (first | (go_at_call 48; refine (hcall _ _).mono ?_; rintro e w' ⟨rfl, rfl⟩) | (go_at_call 50; refine (hdig _).mono ?_; rintro e w' ⟨rfl, rfl⟩) | (go_at_call 51; refine (hnum _).mono ?_; rintro e w' ⟨rfl, rfl⟩) | (go_at_call 52; refine (hdec _).mono ?_; rintro e w' ⟨rfl, rfl⟩))
          refine one_fin rfl rfl rfl rfl ?_
          rw [HT.out, HX.out, if_neg (by rw [HB.out]; simp)]
          exact ⟨by decide, _, _, _, _, rfl⟩

/-- A token: whatever its first byte. -/
theorem one_calls (A : Option Addr) (cap p : Nat) (bs : List UInt8) (w : World) (hb : Bys w A bs) (hp : p < bs.length) (hl : bs.length ≤ 1048576) (hcap : bs.length ≤ cap) :
    Calls Tryd.prog 39 #[.slice A bs.length cap, .int .i64 ((p : Nat) : Int)] w fun e w' => ROP w p (tok bs[p] (bs.drop (p + 1))) e w' := by
  by_cases h1 : bi bs[p] = 40 ∨ bi bs[p] = 41
  · exact one_paren A cap p bs w hb hp hl h1
  · by_cases h2 : bi bs[p] = 124 ∨ bi bs[p] = 34
    · exact one_quote A cap p bs w hb hp hl hcap h2
    · by_cases h3 : bi bs[p] = 58 ∨ bi bs[p] = 35
      · exact one_mark A cap p bs w hb hp hl hcap h3
      · exact one_word A cap p bs w hb hp hl hcap (by omega)
end Go.Proofs.YtppbijbgnhmdaaaDoor

/- The law LexCut: the walk. -/
import Derived.Test.YtibbmoeifpfgjaaDoorLawTokens
import Derived.Test.YtibbmoeifpfgjaaDoorLawPlain
import Derived.Test.YtibbmoeifpfgjaaDoorLexFacts
namespace Go.Proofs.YtibbmoeifpfgjaaDoor
open Go.RowKit

theorem own_cap {w : World} {base n n' c size : Nat} {e : TypeId} {A : Option Addr} {xs : List Value} (h : w.ownsRow base e size (.slice A n' c) n xs) : n ≤ c := by
  rcases h.2 with ⟨_, h0⟩ | ⟨g, cap, cur, e, _, _, hc, _⟩
  · omega
  · injection e with _ _ e; omega
theorem Bys.take {w : World} {A : Option Addr} {bs : List UInt8} (h : Bys w A bs) (n : Nat) : Bys w A (bs.take n) := ⟨fun i hi => by
  have hi' : i < bs.length := by simp at hi; omega
  obtain ⟨ad, e, hc⟩ := h.out i hi'
  exact ⟨ad, e, by simpa using hc⟩⟩
theorem run_headT (W : World) (A : Option Addr) (n cap q : Nat) (hqc : q ≤ cap) :
    (Instr.slice 24 (.slice A n cap) none (some (.int .i64 ((q : Nat) : Int))) none).run Tryd.prog W = .ok (.slice A q cap) W := by
  have hs : (sizeOf (Tryd.prog.elem 24)).run Tryd.prog W = .ok 3 W := by kernel_rfl
  rw [run_slice_h W 24 A n cap (by kernel_rfl) .i64 q (by omega) (by omega), hs]
  have e : A.map (fun x => x.add 0) = A := by cases A <;> simp [Addr.add]
  simp [Result.andThen, sliced]
  exact fun _ => e

set_option maxHeartbeats 4000000 in
theorem law_cut (A : Option Addr) (cap : Nat) (bs : List UInt8) (z : Int) (w : World) (hb : Bys w A bs) (hcap : bs.length ≤ cap) (hl : bs.length ≤ 140737488351232) :
    Calls Tryd.prog 6 #[.slice A bs.length cap, .int .i64 z] w fun e w' => e = .returned (.bool true) ∧ Below w.heap.size w w' := by
  have hk := fun W => known_calls W
  by_cases h1 : 2000 < bs.length
  · have d1 : decide ((2000 : Int) < (bs.length : Int)) = true := by simp; omega
    go_enter Tryd.func6, Tryd.ntmps6
    go_wp2_with fail
    refine (hk _).mono ?_
    rintro e w' ⟨rfl, hbel⟩
    go_wp2
    go_ret
    exact ⟨rfl, hbel⟩
  · have d1 : decide ((2000 : Int) < (bs.length : Int)) = false := by simp; omega
    have hcut := Lib.hid (lex_cut bs (by omega))
    have hcount := Lib.hid (Nat.le_trans (lex_count bs) (show bs.length ≤ 2000 by omega))
    have htk := tokens_calls A cap bs w hb hcap hl
    go_enter Tryd.func6, Tryd.ntmps6
    go_wp2_with fail
    refine htk.mono ?_
    clear htk
    rintro e w2 ⟨v, rfl, hown, hb2⟩
    generalize lexB bs = R at hown hcut hcount ⊢
    obtain ⟨T, q, er⟩ := R
    simp only at hown
    obtain ⟨A2, c2, rfl, hT⟩ := tks_new hown rfl
    simp only
    by_cases hz : T.length = 0
    · rw [hz]
      go_wp2_with fail
      refine (hk _).mono ?_
      rintro e w' ⟨rfl, hb3⟩
      go_wp2
      go_ret
      exact ⟨rfl, gb_none (gb_trans (gb_below hb2 none) (gb_below hb3 none))⟩
    · have hz1 : ((T.length : Int) == 0) = false := by simp; exact fun e => hz (by rw [e]; rfl)
      have hcl := hcount.out
      simp only at hcl
      have u1 : IntKind.u64.wrap (T.length : Int) = (T.length : Int) := by rw [IntKind.wrap_u64]; omega
      obtain ⟨k, hk1, hk2⟩ : ∃ k : Nat, k < T.length ∧ (IntKind.u64.wrap z).tmod (T.length : Int) = (k : Int) := by
        have h0 : 0 ≤ IntKind.u64.wrap z := wrap_u64_nonneg z
        have h2 : (0 : Int) < (T.length : Int) := by omega
        have h3 := Int.emod_nonneg (IntKind.u64.wrap z) (show (T.length : Int) ≠ 0 by omega)
        have h4 := Int.emod_lt_of_pos (IntKind.u64.wrap z) h2
        refine ⟨((IntKind.u64.wrap z) % (T.length : Int)).toNat, by omega, ?_⟩
        rw [Int.tmod_eq_emod_of_nonneg h0]; omega
      have hz2 : ¬ (T.length : Int) = 0 := by omega
      have u3 : wrap64 (k : Int) = (k : Int) := IntWalk.wrap64_in _ (by omega)
      obtain ⟨h3, h4⟩ := hcut.out k hk1
      have hc2 : T.length ≤ c2 := own_cap hown
      obtain ⟨g, o, rfl, a0, a1, a2⟩ := hT.out k hk1
      generalize hat : (T[k]).at_ = at0 at h3 h4 a2
      have hlen : (bs.take at0).length = at0 := by simp; omega
      have hlk : (T.take k).length = k := by simp; omega
      have htk := tokens_calls A cap (bs.take at0) w2 ((hb.below hb2).take at0) (by omega) (by omega)
      rw [hlen, h4] at htk
      have hsl := fun W => run_headT W (some ⟨g, o, none⟩) T.length c2 k (by omega)
      clear hown hcut hcount h4 hat a0 a1
      go_wp2_with fail
      refine htk.mono ?_
      clear htk
      rintro e w3 ⟨v3, rfl, hown3, hb3⟩
      simp only at hown3
      obtain ⟨A3, c3, rfl, hT3⟩ := tks_new hown3 rfl
      have hsame := same_calls A3 (some ⟨g, o, none⟩) c3 c2 (T.take k) w3 hT3 ((hT.below hb3).take k) (by omega)
      rw [hlk] at hsame
      simp only
      rw [hlk]
      have a2' := (hb3.cell (World.block_lt_of_cell? w2 _ a2)).trans a2
      have HB3 := Lib.hid (gb_none (gb_trans (gb_below hb2 none) (gb_below hb3 none)))
      clear hown3 hT3 hb2 hb3
      go_wp2_with fail
      refine hsame.mono ?_
      rintro e w4 ⟨rfl, m, rfl⟩
      go_wp2_with fail
      refine (hk _).mono ?_
      rintro e w' ⟨rfl, hb5⟩
      go_wp2
      go_ret
      exact ⟨rfl, gb_none (gb_trans (gb_below (pw_drewN HB3.out m) none) (gb_below hb5 none))⟩
end Go.Proofs.YtibbmoeifpfgjaaDoor

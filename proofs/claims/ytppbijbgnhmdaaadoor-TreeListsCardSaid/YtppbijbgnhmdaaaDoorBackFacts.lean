/- A tree's text is read as that tree; the trees that any bytes are read as have texts. Plain Lean. -/
import Derived.Test.YtppbijbgnhmdaaaDoorListFacts
import Derived.Test.YtppbijbgnhmdaaaDoorTreeFacts
namespace Go.Proofs.YtppbijbgnhmdaaaDoor
open Go.RowKit Forest

def kt (t : Tok) : Int × List UInt8 := (t.kind, t.text)
def kti (t : TokI) : Int × List UInt8 := (t.kind, t.text)
/-- A row of trees as tokens. -/
def flatF : Forest → List (Int × List UInt8)
  | .nil => []
  | .cons l k x _ kids rest => (k, x) :: ((if l then flatF kids ++ [(2, [41])] else []) ++ flatF rest)
/-- May a row of trees be one that is read out of tokens? -/
def WfF : Forest → Prop
  | .nil => True
  | .cons l k _ _ kids rest => (if l then k = 1 ∧ WfF kids else k ≠ 1 ∧ k ≠ 2 ∧ kids = .nil) ∧ WfF rest

theorem okTok_again {k : Int} {x : List UInt8} (h : okTok k x = true) : Again k x (retext k x) := by
  have hl : (retext k x).length ≤ 1048576 := by
    rcases Nat.lt_or_ge 1048576 (retext k x).length with h1 | h1
    · have e : lexB (retext k x) = ([], 0, 3) := if_pos h1
      simp [okTok, e] at h
    · exact h1
  unfold okTok at h
  simp only [Bool.and_eq_true, beq_iff_eq, decide_eq_true_eq] at h
  obtain ⟨_, h1, h2, h3, _⟩ := h
  have ha := (lex_again _ hl).1
  cases hT : (lexB (retext k x)).1 with
  | nil => rw [hT] at h1; simp at h1
  | cons t r =>
    rw [hT] at h2 h3 ha
    have e2 : t.kind = k := by simpa using h2
    have e3 : t.text = x := by simpa using h3
    have := ha t (by simp)
    rwa [e2, e3] at this
theorem toksL_again {k : Int} {x w rest : List UInt8} (h : Again k x w) (hr : Ends rest) (p : Nat) : toksL p (w ++ rest) = ({ kind := k, text := x, at_ := p } :: (toksL (p + w.length) rest).1, (toksL (p + w.length) rest).2) := by
  obtain ⟨c, r, rfl, hb, hs, ht⟩ := h.out
  have h1 := ht rest hr
  rw [List.cons_append, toksL_tok p c _ hb hs h1]
  have e : (c :: (r ++ rest)).drop (c :: r).length = rest := by simp
  rw [e]
theorem wr_ends {F : Forest} {r rest : List UInt8} (h : wrF F false = some r) (hr : Ends rest) : Ends (r ++ rest) := by
  cases F with
  | nil =>
    have : [] = r := Option.some.inj h
    subst this; exact hr
  | cons l k x a kids rs =>
    rw [wrF_cons] at h
    cases hT : wrT l k x kids with
    | none => rw [hT] at h; cases h
    | some t =>
      rw [hT] at h
      simp only at h
      cases hR : wrF rs false with
      | none => rw [hR] at h; cases h
      | some u =>
        rw [hR] at h
        simp only [Option.some.injEq, Bool.false_eq_true, if_false, List.cons_append, List.nil_append] at h
        subst h
        exact ends_of 32 _ (by decide) (by decide) rest
theorem lex_flat : ∀ (F : Forest) (first : Bool) (s rest : List UInt8) (p : Nat), wrF F first = some s → Ends rest →
    ∃ L, toksL p (s ++ rest) = (L ++ (toksL (p + s.length) rest).1, (toksL (p + s.length) rest).2) ∧ L.map kt = flatF F
  | .nil, first, s, rest, p, h, hr => by
    have : [] = s := Option.some.inj h
    subst this
    exact ⟨[], rfl, rfl⟩
  | .cons l k x a kids rs, first, s, rest, p, h, hr => by
    rw [wrF_cons] at h
    cases hT : wrT l k x kids with
    | none => rw [hT] at h; cases h
    | some t =>
      rw [hT] at h
      simp only at h
      cases hR : wrF rs false with
      | none => rw [hR] at h; cases h
      | some r =>
        rw [hR] at h
        simp only [Option.some.injEq] at h
        have hE := wr_ends hR hr
        have one : ∀ p, ∃ L1, toksL p (t ++ (r ++ rest)) = (L1 ++ (toksL (p + t.length) (r ++ rest)).1, (toksL (p + t.length) (r ++ rest)).2) ∧ L1.map kt = (k, x) :: (if l then flatF kids ++ [(2, [41])] else []) := fun p => by
          unfold wrT at hT
          cases l with
          | false =>
            simp only [Bool.false_eq_true, if_false] at hT
            split at hT
            · rename_i hok
              have : retext k x = t := Option.some.inj hT
              subst this
              exact ⟨[⟨k, x, p⟩], by rw [toksL_again (okTok_again hok.1) hE]; rfl, rfl⟩
            · cases hT
          | true =>
            simp only [if_true] at hT
            split at hT
            · rename_i hk
              obtain ⟨rfl, rfl⟩ := hk
              cases hK : wrF kids true with
              | none => rw [hK] at hT; cases hT
              | some u =>
                rw [hK] at hT
                simp only [Option.map_some, Option.some.injEq] at hT
                subst hT
                obtain ⟨L2, h1, h2⟩ := lex_flat kids true u (41 :: (r ++ rest)) (p + 1) hK (ends_of 41 [] (by decide) (by decide) _)
                refine ⟨⟨1, [40], p⟩ :: (L2 ++ [⟨2, [41], p + 1 + u.length⟩]), ?_, by simp [h2, kt]⟩
                have e : 40 :: (u ++ [41]) ++ (r ++ rest) = 40 :: (u ++ 41 :: (r ++ rest)) := by simp
                have el : p + (40 :: (u ++ [41])).length = p + 1 + u.length + 1 := by simp; omega
                have e4 := toksL_tok (p + 1 + u.length) 41 (r ++ rest) (by decide) (by decide) (tok_close (r ++ rest) (by decide))
                rw [List.drop_succ_cons, List.drop_zero] at e4
                have e5 := toksL_tok p 40 (u ++ 41 :: (r ++ rest)) (by decide) (by decide) (tok_open (u ++ 41 :: (r ++ rest)) (by decide))
                rw [List.drop_succ_cons, List.drop_zero] at e5
                rw [e, e5, h1, e4, el]
                simp
            · cases hT
        obtain ⟨L3, h3, h4⟩ := lex_flat rs false r rest ((if first then p else p + 1) + t.length) hR hr
        obtain ⟨L1, h1, h2⟩ := one (if first then p else p + 1)
        refine ⟨L1 ++ L3, ?_, by simp [h2, h4, flatF]⟩
        subst h
        cases first with
        | true =>
          simp only [if_true] at h1 h3 ⊢
          have e : [] ++ t ++ r ++ rest = t ++ (r ++ rest) := by simp
          have el : p + ([] ++ t ++ r : List UInt8).length = p + t.length + r.length := by simp; omega
          rw [e, h1, h3, el]
          simp
        | false =>
          simp only [Bool.false_eq_true, if_false] at h1 h3 ⊢
          have e : [32] ++ t ++ r ++ rest = 32 :: (t ++ (r ++ rest)) := by simp
          have el : p + ([32] ++ t ++ r : List UInt8).length = p + 1 + t.length + r.length := by simp; omega
          rw [e, toksL_blank p 32 _ (by decide), h1, h3, el]
          simp
theorem wr_wf : ∀ (F : Forest) (first : Bool) (s : List UInt8), wrF F first = some s → WfF F
  | .nil, _, _, _ => trivial
  | .cons l k x a kids rs, first, s, h => by
    rw [wrF_cons] at h
    cases hT : wrT l k x kids with
    | none => rw [hT] at h; cases h
    | some t =>
      rw [hT] at h
      simp only at h
      cases hR : wrF rs false with
      | none => rw [hR] at h; cases h
      | some r =>
        refine ⟨?_, wr_wf rs false r hR⟩
        unfold wrT at hT
        cases l with
        | false =>
          simp only [Bool.false_eq_true, if_false] at hT ⊢
          split at hT
          · rename_i hok
            have hk := okTok_kinds hok.1
            refine ⟨by omega, by omega, ?_⟩
            cases kids with
            | nil => rfl
            | cons _ _ _ _ _ _ => exact absurd hok.2 (by simp [Forest.len])
          · cases hT
        | true =>
          simp only [if_true] at hT ⊢
          split at hT
          · rename_i hk
            cases hK : wrF kids true with
            | none => rw [hK] at hT; cases hT
            | some u => exact ⟨hk.1, wr_wf kids true u hK⟩
          · cases hT
/-- The tokens of a row of trees are read as that row. -/
theorem kids_flat : ∀ (F : Forest), WfF F → ∀ (L R : List TokI), L.map kti = flatF F → ∃ F', eqF F F' = true ∧ depF F' = depF F ∧ kidsL (L ++ R) = (kidsL R).map (fun q => (F'.app q.1, L.length + q.2))
  | .nil, _, L, R, h => by
    have : L = [] := by
      cases L with
      | nil => rfl
      | cons _ _ => simp [flatF] at h
    subst this
    refine ⟨.nil, rfl, rfl, ?_⟩
    rw [List.nil_append]
    cases kidsL R with
    | none => rfl
    | some q => simp [app]
  | .cons l k x a kids rs, hw, L, R, h => by
    obtain ⟨hw1, hw2⟩ := hw
    cases L with
    | nil => simp [flatF] at h
    | cons t L' =>
      simp only [flatF, List.map_cons, List.cons.injEq, kti, Prod.mk.injEq] at h
      obtain ⟨⟨rfl, rfl⟩, h⟩ := h
      cases l with
      | false =>
        simp only [Bool.false_eq_true, if_false, List.nil_append] at h hw1
        obtain ⟨h1, h2, rfl⟩ := hw1
        obtain ⟨F2, e1, e2, e3⟩ := kids_flat rs hw2 L' R h
        refine ⟨(leafT t).f.app F2, ?_, ?_, ?_⟩
        · simp [leafT, Tr.f, app, eqF, e1]
        · simp [leafT, Tr.f, app, depF, e2]
        · rw [List.cons_append, kidsL_cons, if_neg h1, if_neg h2, e3]
          cases kidsL R with
          | none => rfl
          | some q =>
            simp only [Option.map_some, List.length_cons, Forest.app_assoc, Option.some.injEq, Prod.mk.injEq, true_and]
            omega
      | true =>
        simp only [if_true, List.append_assoc] at h hw1
        obtain ⟨h1, h2⟩ := hw1
        obtain ⟨Lk, Lc, rfl, hk, hc⟩ := List.map_eq_append_iff.1 h
        obtain ⟨c, Lr, rfl, hc1, hc2⟩ := List.map_eq_cons_iff.1 hc
        have hck : c.kind = 2 := congrArg Prod.fst hc1
        obtain ⟨Fk, k1, k2, k3⟩ := kids_flat kids h2 Lk (c :: (Lr ++ R)) hk
        obtain ⟨F2, e1, e2, e3⟩ := kids_flat rs hw2 Lr R hc2
        rw [kidsL_close c _ hck] at k3
        simp only [Option.map_some, Forest.app_nil] at k3
        refine ⟨(nodeT t Fk).f.app F2, ?_, ?_, ?_⟩
        · simp [nodeT, Tr.f, app, eqF, e1, k1]
        · simp [nodeT, Tr.f, app, depF, e2, k2]
        · have ea : t :: (Lk ++ c :: Lr) ++ R = t :: (Lk ++ c :: (Lr ++ R)) := by simp
          have ed : (Lk ++ c :: (Lr ++ R)).drop (Lk.length + 1) = Lr ++ R := by
            rw [List.drop_append]; simp
          rw [ea, kidsL_cons, if_pos h1, k3]
          simp only [ed, e3]
          cases kidsL R with
          | none => rfl
          | some q =>
            simp only [Option.map_some, List.length_cons, List.length_append, Forest.app_assoc, Option.some.injEq, Prod.mk.injEq, true_and]
            omega
theorem one_flat (T : Tr) (hw : WfF T.f) (L : List TokI) (h : L.map kti = flatF T.f) : ∃ U, oneL L = some (U, L.length) ∧ eqT T.l T.k T.x T.F U.l U.k U.x U.F = true ∧ depF U.f = depF T.f := by
  obtain ⟨l, k, x, a, F⟩ := T
  obtain ⟨hw1, -⟩ := hw
  cases L with
  | nil => simp [flatF, Tr.f] at h
  | cons t L' =>
    simp only [flatF, Tr.f, List.map_cons, List.cons.injEq, kti, Prod.mk.injEq, List.append_nil] at h
    obtain ⟨⟨rfl, rfl⟩, h⟩ := h
    cases l with
    | false =>
      simp only [Bool.false_eq_true, if_false] at h hw1
      obtain ⟨h1, h2, rfl⟩ := hw1
      have : L' = [] := by
        cases L' with
        | nil => rfl
        | cons _ _ => simp at h
      subst this
      refine ⟨leafT t, ?_, ?_, ?_⟩
      · unfold oneL; simp only [if_neg h1, List.length_cons, List.length_nil]
      · simp [leafT, eqT, eqF]
      · simp [leafT, Tr.f, depF]
    | true =>
      simp only [if_true] at h hw1
      obtain ⟨h1, h2⟩ := hw1
      obtain ⟨Lk, Lc, rfl, hk, hc⟩ := List.map_eq_append_iff.1 h
      obtain ⟨c, Lr, rfl, hc1, hc2⟩ := List.map_eq_cons_iff.1 hc
      have : Lr = [] := by
        cases Lr with
        | nil => rfl
        | cons _ _ => simp at hc2
      subst this
      have hck : c.kind = 2 := congrArg Prod.fst hc1
      obtain ⟨Fk, k1, k2, k3⟩ := kids_flat F h2 Lk [c] hk
      rw [kidsL_close c _ hck] at k3
      simp only [Option.map_some, Forest.app_nil] at k3
      refine ⟨nodeT t Fk, ?_, ?_, ?_⟩
      · unfold oneL
        simp only [if_pos h1, k3, List.length_cons, List.length_append, List.length_nil]
      · simp [nodeT, eqT, k1]
      · simp [nodeT, Tr.f, depF, k2]
theorem dep_tree (T : Tr) : depT T.l 0 T.F ≤ 200 ↔ depF T.f ≤ 200 := by
  obtain ⟨l, k, x, a, F⟩ := T
  cases l with
  | false => simp [depT, Tr.f, depF]
  | true =>
    have := (dep_list F).1
    simp only [Tr.f, depF, if_true]
    rw [this]
    omega
/-- Tokens that are a tree's are read as it. -/
theorem read_flat (T : Tr) (hw : WfF T.f) (hd : depF T.f ≤ 200) (L : List Tok) (h : L.map kt = flatF T.f) : ∃ U, nextS (L.map Tok.i) 0 = (U, (L.length : Int), 0) ∧ eqT T.l T.k T.x T.F U.l U.k U.x U.F = true := by
  have hm : (L.map Tok.i).map kti = flatF T.f := by rw [← h, List.map_map]; rfl
  obtain ⟨U, h1, h2, h3⟩ := one_flat T hw _ hm
  refine ⟨U, ?_, h2⟩
  have h0 := nextS_nat (L.map Tok.i) 0 (Nat.zero_le _)
  rw [List.drop_zero] at h0
  have h0' : nextS (L.map Tok.i) 0 = nextT (L.map Tok.i) 0 ((L.map Tok.i).length : Int) := h0
  rw [h0']
  cases hL : L.map Tok.i with
  | nil => rw [hL] at h1; cases h1
  | cons t r =>
    rw [hL] at h1 hm
    have hk2 : t.kind ≠ 2 := by
      have e : t.kind = T.k := by
        have := (List.cons.injEq _ _ _ _ ▸ hm : (kti t = (T.k, T.x)) ∧ _).1
        exact congrArg Prod.fst this
      obtain ⟨hw1, -⟩ := hw
      rw [e]
      split at hw1
      · rw [hw1.1]; decide
      · exact hw1.2.1
    rw [nextT_one t r _ _ hk2 h1, if_neg (by rw [h3]; omega), ← hL]
    simp
theorem text_flat (T : Tr) {s : List UInt8} (h : wrT T.l T.k T.x T.F = some s) : wrF T.f true = some s ∧ WfF T.f := by
  have e : wrF T.f true = some s := by
    unfold Tr.f
    rw [wrF_cons, h]; simp [wrF]
  exact ⟨e, wr_wf _ _ _ e⟩
/-- A tree's text, with blanks about it, is read as that tree. -/
theorem text_back (T : Tr) {s : List UInt8} (h : wrT T.l T.k T.x T.F = some s) (hd : depT T.l 0 T.F ≤ 200) (hl : s.length ≤ 1000000) :
    ∃ L q U, lexB (32 :: (s ++ [10])) = (L, q, 0) ∧ nextS (L.map Tok.i) 0 = (U, (L.length : Int), 0) ∧ eqT T.l T.k T.x T.F U.l U.k U.x U.F = true := by
  obtain ⟨e, hw⟩ := text_flat T h
  obtain ⟨L, h1, h2⟩ := lex_flat T.f true s [10] (0 + 1) e (ends_of 10 [] (by decide) (by decide) [])
  obtain ⟨U, h3, h4⟩ := read_flat T hw ((dep_tree T).1 hd) L h2
  refine ⟨L, 0 + 1 + s.length + 1, U, ?_, h3, h4⟩
  rw [lexB_toksL _ (by simp; omega), toksL_blank 0 32 _ (by decide), h1, toksL_blank _ 10 _ (by decide), toksL_nil, List.append_nil]
/-- A tree's text alone. -/
theorem text_back0 (T : Tr) {s : List UInt8} (h : wrT T.l T.k T.x T.F = some s) (hd : depT T.l 0 T.F ≤ 200) (hl : s.length ≤ 1000000) :
    ∃ L q U, lexB s = (L, q, 0) ∧ nextS (L.map Tok.i) 0 = (U, (L.length : Int), 0) ∧ eqT T.l T.k T.x T.F U.l U.k U.x U.F = true := by
  obtain ⟨e, hw⟩ := text_flat T h
  obtain ⟨L, h1, h2⟩ := lex_flat T.f true s [] 0 e Ends.nil
  obtain ⟨U, h3, h4⟩ := read_flat T hw ((dep_tree T).1 hd) L h2
  refine ⟨L, 0 + s.length, U, ?_, h3, h4⟩
  rw [List.append_nil] at h1
  rw [lexB_toksL _ (by omega), h1, toksL_nil, List.append_nil]
theorem eqF_comm : ∀ F G : Forest, eqF F G = eqF G F
  | .nil, .nil => rfl
  | .nil, .cons _ _ _ _ _ _ => rfl
  | .cons _ _ _ _ _ _, .nil => rfl
  | .cons l k x a kids rest, .cons l' k' x' a' kids' rest' => by
    unfold eqF
    rw [eqF_comm kids kids', eqF_comm rest rest', Bool.beq_comm (a := l), Bool.beq_comm (a := k), Bool.beq_comm (a := x)]
theorem eqT_comm (l : Bool) (k : Int) (x : List UInt8) (F : Forest) (l' : Bool) (k' : Int) (x' : List UInt8) (G : Forest) : eqT l k x F l' k' x' G = eqT l' k' x' G l k x F := by
  unfold eqT
  rw [eqF_comm F G, Bool.beq_comm (a := l), Bool.beq_comm (a := k), Bool.beq_comm (a := x)]

/-- Was a row of trees read out of tokens of bytes? -/
def RdF : Forest → Prop
  | .nil => True
  | .cons l k x _ kids rest => (if l then k = 1 ∧ x = [40] ∧ RdF kids else okTok k x = true ∧ kids = .nil) ∧ RdF rest
theorem rd_wr : ∀ (F : Forest), RdF F → ∀ first, ∃ s, wrF F first = some s
  | .nil, _, _ => ⟨[], rfl⟩
  | .cons l k x a kids rs, h, first => by
    obtain ⟨h1, h2⟩ := h
    obtain ⟨r, hr⟩ := rd_wr rs h2 false
    rw [wrF_cons, hr]
    have ht : ∃ t, wrT l k x kids = some t := by
      unfold wrT
      cases l with
      | false =>
        simp only [Bool.false_eq_true, if_false] at h1 ⊢
        obtain ⟨h3, rfl⟩ := h1
        exact ⟨_, if_pos ⟨h3, rfl⟩⟩
      | true =>
        simp only [if_true] at h1 ⊢
        obtain ⟨u, hu⟩ := rd_wr kids h1.2.2 true
        rw [if_pos ⟨h1.1, h1.2.1⟩, hu]
        exact ⟨_, rfl⟩
    obtain ⟨t, ht⟩ := ht
    rw [ht]
    exact ⟨_, rfl⟩
theorem RdF.app : ∀ {F G : Forest}, RdF F → RdF G → RdF (F.app G)
  | .nil, _, _, h => h
  | .cons _ _ _ _ _ _, _, ⟨h1, h2⟩, h => ⟨h1, RdF.app h2 h⟩
theorem tsz_app : ∀ F G : Forest, tsz (F.app G) = tsz F + tsz G
  | .nil, G => by simp [app, tsz]
  | .cons _ _ _ _ kids rest, G => by simp only [app, tsz, tsz_app rest G]; omega
/-- A token of bytes. -/
def GoodTok (t : TokI) : Prop := (t.kind = 1 → t.text = [40]) ∧ (t.kind ≠ 1 → t.kind ≠ 2 → okTok t.kind t.text = true)
/-- How much some tokens weigh. -/
def tkw (l : List TokI) : Nat := (l.map fun t => 1 + t.text.length / 8).sum
theorem tkw_cons (t : TokI) (r : List TokI) : tkw (t :: r) = 1 + t.text.length / 8 + tkw r := by simp [tkw]
theorem tkw_take_drop : ∀ (l : List TokI) (i j : Nat), tkw (l.take i) + tkw ((l.drop i).take j) = tkw (l.take (i + j))
  | l, 0, j => by simp [tkw]
  | [], i + 1, j => by simp [tkw]
  | t :: r, i + 1, j => by
    have e : i + 1 + j = (i + j) + 1 := by omega
    rw [e, List.take_succ_cons, List.take_succ_cons, List.drop_succ_cons, tkw_cons, tkw_cons, ← tkw_take_drop r i j]
    omega
theorem tkw_split (l : List TokI) (i : Nat) : tkw (l.take i) + tkw (l.drop i) = tkw l := by
  have := tkw_take_drop l i (l.length)
  have e1 : (l.drop i).take l.length = l.drop i := List.take_of_length_le (by rw [List.length_drop]; omega)
  have e2 : l.take (i + l.length) = l := List.take_of_length_le (by omega)
  rw [e1, e2] at this
  exact this
theorem kids_rd : ∀ (m : Nat) (l : List TokI), l.length ≤ m → (∀ t ∈ l, GoodTok t) → ∀ (G : Forest) (j : Nat), kidsL l = some (G, j) → RdF G ∧ tsz G ≤ tkw (l.take j)
  | m, [], _, _, G, j, h => by simp [kidsL, kidsOf] at h
  | 0, t :: r, h, _, _, _, _ => by simp at h
  | m + 1, t :: r, hm, hg, G, j, h => by
    have hgt := hg t (by simp)
    have hgr : ∀ u ∈ r, GoodTok u := fun u hu => hg u (by simp [hu])
    rw [kidsL_cons] at h
    by_cases h1 : t.kind = 1
    · simp only [if_pos h1] at h
      cases hq : kidsL r with
      | none => simp [hq] at h
      | some p =>
        obtain ⟨G1, j1⟩ := p
        simp only [hq] at h
        cases hq2 : kidsL (r.drop j1) with
        | none => simp [hq2] at h
        | some p2 =>
          obtain ⟨H, i⟩ := p2
          simp only [hq2] at h
          cases h
          obtain ⟨a1, a2⟩ := kids_rd m r (by simpa using hm) hgr G1 j1 hq
          obtain ⟨b1, b2⟩ := kids_rd m (r.drop j1) (by simp at hm ⊢; omega) (fun u hu => hgr u (List.mem_of_mem_drop hu)) H i hq2
          refine ⟨?_, ?_⟩
          · refine ⟨?_, ?_⟩
            · simp only [nodeT, if_true]
              exact ⟨h1, hgt.1 h1, a1⟩
            · exact b1
          · have e : 1 + j1 + i = (j1 + i) + 1 := by omega
            rw [e, List.take_succ_cons, tkw_cons, ← tkw_take_drop r j1 i, tsz_app]
            have e2 : tsz (nodeT t G1).f = 1 + t.text.length / 8 + tsz G1 := by simp [nodeT, Tr.f, tsz]
            rw [e2]; omega
    · simp only [if_neg h1] at h
      by_cases h2 : t.kind = 2
      · simp only [if_pos h2] at h
        cases h
        exact ⟨trivial, Nat.zero_le _⟩
      · simp only [if_neg h2] at h
        cases hq : kidsL r with
        | none => simp [hq] at h
        | some p =>
          obtain ⟨H, i⟩ := p
          simp only [hq] at h
          cases h
          obtain ⟨a1, a2⟩ := kids_rd m r (by simpa using hm) hgr H i hq
          refine ⟨?_, ?_⟩
          · refine ⟨?_, a1⟩
            simp only [leafT, Bool.false_eq_true, if_false]
            exact ⟨hgt.2 h1 h2, trivial⟩
          · rw [Nat.add_comm 1 i, List.take_succ_cons, tkw_cons, tsz_app]
            have e2 : tsz (leafT t).f = 1 + t.text.length / 8 := by simp [leafT, Tr.f, tsz]
            rw [e2]; omega
theorem one_rd {l : List TokI} (hg : ∀ t ∈ l, GoodTok t) {T : Tr} {j : Nat} (h2 : ∀ t r, l = t :: r → t.kind ≠ 2) (h : oneL l = some (T, j)) : RdF T.f ∧ tsz T.f ≤ tkw (l.take j) := by
  cases l with
  | nil => cases h
  | cons t r =>
    have hk2 := h2 t r rfl
    have hgt := hg t (by simp)
    unfold oneL at h
    by_cases h1 : t.kind = 1
    · simp only [if_pos h1] at h
      cases hq : kidsL r with
      | none => simp [hq] at h
      | some p =>
        obtain ⟨G, i⟩ := p
        simp only [hq] at h
        cases h
        obtain ⟨a1, a2⟩ := kids_rd _ r (Nat.le_refl _) (fun u hu => hg u (by simp [hu])) G i hq
        refine ⟨⟨?_, trivial⟩, ?_⟩
        · simp only [nodeT, if_true]
          exact ⟨h1, hgt.1 h1, a1⟩
        · rw [List.take_succ_cons, tkw_cons]
          have e2 : tsz (nodeT t G).f = 1 + t.text.length / 8 + tsz G := by simp [nodeT, Tr.f, tsz]
          rw [e2]; omega
    · simp only [if_neg h1] at h
      cases h
      refine ⟨⟨?_, trivial⟩, ?_⟩
      · simp only [leafT, Bool.false_eq_true, if_false]
        exact ⟨hgt.2 h1 hk2, trivial⟩
      · have e2 : tsz (leafT t).f = 1 + t.text.length / 8 := by simp [leafT, Tr.f, tsz]
        rw [e2, List.take_succ_cons, tkw_cons]; omega
/-- Something of each tree of a row. -/
def AllT (P : Tr → Prop) : Forest → Prop
  | .nil => True
  | .cons l k x a kids rest => P ⟨l, k, x, a, kids⟩ ∧ AllT P rest
/-- What is known of a tree that was read. -/
def GoodTr (T : Tr) : Prop := tsz T.f ≤ 5000 ∧ ((RdF T.f ∧ depF T.f ≤ 200) ∨ T = deepTr)
theorem all_rd : ∀ (m : Nat) (l : List TokI), l.length ≤ m → (∀ t ∈ l, GoodTok t) → tkw l ≤ 5000 → ∀ p, AllT GoodTr (allL l p).1
  | m, [], _, _, _, p => by rw [allL_nil]; trivial
  | 0, t :: r, h, _, _, _ => by simp at h
  | m + 1, t :: r, hm, hg, hw, p => by
    by_cases hk : t.kind = 2
    · rw [allL_close t r p hk]; trivial
    · cases hq : oneL (t :: r) with
      | none => rw [allL_short t r p hk hq]; trivial
      | some q =>
        obtain ⟨T, j⟩ := q
        rw [allL_one t r p hk hq]
        have hj := oneL_le hq
        obtain ⟨a1, a2⟩ := one_rd hg (fun t' r' e => by injection e with e1 _; subst e1; exact hk) hq
        have hs := tkw_split (t :: r) j
        have ih := all_rd m ((t :: r).drop j) (by simp at hm ⊢; omega) (fun u hu => hg u (List.mem_of_mem_drop hu)) (by omega) (p + j)
        by_cases hd : 200 < depF T.f
        · simp only [if_pos hd]
          exact ⟨⟨by simp [Tr.f, deepTr, tsz], .inr rfl⟩, ih⟩
        · simp only [if_neg hd]
          exact ⟨⟨by show tsz T.f ≤ 5000; omega, .inl ⟨a1, by show depF T.f ≤ 200; omega⟩⟩, ih⟩
theorem tok_knd (c : UInt8) (r : List UInt8) {k : Int} {x : List UInt8} {n : Nat} (h : tok c r = .ok k x n) : 1 ≤ k ∧ (k = 1 → x = [40]) := by
  unfold tok at h
  split at h
  · cases h; exact ⟨by omega, fun _ => rfl⟩
  · split at h
    · cases h; exact ⟨by omega, fun e => by omega⟩
    · split at h
      · cases hq : qscan c r with
        | err e => rw [hq] at h; cases h
        | ok t m =>
          rw [hq] at h
          unfold tokQuote at h
          injection h with h1 h2 h3
          split at h1 <;> (subst h1; exact ⟨by omega, fun e => by omega⟩)
      · split at h
        · unfold tokMark at h
          repeat' (split at h)
          all_goals first | (injection h with h1 h2 h3; subst h1; exact ⟨by omega, fun e => by omega⟩) | (cases h; done)
        · unfold tokWord at h
          repeat' (split at h)
          all_goals first | (injection h with h1 h2 h3; subst h1; exact ⟨by omega, fun e => by omega⟩) | (cases h; done)
theorem again_good {k : Int} {x : List UInt8} {a : Int} (h : Again k x (retext k x)) (hl : (retext k x).length ≤ 1048576) : GoodTok ⟨k, x, a⟩ := by
  obtain ⟨c, r, e, hb, hs, ht⟩ := h.out
  obtain ⟨h1, h2⟩ := tok_knd _ _ (ht [] Ends.nil)
  refine ⟨h2, fun n1 n2 => ?_⟩
  have ha := lex_alone h hl
  have h3 : 3 ≤ k := by
    have n1' : k ≠ 1 := n1
    have n2' : k ≠ 2 := n2
    omega
  show okTok k x = true
  unfold okTok
  rw [ha]
  simp [h3]
theorem sum_le {α : Type} (f g : α → Nat) : ∀ (l : List α), (∀ t ∈ l, f t ≤ g t) → (l.map f).sum ≤ (l.map g).sum
  | [], _ => Nat.le_refl _
  | t :: r, h => by
    have h1 := h t (by simp)
    have h2 := sum_le f g r (fun u hu => h u (by simp [hu]))
    simp only [List.map_cons, List.sum_cons]; omega
theorem bytes_le_sum : ∀ {l : List Nat} {n : Nat}, n ∈ l → n ≤ l.sum
  | [], n, h => by cases h
  | a :: r, n, h => by
    rw [List.sum_cons]
    rcases List.mem_cons.1 h with rfl | h
    · omega
    · have := bytes_le_sum h; omega
/-- The tokens of bytes. -/
theorem bytes_good (bs : List UInt8) (h : bs.length ≤ 5000) : (∀ t ∈ (lexB bs).1.map Tok.i, GoodTok t) ∧ tkw ((lexB bs).1.map Tok.i) ≤ 5000 ∧ (lexB bs).1.length ≤ 5000 := by
  obtain ⟨h1, h2, h3⟩ := lex_again bs (by omega)
  refine ⟨fun t ht => ?_, ?_, by omega⟩
  · obtain ⟨u, hu, rfl⟩ := List.mem_map.1 ht
    refine again_good (h1 u hu) ?_
    have := bytes_le_sum (List.mem_map.2 ⟨u, hu, rfl⟩ : (retext u.kind u.text).length ∈ (lexB bs).1.map fun t => (retext t.kind t.text).length)
    omega
  · unfold tkw
    rw [List.map_map]
    refine Nat.le_trans (sum_le _ _ _ fun t ht => ?_) (Nat.le_trans h2 h)
    obtain ⟨c, r, e, _⟩ := (h1 t ht).out
    have hge := retext_ge t.kind t.text
    have hpos : 0 < (retext t.kind t.text).length := by rw [e]; simp
    show 1 + (t.text).length / 8 ≤ _
    omega
theorem fine_tsz {F : Forest} {x : List UInt8} (h0 : 1 + x.length / 8 + tsz F ≤ 5000) : Fine x F ∧ wgtT x F ≤ 1000000 := by
  obtain ⟨h1, h2, h3⟩ := tsz_fits F (by omega)
  have hl := tsz_len F
  have hh := tsz_hgt F
  have hw := tsz_wgt F
  refine ⟨⟨by omega, h1, h2, h3, by omega, by omega, by unfold wgtT; omega, fun l k a f d => ?_⟩, by unfold wgtT; omega⟩
  have hp := tsz_parts F true (d + 1)
  unfold partsT
  cases l <;> simp <;> omega
/-- What the law wants of a tree that was read. -/
theorem good_tree {T : Tr} (h : GoodTr T) : Fine T.x T.F ∧
    ((∃ s M q U, s.length ≤ 1000000 ∧ textS T.l T.k T.x T.F (decide (200 < depT T.l 0 T.F)) = (s, 0) ∧ lexB s = (M, q, 0) ∧ nextS (M.map Tok.i) 0 = (U, (M.length : Int), 0) ∧ eqT U.l U.k U.x U.F T.l T.k T.x T.F = true) ∨
      (T = deepTr ∧ textS T.l T.k T.x T.F (decide (200 < depT T.l 0 T.F)) = ([], 5))) := by
  obtain ⟨hs, hc⟩ := h
  have hs' : 1 + T.x.length / 8 + tsz T.F ≤ 5000 := by
    have : tsz T.f = 1 + T.x.length / 8 + tsz T.F := by simp [Tr.f, tsz]
    omega
  obtain ⟨hF, hw⟩ := fine_tsz hs'
  refine ⟨hF, ?_⟩
  rcases hc with ⟨hr, hd⟩ | rfl
  · left
    obtain ⟨s, hwr⟩ := rd_wr T.f hr true
    have hT : wrT T.l T.k T.x T.F = some s := by
      unfold Tr.f at hwr
      rw [wrF_cons] at hwr
      cases hT : wrT T.l T.k T.x T.F with
      | none => rw [hT] at hwr; cases hwr
      | some t =>
        rw [hT] at hwr
        simp [wrF] at hwr
        rw [hwr]
    have hlen := wrT_len hT
    have hdt := (dep_tree T).2 hd
    obtain ⟨M, q, U, e1, e2, e3⟩ := text_back0 T hT hdt (by omega)
    refine ⟨s, M, q, U, by omega, ?_, e1, e2, by rw [eqT_comm]; exact e3⟩
    have hnd : ¬ 200 < depT T.l 0 T.F := by omega
    have hnl : ¬ 1048576 < s.length := by omega
    simp [textS, hT, hnd, hnl]
  · right
    exact ⟨rfl, by kernel_rfl⟩
/-- What the law wants of the trees of some bytes. -/
theorem all_good (bs : List UInt8) (h : bs.length ≤ 5000) : AllT GoodTr (allL ((lexB bs).1.map Tok.i) 0).1 := by
  obtain ⟨h1, h2, _⟩ := bytes_good bs h
  exact all_rd _ _ (Nat.le_refl _) h1 h2 0
end Go.Proofs.YtppbijbgnhmdaaaDoor

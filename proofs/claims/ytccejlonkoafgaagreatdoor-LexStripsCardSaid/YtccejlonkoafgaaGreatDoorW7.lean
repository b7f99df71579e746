/- A part of the proof: the calculus over pure values, contracts of functions, and plain lemmas. -/
import Derived.Test.YtccejlonkoafgaaGreatDoorW6
section
set_option linter.unusedVariables false
set_option linter.unusedSimpArgs false
set_option maxRecDepth 100000
set_option maxHeartbeats 8000000
namespace Go.Plane
open Go Go.Proofs
attribute [local irreducible] wops wio wic wdt wdb onOut
/-- A token stands in the text, behind another. -/
def okAt (s : List UInt8) : Option Tok → Tok → Bool
  | none, t => decide ((offsetM s t.l t.c).2 = 0)
  | some p, t => decide ((offsetM s t.l t.c).2 = 0) && !(decide (p.l = t.l ∧ p.c = t.c) || decide (0 < compareM p.l p.c t.l t.c))
def okToks (s : List UInt8) : Option Tok → List Tok → Bool
  | _, [] => true
  | o, t :: l => okAt s o t && okToks s (some t) l
theorem okToks_snoc (s : List UInt8) (x : Tok) : ∀ (l : List Tok) (o : Option Tok), okToks s o (l ++ [x]) = (okToks s o l && okAt s (l.getLast?.or o) x)
  | [], o => by simp [okToks]
  | t :: l, o => by
    simp only [List.cons_append, okToks, okToks_snoc s x l (some t)]
    rw [show (t :: l).getLast?.or o = l.getLast?.or (some t) by
      cases l with
      | nil => simp
      | cons y l =>
        simp only [List.getLast?_cons_cons]
        cases h : (y :: l).getLast? with
        | none => simp at h
        | some z => rfl]
    simp [Bool.and_assoc]
theorem okToks_app (s : List UInt8) : ∀ (l m : List Tok) (o : Option Tok), okToks s o l = false → okToks s o (l ++ m) = false
  | [], m, o, h => by simp [okToks] at h
  | t :: l, m, o, h => by
    simp only [List.cons_append, okToks, Bool.and_eq_false_iff] at *
    exact h.imp_right (okToks_app s l m _)
def shiftT (d : Int) (t : Tok) : Tok := { t with l := t.l + d }
/-- Behind the reading of what is fresh. -/
def patchT (l : List Tok) (f t e : Int) (r : List Tok × Int × Int × Int) : List Tok × Int × (Int × Int) × Int :=
  if r.2.2.2 ≠ 0 then ([], 0, (r.2.1, r.2.2.1), r.2.2.2)
  else if 6000 < ((l.filter fun y => decide (y.l < f)) ++ (r.1 ++ (l.filter fun y => !decide (y.l < f) && decide (t < y.l)).map (shiftT (e - t)))).length then ([], 0, (0, 0), 3)
  else ((l.filter fun y => decide (y.l < f)) ++ (r.1 ++ (l.filter fun y => !decide (y.l < f) && decide (t < y.l)).map (shiftT (e - t))), r.1.length, (0, 0), 0)
/-- The tokens, how many are fresh, the place, the error. -/
def patchM (l : List Tok) (s : List UInt8) (a b : Int) (x : List UInt8) : List Tok × Int × (Int × Int) × Int :=
  if (editM s a b x).2 ≠ 0 then ([], 0, (0, 0), (editM s a b x).2)
  else if okToks s none l = false then ([], 0, (0, 0), 1)
  else patchT l (placeOfM s a).1.1 (placeOfM s b).1.1 (placeOfM (editM s a b x).1 (a + x.length)).1.1
    (readM isTok (placeOfM s a).1.1 (((splitL 10 (editM s a b x).1).take (placeOfM (editM s a b x).1 (a + x.length)).1.1.toNat).drop ((placeOfM s a).1.1 - 1).toNat) [])
def patchP (r : List Tok × Int × (Int × Int) × Int) : PV := .tup [.d (.slice (toksD r.1)), .d (.int .i64 r.2.1), .agg [.int .i64 r.2.2.1.1, .int .i64 r.2.2.1.2], .d (.int .i64 r.2.2.2)]
theorem okAt_off {s : List UInt8} {o : Option Tok} {t : Tok} (h : okAt s o t = true) : (offsetM s t.l t.c).2 = 0 := by
  cases o with
  | none => simpa [okAt] using h
  | some p => simp [okAt] at h; exact h.1
theorem okToks_mem (s : List UInt8) : ∀ (l : List Tok) (o : Option Tok), okToks s o l = true → ∀ t ∈ l, 1 ≤ t.l ∧ t.l ≤ (splitL 10 s).length
  | [], _, _ => by simp
  | t :: l, o, h => by
    simp only [okToks, Bool.and_eq_true] at h
    intro y hy
    rcases List.mem_cons.1 hy with rfl | hy
    · have := okAt_off h.1
      unfold offsetM at this
      split at this
      · cases this
      · omega
    · exact okToks_mem s l _ h.2 y hy
theorem sum_sub (l : List (List UInt8)) (m n : Nat) : (((l.take m).drop n).map List.length).sum ≤ (l.map List.length).sum := by
  have h1 : ∀ (l : List (List UInt8)) (k : Nat), ((l.drop k).map List.length).sum ≤ (l.map List.length).sum := fun l k => by
    conv => rhs; rw [← List.take_append_drop k l, List.map_append, List.sum_append]
    omega
  have h2 : ((l.take m).map List.length).sum ≤ (l.map List.length).sum := by
    conv => rhs; rw [← List.take_append_drop m l, List.map_append, List.sum_append]
    omega
  exact Nat.le_trans (h1 _ _) h2
theorem f_Patch (l : List Tok) (s : List UInt8) (a b : Int) (x : List UInt8) (hl : l.length ≤ 100000) (hs : s.length ≤ 1000000) (hx : x.length ≤ 1000000) :
    F Γz 8 [.d (.slice (toksD l)), .d (.str s), .agg [.int .i64 a, .int .i64 b, .str x]] (patchP (patchM l s a b x)) := by
  refine fn_of c8 rfl (by simp only [Env.of, List.zipIdx, List.map]; rfl) ?_
  have hln := toksD_length l
  have hE := f_Edit s a b x (by omega) (by omega)
  by_cases he : (editM s a b x).2 = 0
  case neg =>
    have h : patchM l s a b x = ([], 0, (0, 0), (editM s a b x).2) := by unfold patchM; rw [if_pos he]
    rw [h]
    generalize editM s a b x = e at *
    repeat' (first | ((with_reducible refine wcm ?_); first | refine cF (hE) ?_) | refine dr ?_ | (refine ds ?_ ?_ <;> intro hb) | ((with_reducible refine dbm ?_); first | exact db_nil | refine dbc ?_ ?_) | ((with_reducible refine natle ?_); first | assumption | omega | (simp; omega)))
    all_goals (simp [patchP, toksD]; done)
  have hab : 0 ≤ a ∧ a ≤ b ∧ b ≤ s.length := by
    unfold editM at he
    split at he
    · cases he
    · omega
  repeat' (first | ((with_reducible refine wcm ?_); first | refine cF (hE) ?_) | refine dr ?_ | (refine ds ?_ ?_ <;> intro hb) | ((with_reducible refine dbm ?_); first | exact db_nil | refine dbc ?_ ?_) | ((with_reducible refine natle ?_); first | assumption | omega | (simp; omega)))
  refine LP_for l (fun i _ => [(0, .d (.slice (toksD l))), (1, .d (.str s)), (5, .ptr 0 0), (8, .ptr 1 0), (10, .d (.str (editM s a b x).1)), (39, .d (.slice (toksD l))), (40, .d (.int .i64 l.length)), (41, .d (.int .i64 i))])
    (fun _ _ => [.box 24 [.d (.int .i64 a), .d (.int .i64 b), .d (.str x)], .box 28 [.d (.int .i64 0), .d (.int .i64 0)]]) (fun i (_ : Unit) => okToks s none (l.take i) = true) () ?_ ?_ rfl ?_ ?_
  · (first | (simp [Env.shr, Env.get, PV.exp, PV.ids, PV.ids.idsL]; done) | simp [Env.shr, Env.get, PV.exp, PV.ids, PV.ids.idsL, *])
  · simp [shrink, Ent.exp, PV.exp, PV.ids]
  · rintro i y _ hy hi hI ih
    have hr := toksD_at hy
    have hO := f_Offset s y.l y.c (by omega)
    have htk : l.take (i + 1) = l.take i ++ [y] := by rw [List.take_add_one, hy]; rfl
    have hbad : okAt s ((l.take i).getLast?.or none) y = false → patchM l s a b x = ([], 0, (0, 0), 1) := fun h => by
      have : okToks s none l = false := by
        rw [← List.take_append_drop (i + 1) l, htk]
        refine okToks_app s _ _ _ ?_
        rw [okToks_snoc, h, Bool.and_false]
      unfold patchM
      rw [if_neg (by simp [he]), if_pos this]
    have hgood : okAt s ((l.take i).getLast?.or none) y = true → okToks s none (l.take (i + 1)) = true := fun h => by
      rw [htk, okToks_snoc, hI, h]; rfl
    clear hI htk
    cases i with
    | zero =>
      simp only [List.take_zero, List.getLast?_nil, Option.or_none, okAt] at hbad hgood
      by_cases ho : (offsetM s y.l y.c).2 = 0
      · have ih := ih () (hgood (by simp [ho]))
        clear hbad hgood
        generalize editM s a b x = e at *
        generalize offsetM s y.l y.c = o at *
        repeat' (first | ((with_reducible refine wcm ?_); first | refine cF (hO) ?_) | refine dr ?_ | (refine ds ?_ ?_ <;> intro hb) | ((with_reducible refine dbm ?_); first | exact db_nil | refine dbc ?_ ?_) | ((with_reducible refine natle ?_); first | assumption | omega | (simp; omega)))
        refine LP_at ?_ ?_ ih
        · (first | (simp [Env.shr, Env.get, PV.exp, PV.ids, PV.ids.idsL]; done) | simp [Env.shr, Env.get, PV.exp, PV.ids, PV.ids.idsL, *])
        · simp [shrink, Ent.exp, PV.exp, PV.ids]
      · have hp := hbad (by simp [ho])
        rw [hp]
        clear hbad hgood ih
        generalize editM s a b x = e at *
        generalize offsetM s y.l y.c = o at *
        repeat' (first | ((with_reducible refine wcm ?_); first | refine cF (hO) ?_) | refine dr ?_ | (refine ds ?_ ?_ <;> intro hb) | ((with_reducible refine dbm ?_); first | exact db_nil | refine dbc ?_ ?_) | ((with_reducible refine natle ?_); first | assumption | omega | (simp; omega)))
        all_goals (simp [patchP, toksD]; done)
    | succ j =>
      have hj : j < l.length := by omega
      have hy0 : l[j]? = some l[j] := List.getElem?_eq_getElem hj
      generalize l[j] = p at hy0
      have hry0 := toksD_at hy0
      have hry : (toksD l)[((((j + 1 : Nat) : Int) - 1).toNat)]? = some [.int .i64 p.k, .str p.s, .int .i64 p.l, .int .i64 p.c] := by rw [show (((j + 1 : Nat) : Int) - 1).toNat = j by omega]; exact hry0
      rw [getLast_take hy0] at hbad hgood
      simp only [Option.some_or, okAt] at hbad hgood
      have hC := f_compare p.l p.c y.l y.c
      clear hry0
      by_cases ho : (offsetM s y.l y.c).2 = 0
      · cases heq : (p.l == y.l && p.c == y.c) with
        | true =>
          have hpe : p.l = y.l ∧ p.c = y.c := by simpa using heq
          have hp := hbad (by simp [hpe.1, hpe.2])
          rw [hp]
          clear hbad hgood ih hpe
          generalize editM s a b x = e at *
          generalize offsetM s y.l y.c = o at *
          repeat' (first | ((with_reducible refine wcm ?_); first | refine cF (hO) ?_ | refine cF (hC) ?_) | refine dr ?_ | (refine ds ?_ ?_ <;> intro hb) | ((with_reducible refine dbm ?_); first | exact db_nil | refine dbc ?_ ?_) | ((with_reducible refine natle ?_); first | assumption | omega | (simp; omega)))
          all_goals (simp [patchP, toksD]; done)
        | false =>
          have hpe : ¬(p.l = y.l ∧ p.c = y.c) := by simpa using heq
          by_cases hc : 0 < compareM p.l p.c y.l y.c
          · have hp := hbad (by simp [hc])
            rw [hp]
            clear hbad hgood ih hpe
            generalize editM s a b x = e at *
            generalize offsetM s y.l y.c = o at *
            generalize compareM p.l p.c y.l y.c = cc at *
            repeat' (first | ((with_reducible refine wcm ?_); first | refine cF (hO) ?_ | refine cF (hC) ?_) | refine dr ?_ | (refine ds ?_ ?_ <;> intro hb) | ((with_reducible refine dbm ?_); first | exact db_nil | refine dbc ?_ ?_) | ((with_reducible refine natle ?_); first | assumption | omega | (simp; omega)))
            all_goals (simp [patchP, toksD]; done)
          · have ih := ih () (hgood (by simp [ho, hpe, hc]))
            clear hbad hgood hpe
            generalize editM s a b x = e at *
            generalize offsetM s y.l y.c = o at *
            generalize compareM p.l p.c y.l y.c = cc at *
            repeat' (first | ((with_reducible refine wcm ?_); first | refine cF (hO) ?_ | refine cF (hC) ?_) | refine dr ?_ | (refine ds ?_ ?_ <;> intro hb) | ((with_reducible refine dbm ?_); first | exact db_nil | refine dbc ?_ ?_) | ((with_reducible refine natle ?_); first | assumption | omega | (simp; omega)))
            refine LP_at ?_ ?_ ih
            · (first | (simp [Env.shr, Env.get, PV.exp, PV.ids, PV.ids.idsL]; done) | simp [Env.shr, Env.get, PV.exp, PV.ids, PV.ids.idsL, *])
            · simp [shrink, Ent.exp, PV.exp, PV.ids]
      · have hp := hbad (by simp [ho])
        rw [hp]
        clear hbad hgood ih
        generalize editM s a b x = e at *
        generalize offsetM s y.l y.c = o at *
        repeat' (first | ((with_reducible refine wcm ?_); first | refine cF (hO) ?_) | refine dr ?_ | (refine ds ?_ ?_ <;> intro hb) | ((with_reducible refine dbm ?_); first | exact db_nil | refine dbc ?_ ?_) | ((with_reducible refine natle ?_); first | assumption | omega | (simp; omega)))
        all_goals (simp [patchP, toksD]; done)
  · rintro _ hI
    rw [List.take_length] at hI
    have hmem := okToks_mem s l none hI
    have hpm : patchM l s a b x = patchT l (placeOfM s a).1.1 (placeOfM s b).1.1 (placeOfM (editM s a b x).1 (a + x.length)).1.1
        (readM isTok (placeOfM s a).1.1 (((splitL 10 (editM s a b x).1).take (placeOfM (editM s a b x).1 (a + x.length)).1.1.toNat).drop ((placeOfM s a).1.1 - 1).toNat) []) := by unfold patchM; rw [if_neg (by simp [he]), if_neg (by simp [hI])]
    have hnl : ((editM s a b x).1.length : Int) ≤ 20000 ∧ (editM s a b x).1 = s.take a.toNat ++ x ++ s.drop b.toNat := by
      unfold editM at he ⊢
      split at he
      · cases he
      · rename_i h1
        split at he
        · cases he
        · rename_i h2
          rw [if_neg h1, if_neg h2]
          refine ⟨?_, rfl⟩
          simp only [List.length_append, List.length_take, List.length_drop]
          push_cast
          omega
    obtain ⟨hn1, hn2⟩ := hnl
    have hlen1 : ((editM s a b x).1.length : Int) = a + x.length + (s.length - b) := by
      rw [hn2]
      simp only [List.length_append, List.length_take, List.length_drop]
      push_cast
      omega
    have hP1 := f_PlaceOf s a (by omega)
    have hP2 := f_PlaceOf s b (by omega)
    have hP3 := f_PlaceOf (editM s a b x).1 (a + x.length) (by omega)
    have hSp := F_Split (editM s a b x).1 10 (by omega)
    have hcount : ∀ (u : List UInt8), u.count 10 ≤ u.length := fun u => List.count_le_length
    have hspl := splitL_length 10 (editM s a b x).1
    have hspl2 := splitL_length 10 s
    have hc1 := hcount (editM s a b x).1
    have hc2 := hcount s
    have hc3 := hcount (s.take b.toNat)
    rw [List.length_take] at hc3
    have hpa : (placeOfM s a).1.1 = 1 + ((s.take a.toNat).count 10 : Int) := by unfold placeOfM; rw [if_neg (by omega)]
    have hpb : (placeOfM s b).1.1 = 1 + ((s.take b.toNat).count 10 : Int) := by unfold placeOfM; rw [if_neg (by omega)]
    have hpe : (placeOfM (editM s a b x).1 (a + x.length)).1.1 = 1 + (((editM s a b x).1.take (a + x.length).toNat).count 10 : Int) := by unfold placeOfM; rw [if_neg (by omega)]
    have hle1 : (s.take a.toNat).count 10 ≤ ((editM s a b x).1.take (a + x.length).toNat).count 10 := by
      have : (editM s a b x).1.take (a + x.length).toNat = s.take a.toNat ++ x := by
        rw [hn2, List.take_append_of_le_length (by simp only [List.length_append, List.length_take]; omega), List.take_of_length_le (by simp only [List.length_append, List.length_take]; omega)]
      rw [this, List.count_append]
      omega
    have hle2 : ((editM s a b x).1.take (a + x.length).toNat).count 10 ≤ (editM s a b x).1.count 10 := (List.take_sublist _ _).count_le _
    have hF : 1 ≤ (placeOfM s a).1.1 ∧ (placeOfM s a).1.1 ≤ (placeOfM (editM s a b x).1 (a + x.length)).1.1 ∧ (placeOfM (editM s a b x).1 (a + x.length)).1.1 ≤ (splitL 10 (editM s a b x).1).length ∧ (splitL 10 (editM s a b x).1).length ≤ 20001 ∧ 1 ≤ (placeOfM s b).1.1 ∧ (placeOfM s b).1.1 ≤ 1000001 := by omega
    have hL : ∀ t ∈ l, 1 ≤ t.l ∧ t.l ≤ 1000001 := fun t ht => by have := hmem t ht; omega
    have hsum := sum_sub (splitL 10 (editM s a b x).1) (placeOfM (editM s a b x).1 (a + x.length)).1.1.toNat ((placeOfM s a).1.1 - 1).toNat
    have hsum2 := splitL_sum 10 (editM s a b x).1
    have hrd := f_read (want := isTok) (fun k => f_token k) (((splitL 10 (editM s a b x).1).take (placeOfM (editM s a b x).1 (a + x.length)).1.1.toNat).drop ((placeOfM s a).1.1 - 1).toNat) (placeOfM s a).1.1 (by omega) (by omega) (by simp only [List.length_drop, List.length_take]; omega)
    have hrl := readM_len isTok (((splitL 10 (editM s a b x).1).take (placeOfM (editM s a b x).1 (a + x.length)).1.1.toNat).drop ((placeOfM s a).1.1 - 1).toNat) (placeOfM s a).1.1 []
    have hrl2 : (readM isTok (placeOfM s a).1.1 (((splitL 10 (editM s a b x).1).take (placeOfM (editM s a b x).1 (a + x.length)).1.1.toNat).drop ((placeOfM s a).1.1 - 1).toNat) []).1.length ≤ 20000 := by
      simp only [List.length_nil] at hrl
      omega
    have hsl := strsD_length (splitL 10 (editM s a b x).1)
    have hsa := strsD_len (splitL 10 (editM s a b x).1)
    rw [← strsD_drop, ← strsD_take] at hrd
    rw [hpm]
    clear hpm hrl hsum hsum2 hle1 hle2 hpa hpb hpe hc1 hc2 hc3 hcount hspl hspl2 hlen1 hn2 hmem hI
    generalize readM isTok (placeOfM s a).1.1 (((splitL 10 (editM s a b x).1).take (placeOfM (editM s a b x).1 (a + x.length)).1.1.toNat).drop ((placeOfM s a).1.1 - 1).toNat) [] = r at *
    generalize placeOfM (editM s a b x).1 (a + x.length) = pe at *
    generalize placeOfM s a = pa at *
    generalize placeOfM s b = pb at *
    generalize splitL 10 (editM s a b x).1 = sp at *
    generalize editM s a b x = e at *
    obtain ⟨f1, f2, f3, f4, f5, f6⟩ := hF
    by_cases hre : r.2.2.2 = 0
    case neg =>
      rw [show patchT l pa.1.1 pb.1.1 pe.1.1 r = ([], 0, (r.2.1, r.2.2.1), r.2.2.2) by unfold patchT; rw [if_pos hre]]
      repeat' (first | ((with_reducible refine wcm ?_); first | refine cF (hP1) ?_ | refine cF (hP2) ?_ | refine cF (hP3) ?_ | refine cF (hSp) ?_ | refine cF (hrd) ?_) | refine dr ?_ | (refine ds ?_ ?_ <;> intro hb) | ((with_reducible refine dbm ?_); first | exact db_nil | refine dbc ?_ ?_) | ((with_reducible refine natle ?_); first | assumption | omega | (simp; omega)))
      all_goals (simp [patchP, toksD]; done)
    have hpt : patchT l pa.1.1 pb.1.1 pe.1.1 r = if 6000 < ((l.filter fun y => decide (y.l < pa.1.1)) ++ (r.1 ++ (l.filter fun y => !decide (y.l < pa.1.1) && decide (pb.1.1 < y.l)).map (shiftT (pe.1.1 - pb.1.1)))).length then ([], 0, (0, 0), 3)
        else ((l.filter fun y => decide (y.l < pa.1.1)) ++ (r.1 ++ (l.filter fun y => !decide (y.l < pa.1.1) && decide (pb.1.1 < y.l)).map (shiftT (pe.1.1 - pb.1.1))), (r.1.length : Int), (0, 0), 0) := by unfold patchT; rw [if_neg (by simp [hre])]
    rw [hpt]
    clear hpt
    repeat' (first | ((with_reducible refine wcm ?_); first | refine cF (hP1) ?_ | refine cF (hP2) ?_ | refine cF (hP3) ?_ | refine cF (hSp) ?_ | refine cF (hrd) ?_) | refine dr ?_ | (refine ds ?_ ?_ <;> intro hb) | ((with_reducible refine dbm ?_); first | exact db_nil | refine dbc ?_ ?_) | ((with_reducible refine natle ?_); first | assumption | omega | (simp; omega)))
    all_goals
      refine LP_for l (fun i (c : List Tok × List Tok) => [(8, .ptr 1 0), (16, .ptr 2 0), (18, .ptr 3 0), (20, .ptr 4 0), (22, .d (.slice (toksD r.1))), (24, .lref 6 c.1.length), (25, .lref 7 c.2.length), (128, .d (.slice (toksD l))), (129, .d (.int .i64 l.length)), (130, .d (.int .i64 i))])
        (fun i c => [.box 24 [.d (.int .i64 a), .d (.int .i64 b), .d (.str x)], .box 28 [.d (.int .i64 0), .d (.int .i64 0)], .box 28 [.d (.int .i64 pa.1.1), .d (.int .i64 pa.1.2)], .box 28 [.d (.int .i64 pb.1.1), .d (.int .i64 pb.1.2)], .box 28 [.d (.int .i64 pe.1.1), .d (.int .i64 pe.1.2)], .box 28 [.d (.int .i64 r.2.1), .d (.int .i64 r.2.2.1)], .lst (49, 4) (toksD c.1), .lst (49, 4) (toksD c.2)])
        (fun i c => c.1 = (l.take i).filter (fun y => decide (y.l < pa.1.1)) ∧ c.2 = ((l.take i).filter (fun y => !decide (y.l < pa.1.1) && decide (pb.1.1 < y.l))).map (shiftT (pe.1.1 - pb.1.1)) ∧ c.1.length ≤ i ∧ c.2.length ≤ i) ([], []) ?_ ?_ ⟨rfl, rfl, by simp, by simp⟩ ?_ ?_
      · (first | (simp [Env.shr, Env.get, PV.exp, PV.ids, PV.ids.idsL]; done) | simp [Env.shr, Env.get, PV.exp, PV.ids, PV.ids.idsL, *])
      · simp [shrink, Ent.exp, PV.exp, PV.ids, toksD]
      · rintro i y ⟨c1, c2⟩ hy hi ⟨h1, h2, h3, h4⟩ ih
        simp only at h1 h2 h3 h4
        have hr := toksD_at hy
        have hyl := hL y (List.mem_of_getElem? hy)
        have htk : l.take (i + 1) = l.take i ++ [y] := by rw [List.take_add_one, hy]; rfl
        have g1 := toksD_len c1
        have g2 := toksD_len c2
        have g3 := toksD_length c1
        have g4 := toksD_length c2
        by_cases hA : y.l < pa.1.1
        · have ih := ih (c1 ++ [y], c2) ⟨by simp only; rw [htk, List.filter_append, ← h1]; simp [hA], by simp only; rw [htk, List.filter_append, List.map_append, ← h2]; simp [hA], by simp; omega, by simp only; omega⟩
          clear h1 h2 htk
          repeat' (first | refine dr ?_ | (refine ds ?_ ?_ <;> intro hb) | ((with_reducible refine dbm ?_); first | exact db_nil | refine dbc ?_ ?_) | ((with_reducible refine natle ?_); first | assumption | omega | (simp; omega)))
          refine LP_at ?_ ?_ ih
          · (first | (simp [Env.shr, Env.get, PV.exp, PV.ids, PV.ids.idsL]; done) | simp [Env.shr, Env.get, PV.exp, PV.ids, PV.ids.idsL, *])
          · simp [shrink, Ent.exp, PV.exp, PV.ids, toksD]
        · by_cases hB : pb.1.1 < y.l
          · have ih := ih (c1, c2 ++ [shiftT (pe.1.1 - pb.1.1) y]) ⟨by simp only; rw [htk, List.filter_append, ← h1]; simp [hA], by simp only; rw [htk, List.filter_append, List.map_append, ← h2]; simp [hA, hB], by simp only; omega, by simp; omega⟩
            clear h1 h2 htk
            repeat' (first | refine dr ?_ | (refine ds ?_ ?_ <;> intro hb) | ((with_reducible refine dbm ?_); first | exact db_nil | refine dbc ?_ ?_) | ((with_reducible refine natle ?_); first | assumption | omega | (simp; omega)))
            refine LP_at ?_ ?_ ih
            · (first | (simp [Env.shr, Env.get, PV.exp, PV.ids, PV.ids.idsL]; done) | simp [Env.shr, Env.get, PV.exp, PV.ids, PV.ids.idsL, *])
            · simp [shrink, Ent.exp, PV.exp, PV.ids, toksD, shiftT]
          · have ih := ih (c1, c2) ⟨by simp only; rw [htk, List.filter_append, ← h1]; simp [hA], by simp only; rw [htk, List.filter_append, List.map_append, ← h2]; simp [hA, hB], by simp only; omega, by simp only; omega⟩
            clear h1 h2 htk
            repeat' (first | refine dr ?_ | (refine ds ?_ ?_ <;> intro hb) | ((with_reducible refine dbm ?_); first | exact db_nil | refine dbc ?_ ?_) | ((with_reducible refine natle ?_); first | assumption | omega | (simp; omega)))
            refine LP_at ?_ ?_ ih
            · (first | (simp [Env.shr, Env.get, PV.exp, PV.ids, PV.ids.idsL]; done) | simp [Env.shr, Env.get, PV.exp, PV.ids, PV.ids.idsL, *])
            · simp [shrink, Ent.exp, PV.exp, PV.ids, toksD]
      · rintro ⟨c1, c2⟩ ⟨h1, h2, h3, h4⟩
        simp only at h1 h2 h3 h4
        rw [List.take_length] at h1 h2
        rw [← h1, ← h2]
        clear h1 h2
        have g1 := toksD_len c1
        have g2 := toksD_len c2
        have t1 : (toksD c1).take c1.length = toksD c1 := List.take_of_length_le (by rw [toksD_length]; exact Nat.le_refl _)
        have t2 : (toksD c2).take c2.length = toksD c2 := List.take_of_length_le (by rw [toksD_length]; exact Nat.le_refl _)
        have hj := f_joined [c1, r.1, c2] (by simp) (by simp; omega)
        have htl := toksD_length (c1 ++ (r.1 ++ c2))
        have hrl3 := toksD_length r.1
        simp only [List.map, List.flatten_cons, List.flatten_nil, List.append_nil] at hj
        generalize c1 ++ (r.1 ++ c2) = out at *
        by_cases h6 : 6000 < out.length
        · rw [if_pos h6]
          repeat' (first | ((with_reducible refine wcm ?_); first | refine cF (hj) ?_) | refine dr ?_ | (refine ds ?_ ?_ <;> intro hb) | ((with_reducible refine dbm ?_); first | exact db_nil | refine dbc ?_ ?_) | ((with_reducible refine natle ?_); first | assumption | omega | (simp; omega)))
          all_goals (simp [patchP, toksD]; done)
        · rw [if_neg h6]
          repeat' (first | ((with_reducible refine wcm ?_); first | refine cF (hj) ?_) | refine dr ?_ | (refine ds ?_ ?_ <;> intro hb) | ((with_reducible refine dbm ?_); first | exact db_nil | refine dbc ?_ ?_) | ((with_reducible refine natle ?_); first | assumption | omega | (simp; omega)))
          all_goals (simp [patchP, toksD]; done)
end Go.Plane
end
section
set_option linter.unusedVariables false
set_option linter.unusedSimpArgs false
set_option maxRecDepth 100000
set_option maxHeartbeats 4000000
namespace Go.Plane
open Go Go.Proofs
/-! ### The models at the law's examples -/
theorem ex_T1 : tokensM [120, 32, 58, 61, 32, 97, 47, 47, 50, 32, 45, 45, 32, 104, 97, 108, 102] = ([⟨1, [120], 1, 1⟩, ⟨5, [58, 61], 1, 3⟩, ⟨1, [97], 1, 6⟩, ⟨5, [47, 47], 1, 7⟩, ⟨4, [50], 1, 9⟩], 0, 0, 0) := by kernel_rfl
theorem ex_T2 : tokensM [65, 46, 98, 10, 32, 48, 49] = ([], 2, 2, 2) := by kernel_rfl
theorem ex_T3 : tokensM [114, 101, 115, 117, 108, 116] = ([], 1, 1, 4) := by kernel_rfl
theorem ex_T4 : tokensM [82, 101, 115, 117, 108, 116, 115] = ([], 1, 1, 2) := by kernel_rfl
theorem ex_W : writeM needsM [⟨3, [105, 102], 0, 0⟩, ⟨1, [97], 0, 0⟩, ⟨5, [60], 0, 0⟩, ⟨5, [61], 0, 0⟩, ⟨3, [116, 104, 101, 110], 0, 0⟩] = ([105, 102, 32, 97, 60, 32, 61, 116, 104, 101, 110], 0) := by kernel_rfl
theorem ex_O1 : offsetM [97, 98, 10, 99, 100] 2 3 = (5, 0) := by kernel_rfl
theorem ex_O2 : offsetM [97, 98, 10, 99, 100] 2 4 = (0, 1) := by kernel_rfl
theorem ex_T5 : tokensM [97, 10, 98, 32, 99, 10, 100] = ([⟨1, [97], 1, 1⟩, ⟨1, [98], 2, 1⟩, ⟨1, [99], 2, 3⟩, ⟨1, [100], 3, 1⟩], 0, 0, 0) := by kernel_rfl
theorem ex_P : patchM [⟨1, [97], 1, 1⟩, ⟨1, [98], 2, 1⟩, ⟨1, [99], 2, 3⟩, ⟨1, [100], 3, 1⟩] [97, 10, 98, 32, 99, 10, 100] 2 3 [120, 10, 121] = ([⟨1, [97], 1, 1⟩, ⟨1, [120], 2, 1⟩, ⟨1, [121], 3, 1⟩, ⟨1, [99], 3, 3⟩, ⟨1, [100], 4, 1⟩], 3, (0, 0), 0) := by kernel_rfl
theorem ex_J : joinM [[97], [98, 10]] = ([97, 10, 98, 10, 10], [1, 2], 0) := by kernel_rfl
theorem f_at (l c : Int) : F Γz 25 [.d (.int .i64 l), .d (.int .i64 c)] (.agg [.int .i64 l, .int .i64 c]) := by
  refine fn_of c25 rfl (by simp only [Env.of, List.zipIdx, List.map]; rfl) ?_
  repeat' (first | refine dr ?_ | (refine ds ?_ ?_ <;> intro hb) | ((with_reducible refine dbm ?_); first | exact db_nil | refine dbc ?_ ?_) | ((with_reducible refine natle ?_); first | assumption | omega | (simp; omega)))
  all_goals (simp; done)
def shortM (s : List UInt8) : Bool := decide (s.length ≤ 400 ∨ (20000 < s.length ∧ s.length ≤ 20100))
theorem f_short (s : List UInt8) : F Γz 6 [.d (.str s)] (.d (.bool (shortM s))) := by
  refine fn_of c6 rfl (by simp only [Env.of, List.zipIdx, List.map]; rfl) ?_
  repeat' (first | refine dr ?_ | (refine ds ?_ ?_ <;> intro hb) | ((with_reducible refine dbm ?_); first | exact db_nil | refine dbc ?_ ?_) | ((with_reducible refine natle ?_); first | assumption | omega | (simp; omega)))
  all_goals first
    | (rw [show shortM s = true by unfold shortM; rw [decide_eq_true_eq]; omega]; simp [*]; done)
    | (rw [show shortM s = false by unfold shortM; rw [decide_eq_false_iff_not]; omega]; simp [*]; done)
    | (by_cases h : s.length ≤ 20100
       · rw [show shortM s = true by unfold shortM; rw [decide_eq_true_eq]; omega]; simp; omega
       · rw [show shortM s = false by unfold shortM; rw [decide_eq_false_iff_not]; omega]; simp; omega)
theorem f_sanity : F Γz 7 [] (.d (.bool true)) := by
  refine fn_of c7 rfl (by simp only [Env.of, List.zipIdx, List.map]; rfl) ?_
  have hT1 := f_Tokens [120, 32, 58, 61, 32, 97, 47, 47, 50, 32, 45, 45, 32, 104, 97, 108, 102] (by decide)
  rw [ex_T1] at hT1
  simp only [readP, toksD, List.map_cons, List.map_nil, Tok.row] at hT1
  have hT2 := f_Tokens [65, 46, 98, 10, 32, 48, 49] (by decide)
  rw [ex_T2] at hT2
  simp only [readP, toksD, List.map_cons, List.map_nil, Tok.row] at hT2
  have hT3 := f_Tokens [114, 101, 115, 117, 108, 116] (by decide)
  rw [ex_T3] at hT3
  simp only [readP, toksD, List.map_cons, List.map_nil, Tok.row] at hT3
  have hT4 := f_Tokens [82, 101, 115, 117, 108, 116, 115] (by decide)
  rw [ex_T4] at hT4
  simp only [readP, toksD, List.map_cons, List.map_nil, Tok.row] at hT4
  have hW := f_Tight [⟨3, [105, 102], 0, 0⟩, ⟨1, [97], 0, 0⟩, ⟨5, [60], 0, 0⟩, ⟨5, [61], 0, 0⟩, ⟨3, [116, 104, 101, 110], 0, 0⟩] (by decide) (by decide) (by decide)
  rw [ex_W] at hW
  simp only [textP, toksD, List.map_cons, List.map_nil, Tok.row] at hW
  have hO1 := f_Offset [97, 98, 10, 99, 100] 2 3 (by decide)
  rw [ex_O1] at hO1
  simp only [pairI] at hO1
  have hO2 := f_Offset [97, 98, 10, 99, 100] 2 4 (by decide)
  rw [ex_O2] at hO2
  simp only [pairI] at hO2
  have hT5 := f_Tokens [97, 10, 98, 32, 99, 10, 100] (by decide)
  rw [ex_T5] at hT5
  simp only [readP, toksD, List.map_cons, List.map_nil, Tok.row] at hT5
  have hP := f_Patch [⟨1, [97], 1, 1⟩, ⟨1, [98], 2, 1⟩, ⟨1, [99], 2, 3⟩, ⟨1, [100], 3, 1⟩] [97, 10, 98, 32, 99, 10, 100] 2 3 [120, 10, 121] (by decide) (by decide) (by decide)
  rw [ex_P] at hP
  simp only [patchP, toksD, List.map_cons, List.map_nil, Tok.row] at hP
  have hJ := f_Join [[97], [98, 10]] (by decide) (by decide)
  rw [ex_J] at hJ
  simp only [strsD, intsD, List.map_cons, List.map_nil] at hJ
  have hK := f_Keywords
  repeat' (first | ((with_reducible refine wcm ?_); first | refine cF (hT1) ?_ | refine cF (hT2) ?_ | refine cF (hT3) ?_ | refine cF (hT4) ?_ | refine cF (hW) ?_ | refine cF (f_at _ _) ?_ | refine cF (hO1) ?_ | refine cF (hO2) ?_ | refine cF (hT5) ?_ | refine cF (hP) ?_ | refine cF (hJ) ?_ | refine cF (hK) ?_) | refine dr ?_ | (refine ds ?_ ?_ <;> intro hb) | ((with_reducible refine dbm ?_); first | exact db_nil | refine dbc ?_ ?_) | ((with_reducible refine natle ?_); first | assumption | omega | (simp; omega)))
  rw [show (strsD keywords).length = 37 by rw [strsD_length]; rfl]
  exact ⟨rfl, rfl⟩
end Go.Plane
end
section
set_option linter.unusedVariables false
set_option linter.unusedSimpArgs false
set_option maxRecDepth 100000
set_option maxHeartbeats 4000000
namespace Go.Plane
open Go Go.Proofs
attribute [local irreducible] wops wio wic wdt wdb onOut
end Go.Plane
end
section
set_option linter.unusedVariables false
set_option linter.unusedSimpArgs false
set_option maxRecDepth 100000
set_option maxHeartbeats 4000000
namespace Go.Plane
open Go Go.Proofs
attribute [local irreducible] wops wio wic wdt wdb onOut
theorem withLF_le (l : List (List UInt8)) (n : Nat) : (withLF (l.take n)).length ≤ (withLF l).length := by
  conv => rhs; rw [← List.take_append_drop n l]
  unfold withLF
  rw [List.flatMap_append, List.length_append]
  omega
theorem withLF_mem {l : List (List UInt8)} {s : List UInt8} (h : s ∈ l) : s.length < (withLF l).length := by
  induction l with
  | nil => cases h
  | cons y l ih =>
    simp only [withLF, List.flatMap_cons, List.length_append, List.length_singleton]
    rcases List.mem_cons.1 h with rfl | h
    · omega
    · have := ih h
      simp only [withLF] at this
      omega
end Go.Plane
end
section
set_option linter.unusedVariables false
set_option linter.unusedSimpArgs false
set_option maxRecDepth 100000
set_option maxHeartbeats 4000000
namespace Go.Plane
open Go Go.Proofs
attribute [local irreducible] wops wio wic wdt wdb onOut
end Go.Plane
end
section
set_option linter.unusedVariables false
set_option linter.unusedSimpArgs false
namespace Go.Plane
open Go Go.Proofs
/-! ### A scan, without its clock -/
theorem pieceM_pos {a : Int} {b : UInt8} {r : List UInt8} (h : (pieceM a b r).1.e = 0) : 0 < (pieceM a b r).2 := by
  unfold pieceM at h ⊢
  split
  · split <;> simp
  · rename_i h1
    rw [if_neg h1] at h
    split
    · rename_i h2; exact h2.1
    · rename_i h2
      rw [if_neg h2] at h
      simp only at h ⊢
      split at h
      · cases h
      · omega
theorem scanF_fuel : ∀ (f g i : Nat) (s : List UInt8), s.length ≤ f → s.length ≤ g → scanF f i s = scanF g i s
  | 0, g, i, s, hf, _ => by
    have : s = [] := List.eq_nil_of_length_eq_zero (by omega)
    subst this; rw [scan_nil, scan_nil]
  | f + 1, 0, i, s, _, hg => by
    have : s = [] := List.eq_nil_of_length_eq_zero (by omega)
    subst this; rw [scan_nil, scan_nil]
  | f + 1, g + 1, i, [], _, _ => rfl
  | f + 1, g + 1, i, b :: r, hf, hg => by
    simp only [List.length_cons] at hf hg
    simp only [scanF]
    split
    · exact scanF_fuel f g _ _ (by omega) (by omega)
    · congr 1
      split
      · rfl
      · rename_i he
        have hp := pieceM_pos (a := i) (b := b) (r := r) (by simpa using he)
        exact scanF_fuel f g _ _ (by simp; omega) (by simp; omega)
def scan (i : Nat) (s : List UInt8) : List Pc := scanF s.length i s
theorem scanM_eq (s : List UInt8) : scanM s = scan 0 s := rfl
theorem scan_nil' (i : Nat) : scan i [] = [] := rfl
theorem scan_blank (i : Nat) (r : List UInt8) : scan i (32 :: r) = scan (i + 1) r := by
  simp [scan, scanF]
theorem scan_err {i : Nat} {b : UInt8} {r : List UInt8} (hb : b ≠ 32) (he : (pieceM i b r).1.e ≠ 0) : scan i (b :: r) = [(pieceM i b r).1] := by
  simp only [scan, List.length_cons, scanF, if_neg hb, if_pos he]
theorem scan_ok {i : Nat} {b : UInt8} {r : List UInt8} (hb : b ≠ 32) (he : (pieceM i b r).1.e = 0) : scan i (b :: r) = (pieceM i b r).1 :: scan (i + (pieceM i b r).2) ((b :: r).drop (pieceM i b r).2) := by
  have hp := pieceM_pos he
  simp only [scan, List.length_cons, scanF, if_neg hb]
  rw [if_neg (by simp [he])]
  congr 1
  exact scanF_fuel _ _ _ _ (by simp; omega) (by simp)
/-- What holds at the end, behind a blank, at an error, and behind a piece. -/
theorem scan_ind {P : Nat → List UInt8 → Prop} (h0 : ∀ i : Nat, P i []) (h1 : ∀ (i : Nat) r, P (i + 1) r → P i (32 :: r)) (h2 : ∀ (i : Nat) b r, b ≠ 32 → (pieceM i b r).1.e ≠ 0 → P i (b :: r))
    (h3 : ∀ (i : Nat) b r, b ≠ 32 → (pieceM i b r).1.e = 0 → P (i + (pieceM i b r).2) ((b :: r).drop (pieceM i b r).2) → P i (b :: r)) : ∀ i s, P i s := by
  have : ∀ n i (s : List UInt8), s.length < n → P i s := by
    intro n
    induction n with
    | zero => intro i s h; omega
    | succ n ih =>
      intro i s hn
      cases s with
      | nil => exact h0 i
      | cons b r =>
        simp only [List.length_cons] at hn
        by_cases hb : b = 32
        · subst hb; exact h1 i r (ih _ _ (by omega))
        · by_cases he : (pieceM i b r).1.e = 0
          · have hp := pieceM_pos he
            exact h3 i b r hb he (ih _ _ (by simp; omega))
          · exact h2 i b r hb he
  exact fun i s => this (s.length + 1) i s (by omega)

/-! ### One piece -/
theorem prefix_take {u v : List UInt8} (h : u.isPrefixOf v = true) : v.take u.length = u := by
  obtain ⟨w, rfl⟩ := List.isPrefixOf_iff_prefix.1 h
  simp
theorem signM_prefix (s : List UInt8) : s.take (signM s).length = signM s := by
  unfold signM
  cases h : signs.find? (fun x => x.isPrefixOf s) with
  | none => simp
  | some x => exact prefix_take (u := x) (v := s) (by have := List.find?_some h; exact this)
theorem piece_text {a : Int} {b : UInt8} {r : List UInt8} (h : (pieceM a b r).1.e = 0) : (pieceM a b r).1.s = (b :: r).take (pieceM a b r).2 ∧ (pieceM a b r).1.a = a := by
  unfold pieceM at h ⊢
  split
  · rename_i h1
    rw [if_pos h1] at h
    split
    · rename_i h2; rw [if_pos h2] at h; cases h
    · simp
  · rename_i h1
    rw [if_neg h1] at h
    split
    · simp
    · rename_i h2
      simp only
      exact ⟨(signM_prefix _).symm, trivial⟩
theorem piece_len {a : Int} {b : UInt8} {r : List UInt8} (h : (pieceM a b r).1.e = 0) : (pieceM a b r).1.s.length = (pieceM a b r).2 := by
  rw [(piece_text h).1, List.length_take_of_le (pieceM_len a b r)]
theorem shapeM_ne6 (s : List UInt8) : (shapeM s).1 ≠ 6 := by
  unfold shapeM
  split
  · simp
  · split
    · split <;> simp
    · split
      · unfold wordM
        split
        · simp
        · split
          · simp
          · split
            · simp
            · split
              · simp
              · split <;> simp
      · split <;> simp
theorem shape_sign {s : List UInt8} (h : s ∈ signs) : shapeM s = (5, 0) := by
  have : ∀ x ∈ signs, shapeM x = (5, 0) := by decide +kernel
  exact this s h
/-- A piece of no error is a comment, or right. -/
theorem piece_right {a : Int} {b : UInt8} {r : List UInt8} (h : (pieceM a b r).1.e = 0) :
    ((pieceM a b r).1.k = 6 ∧ (pieceM a b r).1.s = b :: r ∧ (pieceM a b r).2 = (b :: r).length ∧ [45, 45].isPrefixOf (b :: r) = true) ∨ ((pieceM a b r).1.k ≠ 6 ∧ shapeM (pieceM a b r).1.s = ((pieceM a b r).1.k, 0) ∧ [45, 45].isPrefixOf (b :: r) = false) := by
  unfold pieceM at h ⊢
  split
  · rename_i h1
    rw [if_pos h1] at h
    split
    · rename_i h2; rw [if_pos h2] at h; cases h
    · left; exact ⟨rfl, rfl, rfl, h1⟩
  · rename_i h1
    rw [if_neg h1] at h
    right
    split
    · rename_i h2
      rw [if_pos h2] at h
      simp only at h ⊢
      exact ⟨shapeM_ne6 _, by rw [← h], by rw [Bool.eq_false_iff]; exact h1⟩
    · rename_i h2
      rw [if_neg h2] at h
      simp only at h ⊢
      have hne : signM (b :: r) ≠ [] := by
        intro h0
        rw [h0] at h
        simp at h
      have hm := (signM_mem rfl hne).1
      exact ⟨by decide, shape_sign hm, by rw [Bool.eq_false_iff]; exact h1⟩

/-! ### Moved -/
def Pc.mv (d : Int) (p : Pc) : Pc := { p with a := p.a + d }
theorem pieceM_mv (a d : Int) (b : UInt8) (r : List UInt8) : pieceM (a + d) b r = ((pieceM a b r).1.mv d, (pieceM a b r).2) := by
  unfold pieceM
  split
  · split
    · simp only [Pc.mv]; congr 2; omega
    · rfl
  · split <;> rfl
theorem scan_mv (d : Nat) : ∀ (i : Nat) s, scan (i + d) s = (scan i s).map (Pc.mv d) := by
  refine scan_ind (fun i => rfl) (fun i r ih => ?_) (fun i b r hb he => ?_) (fun i b r hb he ih => ?_)
  · rw [scan_blank, scan_blank, ← ih, Nat.add_right_comm]
  · have hp : pieceM ((i + d : Nat) : Int) b r = ((pieceM i b r).1.mv d, (pieceM i b r).2) := by rw [← pieceM_mv]; push_cast; rfl
    rw [scan_err hb he, scan_err hb (by rw [hp]; exact he), hp]; rfl
  · have hp : pieceM ((i + d : Nat) : Int) b r = ((pieceM i b r).1.mv d, (pieceM i b r).2) := by rw [← pieceM_mv]; push_cast; rfl
    rw [scan_ok hb he, scan_ok hb (by rw [hp]; exact he), hp]
    simp only [List.map_cons]
    rw [← ih, Nat.add_right_comm]

/-! ### Where the pieces stand -/
theorem scan_from : ∀ (i : Nat) s, ∀ p ∈ scan i s, (i : Int) ≤ p.a := fun i s p hp => (scanF_at _ _ _ p hp).1
theorem scan_sorted : ∀ (i : Nat) s, (scan i s).Pairwise fun p q => p.a + (p.s.length : Int) ≤ q.a ∧ p.a < q.a := by
  refine scan_ind (fun i => ?_) (fun i r ih => ?_) (fun i b r hb he => ?_) (fun i b r hb he ih => ?_)
  · rw [scan_nil']; exact .nil
  · rw [scan_blank]; exact ih
  · rw [scan_err hb he]; exact List.pairwise_singleton _ _
  · rw [scan_ok hb he]
    refine List.pairwise_cons.2 ⟨fun q hq => ?_, ih⟩
    have h1 := scan_from _ _ q hq
    have h2 := pieceM_pos he
    rw [(piece_text he).2, piece_len he]
    push_cast at h1
    omega
/-- Each piece of no error stands where it says. -/
theorem scan_text : ∀ (i : Nat) s, ∀ p ∈ scan i s, p.e = 0 → ∃ n : Nat, p.a = (i + n : Nat) ∧ p.s <+: s.drop n ∧ p.s ≠ [] ∧ n + p.s.length ≤ s.length := by
  refine scan_ind (fun i => ?_) (fun i r ih => ?_) (fun i b r hb he => ?_) (fun i b r hb he ih => ?_)
  · rw [scan_nil']; intro p hp; cases hp
  · rw [scan_blank]
    intro p hp h0
    obtain ⟨n, h1, h2, h3, h4⟩ := ih p hp h0
    exact ⟨n + 1, by rw [h1]; omega, by simpa using h2, h3, by simp only [List.length_cons]; omega⟩
  · rw [scan_err hb he]
    intro p hp h0
    rw [List.mem_singleton] at hp
    subst hp
    exact absurd h0 he
  · rw [scan_ok hb he]
    intro p hp h0
    rcases List.mem_cons.1 hp with rfl | hp
    · have h2 := pieceM_pos he
      have h3 := piece_len he
      have h4 := pieceM_len i b r
      refine ⟨0, by rw [(piece_text he).2]; simp, ?_, fun h => ?_, by omega⟩
      · rw [(piece_text he).1]; exact List.take_prefix _ _
      · rw [h] at h3; simp at h3; omega
    · obtain ⟨n, h1, h2, h3, h4⟩ := ih p hp h0
      refine ⟨(pieceM i b r).2 + n, by rw [h1]; omega, by rwa [List.drop_drop] at h2, h3, ?_⟩
      have := pieceM_len i b r
      rw [List.length_drop] at h4
      omega
/-- Each piece of no error is a comment, or right. -/
theorem scan_right : ∀ (i : Nat) s, ∀ p ∈ scan i s, p.e = 0 → p.k ≠ 6 → shapeM p.s = (p.k, 0) := by
  refine scan_ind (fun i => ?_) (fun i r ih => ?_) (fun i b r hb he => ?_) (fun i b r hb he ih => ?_)
  · rw [scan_nil']; intro p hp; cases hp
  · rw [scan_blank]; exact ih
  · rw [scan_err hb he]
    intro p hp h0
    rw [List.mem_singleton] at hp
    subst hp
    exact absurd h0 he
  · rw [scan_ok hb he]
    intro p hp h0 h6
    rcases List.mem_cons.1 hp with rfl | hp
    · rcases piece_right he with h | h
      · exact absurd h.1 h6
      · exact h.2.1
    · exact ih p hp h0 h6

/-! ### All lines -/
def allToks (want : Int → Bool) : Int → List (List UInt8) → List Tok
  | _, [] => []
  | l, s :: ls => keptOf want l (scanM s) ++ allToks want (l + 1) ls
def firstErr : Int → List (List UInt8) → Option (Int × Int × Int)
  | _, [] => none
  | l, s :: ls => match errOf (scanM s) with
    | some p => some (l, 1 + p.a, p.e)
    | none => firstErr (l + 1) ls
theorem readM_eq (want : Int → Bool) : ∀ (ls : List (List UInt8)) (l : Int) (acc : List Tok), readM want l ls acc = match firstErr l ls with
    | some e => ([], e)
    | none => (acc ++ allToks want l ls, 0, 0, 0)
  | [], l, acc => by simp [readM, firstErr, allToks]
  | s :: ls, l, acc => by
    simp only [readM, firstErr, allToks]
    cases errOf (scanM s) with
    | some p => rfl
    | none => simp only; rw [readM_eq want ls (l + 1)]; simp only [List.append_assoc]
theorem allToks_append (want : Int → Bool) : ∀ (a b : List (List UInt8)) (l : Int), allToks want l (a ++ b) = allToks want l a ++ allToks want (l + a.length) b
  | [], b, l => by simp [allToks]
  | s :: a, b, l => by
    simp only [List.cons_append, allToks, allToks_append want a b, List.length_cons, List.append_assoc]
    rw [show l + 1 + (a.length : Int) = l + ((a.length + 1 : Nat) : Int) by push_cast; omega]
theorem firstErr_append : ∀ (a b : List (List UInt8)) (l : Int), firstErr l (a ++ b) = (firstErr l a).or (firstErr (l + a.length) b)
  | [], b, l => by simp [firstErr]
  | s :: a, b, l => by
    simp only [List.cons_append, firstErr]
    cases errOf (scanM s) with
    | some p => rfl
    | none =>
      simp only
      rw [firstErr_append a b, List.length_cons, show l + 1 + (a.length : Int) = l + ((a.length + 1 : Nat) : Int) by push_cast; omega]
theorem keptOf_shift (want : Int → Bool) (l d : Int) (ps : List Pc) : keptOf want (l + d) ps = (keptOf want l ps).map (shiftT d) := by
  simp only [keptOf, List.map_map]
  rfl
theorem allToks_shift (want : Int → Bool) (d : Int) : ∀ (ls : List (List UInt8)) (l : Int), allToks want (l + d) ls = (allToks want l ls).map (shiftT d)
  | [], _ => rfl
  | s :: ls, l => by
    simp only [allToks, List.map_append, keptOf_shift]
    rw [show l + d + 1 = l + 1 + d by omega, allToks_shift want d ls]
theorem firstErr_shift (d : Int) : ∀ (ls : List (List UInt8)) (l : Int), firstErr (l + d) ls = (firstErr l ls).map fun e => (e.1 + d, e.2)
  | [], _ => rfl
  | s :: ls, l => by
    simp only [firstErr]
    cases errOf (scanM s) with
    | some p => rfl
    | none => simp only; rw [show l + d + 1 = l + 1 + d by omega, firstErr_shift d ls]
theorem allToks_len (want : Int → Bool) : ∀ (ls : List (List UInt8)) (l : Int), (allToks want l ls).length ≤ (ls.map List.length).sum
  | [], _ => by simp [allToks]
  | s :: ls, l => by
    have h1 := keptOf_len want l (scanM s)
    have h2 := scanM_len s
    have h3 := allToks_len want ls (l + 1)
    simp only [allToks, List.length_append, List.map_cons, List.sum_cons]
    omega
theorem keptOf_line {want : Int → Bool} {l : Int} {ps : List Pc} {t : Tok} (h : t ∈ keptOf want l ps) : t.l = l ∧ ∃ p ∈ ps, want p.k = true ∧ t = tokOf l p := by
  simp only [keptOf, List.mem_map, List.mem_filter] at h
  obtain ⟨p, ⟨h1, h2⟩, rfl⟩ := h
  exact ⟨rfl, p, h1, h2, rfl⟩
theorem allToks_mem (want : Int → Bool) : ∀ (ls : List (List UInt8)) (l : Int) (t : Tok), t ∈ allToks want l ls → ∃ (j : Nat) (x : List UInt8), ls[j]? = some x ∧ t ∈ keptOf want (l + j) (scanM x)
  | [], _, _, h => by cases h
  | s :: ls, l, t, h => by
    rcases List.mem_append.1 h with h | h
    · exact ⟨0, s, rfl, by simpa using h⟩
    · obtain ⟨j, x, h1, h2⟩ := allToks_mem want ls (l + 1) t h
      exact ⟨j + 1, x, by simpa using h1, by rw [show l + ((j + 1 : Nat) : Int) = l + 1 + j by push_cast; omega]; exact h2⟩
theorem firstErr_none {ls : List (List UInt8)} {l : Int} (h : firstErr l ls = none) : ∀ x ∈ ls, errOf (scanM x) = none := by
  induction ls generalizing l with
  | nil => simp
  | cons s ls ih =>
    simp only [firstErr] at h
    cases he : errOf (scanM s) with
    | some p => rw [he] at h; cases h
    | none =>
      rw [he] at h
      intro x hx
      rcases List.mem_cons.1 hx with rfl | hx
      · exact he
      · exact ih h x hx
theorem errOf_none {ps : List Pc} (h : errOf ps = none) : ∀ p ∈ ps, p.e = 0 := by
  intro p hp
  have := List.find?_eq_none.1 h p hp
  simpa using this
theorem tokensM_small {s : List UInt8} (h : s.length ≤ 6000) : tokensM s = readM isTok 1 (splitL 10 s) [] := by
  unfold tokensM
  rw [if_neg (by omega), if_neg]
  rintro ⟨_, h2⟩
  have h3 := readM_len isTok (splitL 10 s) 1 []
  have h4 := splitL_sum 10 s
  simp only [List.length_nil] at h3
  omega
theorem splitL_no (c : UInt8) : ∀ (s : List UInt8), ∀ x ∈ splitL c s, c ∉ x
  | [] => by simp [splitL]
  | b :: s => by
    have ih := splitL_no c s
    unfold splitL
    split
    · intro x hx
      rcases List.mem_cons.1 hx with rfl | hx
      · simp
      · exact ih x hx
    · rename_i hb
      cases he : splitL c s with
      | nil => exact absurd he (splitL_ne c s)
      | cons y r =>
        rw [he] at ih
        intro x hx
        rcases List.mem_cons.1 hx with rfl | hx
        · simp only [List.mem_cons, not_or]
          exact ⟨fun h => hb h.symm, ih y (by simp)⟩
        · exact ih x (by simp [hx])
theorem splitL_one {c : UInt8} {s : List UInt8} (h : c ∉ s) : splitL c s = [s] := splitL_none c s (fun b hb he => h (he ▸ hb))
/-- The tokens of a line by itself. -/
theorem tokensM_line {x : List UInt8} (h : 10 ∉ x) (hl : x.length ≤ 6000) : tokensM x = match firstErr 1 [x] with
    | some e => ([], e)
    | none => (allToks isTok 1 [x], 0, 0, 0) := by
  rw [tokensM_small hl, splitL_one h, readM_eq]
  rfl
end Go.Plane
end

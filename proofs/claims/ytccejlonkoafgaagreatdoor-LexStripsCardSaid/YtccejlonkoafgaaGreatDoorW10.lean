/- A part of the proof: the calculus over pure values, contracts of functions, and plain lemmas. -/
import Derived.Test.YtccejlonkoafgaaGreatDoorW9
import Derived.Test.YtccejlonkoafgaaGreatDoorW3
import Derived.Test.YtccejlonkoafgaaGreatDoorW4
section
set_option linter.unnecessarySimpa false
set_option linter.unusedVariables false
set_option linter.unusedSimpArgs false
set_option maxRecDepth 100000
set_option maxHeartbeats 8000000
namespace Go.Plane
open Go Go.Proofs
attribute [local irreducible] wops wio wic wdt wdb onOut
theorem joinTok_take (bl : Tok → Tok → Bool) (l : List Tok) (i : Nat) : (joinTok bl none (l.take i)).length ≤ (joinTok bl none l).length := by
  have key : ∀ (l m : List Tok) (o : Option Tok), (joinTok bl o l).length ≤ (joinTok bl o (l ++ m)).length := by
    intro l
    induction l with
    | nil => intro m o; simp [joinTok]
    | cons t l ih =>
      intro m o
      have := ih m (some t)
      simp only [List.cons_append, joinTok, List.length_append] at *
      omega
  have := key (l.take i) (l.drop i) none
  rwa [List.take_append_drop] at this
theorem bytesOf_bytesD : ∀ u : List UInt8, bytesOf (bytesD u) = some u
  | [] => rfl
  | b :: u => by
    have ih := bytesOf_bytesD u
    simp only [bytesD] at ih
    simp [bytesD, bytesOf, ih]
/-- The reference's text of tokens. -/
theorem r_put (l : List Tok) (al : Bool) (hl : l.length ≤ 1000000) (hsl : ∀ t ∈ l, t.s.length ≤ 1000) :
    F Γz 42 [.d (.slice (toksD l)), .d (.bool al)] (.agg [.str (writeM (fun a b => al || needsM a b) l).1, .int .i64 (writeM (fun a b => al || needsM a b) l).2]) := by
  refine fn_of c42 rfl (by simp only [Env.of, List.zipIdx, List.map]; rfl) ?_
  have hln := toksD_length l
  by_cases h6 : 6000 < l.length
  · have h : writeM (fun a b => al || needsM a b) l = ([], 3) := by unfold writeM; rw [if_pos h6]
    rw [h]
    repeat' (first | refine dr ?_ | (refine ds ?_ ?_ <;> intro hb) | ((with_reducible refine dbm ?_); first | exact db_nil | refine dbc ?_ ?_) | ((with_reducible refine natle ?_); first | assumption | omega | (simp; omega)))
    all_goals (simp; done)
  repeat' (first | refine dr ?_ | (refine ds ?_ ?_ <;> intro hb) | ((with_reducible refine dbm ?_); first | exact db_nil | refine dbc ?_ ?_) | ((with_reducible refine natle ?_); first | assumption | omega | (simp; omega)))
  refine LP_for l (fun i _ => [(0, .d (.slice (toksD l))), (1, .d (.bool al)), (4, .ptr 0 0), (5, .d (.int .i64 0)), (6, .d (.int .i64 i))])
    (fun _ _ => [.box 44 [.d (.str []), .d (.int .i64 0)]]) (fun i (_ : Unit) => ∀ t ∈ l.take i, rightM t = true) () ?_ ?_ (by simp) ?_ ?_
  · (first | (simp [Env.shr, Env.get, PV.exp, PV.ids, PV.ids.idsL]; done) | simp [Env.shr, Env.get, PV.exp, PV.ids, PV.ids.idsL, *])
  · first | rfl | simp [shrink, Ent.exp, PV.exp, PV.ids]
  · rintro i x _ hx hi hI ih
    have hrx := toksD_at hx
    have hr := r_right x (by have := hsl x (List.mem_of_getElem? hx); omega)
    cases hrt : rightM x with
    | false =>
      have h : writeM (fun a b => al || needsM a b) l = ([], 1) := by
        unfold writeM
        rw [if_neg h6, if_pos]
        rw [List.any_eq_true]
        exact ⟨x, List.mem_of_getElem? hx, by rw [hrt]; rfl⟩
      rw [h]
      rw [hrt] at hr
      simp only [Tok.row] at hr
      clear ih h hI
      repeat' (first | ((with_reducible refine wcm ?_); first | refine cF (hr) ?_) | refine dr ?_ | (refine ds ?_ ?_ <;> intro hb) | ((with_reducible refine dbm ?_); first | exact db_nil | refine dbc ?_ ?_) | ((with_reducible refine natle ?_); first | assumption | omega | (simp; omega)))
      all_goals (simp; done)
    | true =>
      have ih := ih () (by
        intro t ht
        rw [List.take_add_one, hx, List.mem_append] at ht
        rcases ht with ht | ht
        · exact hI t ht
        · simp at ht; rw [ht]; exact hrt)
      rw [hrt] at hr
      simp only [Tok.row] at hr
      clear hI
      repeat' (first | ((with_reducible refine wcm ?_); first | refine cF (hr) ?_) | refine dr ?_ | (refine ds ?_ ?_ <;> intro hb) | ((with_reducible refine dbm ?_); first | exact db_nil | refine dbc ?_ ?_) | ((with_reducible refine natle ?_); first | assumption | omega | (simp; omega)))
      refine LP_at ?_ ?_ ih
      · (first | (simp [Env.shr, Env.get, PV.exp, PV.ids, PV.ids.idsL]; done) | simp [Env.shr, Env.get, PV.exp, PV.ids, PV.ids.idsL, *])
      · first | rfl | simp [shrink, Ent.exp, PV.exp, PV.ids]
  rintro _ hI
  rw [List.take_length] at hI
  have hn : ∀ a ∈ l, ∀ b ∈ l, F Γz 46 [.agg a.row, .agg b.row] (.d (.bool (needsM a b))) := fun a ha b hb => r_needs a b (hI a ha) (hI b hb) (by have := hsl a ha; have := hsl b hb; omega)
  have h : writeM (fun a b => al || needsM a b) l = if 20000 < (joinTok (fun a b => al || needsM a b) none l).length then ([], 3) else (joinTok (fun a b => al || needsM a b) none l, 0) := by
    unfold writeM
    rw [if_neg h6, if_neg]
    rw [Bool.not_eq_true, List.any_eq_false]
    intro t ht
    rw [hI t ht]
    simp
  rw [h]
  clear h hI
  have hjl := joinTok_len (fun a b => al || needsM a b) l none
  have hbig : (joinTok (fun a b => al || needsM a b) none l).length ≤ 10000000 := by
    have := joinTok_le (fun a b => al || needsM a b) l 1000 hsl
    omega
  have htk : ∀ i, (joinTok (fun a b => al || needsM a b) none (l.take i)).length ≤ 10000000 := fun i => Nat.le_trans (joinTok_take (fun a b => al || needsM a b) l i) hbig
  clear hbig hjl
  repeat' (first | refine dr ?_ | (refine ds ?_ ?_ <;> intro hb) | ((with_reducible refine dbm ?_); first | exact db_nil | refine dbc ?_ ?_) | ((with_reducible refine natle ?_); first | assumption | omega | (simp; omega)))
  refine LP_for l (fun i (n : Nat) => [(0, .d (.slice (toksD l))), (1, .d (.bool al)), (4, .ptr 0 0), (5, .d (.int .i64 n)), (8, .d (.int .i64 i))])
    (fun _ _ => [.box 44 [.d (.str []), .d (.int .i64 0)]]) (fun i n => n = (joinTok (fun a b => al || needsM a b) none (l.take i)).length) 0 ?_ ?_ (by simp [joinTok]) ?_ ?_
  · (first | (simp [Env.shr, Env.get, PV.exp, PV.ids, PV.ids.idsL]; done) | simp [Env.shr, Env.get, PV.exp, PV.ids, PV.ids.idsL, *])
  · first | rfl | simp [shrink, Ent.exp, PV.exp, PV.ids]
  · rintro i x n hx hi hI ih
    have hrx := toksD_at hx
    have hxs := hsl x (List.mem_of_getElem? hx)
    have htk1 := htk (i + 1)
    rw [List.take_add_one, hx] at htk1 ih
    simp only [Option.toList] at htk1 ih
    rw [joinTok_snoc, List.length_append, List.length_append] at htk1 ih
    rw [← hI] at htk1 ih
    cases i with
    | zero =>
      have ih := ih (n + x.s.length) (by simp [sepM])
      clear hn htk
      simp only [List.take_zero, joinTok, List.length_nil] at hI
      subst hI
      repeat' (first | refine dr ?_ | (refine ds ?_ ?_ <;> intro hb) | ((with_reducible refine dbm ?_); first | exact db_nil | refine dbc ?_ ?_) | ((with_reducible refine natle ?_); first | assumption | omega | (simp; omega)))
      refine LP_at ?_ ?_ ih
      · (first | (simp [Env.shr, Env.get, PV.exp, PV.ids, PV.ids.idsL]; done) | simp [Env.shr, Env.get, PV.exp, PV.ids, PV.ids.idsL, *])
      · first | rfl | simp [shrink, Ent.exp, PV.exp, PV.ids]
    | succ j =>
      have hj : j < l.length := by omega
      have hy : l[j]? = some l[j] := List.getElem?_eq_getElem hj
      generalize l[j] = y at hy
      have hry := toksD_at hy
      have hj1 : (max 0 ((((j + 1 : Nat) : Int)) - 1)) = (j : Int) := by omega
      have hj2 : (((j : Int)).toNat) = j := by omega
      have hlast := getLast_take hy
      have hblk := hn y (List.mem_of_getElem? hy) x (List.mem_of_getElem? hx)
      rw [hlast] at htk1 ih
      simp only [Option.some_or, sepM] at htk1 ih
      clear hn htk hI hlast
      cases al with
      | true =>
        simp only [Bool.true_or, if_true, List.length_singleton] at htk1 ih
        replace ih := ih (n + x.s.length + 1) (by omega)
        repeat' (first | refine dr ?_ | (refine ds ?_ ?_ <;> intro hb) | ((with_reducible refine dbm ?_); first | exact db_nil | refine dbc ?_ ?_) | ((with_reducible refine natle ?_); first | assumption | omega | (simp; omega)))
        refine LP_at ?_ ?_ ih
        · (first | (simp [Env.shr, Env.get, PV.exp, PV.ids, PV.ids.idsL]; done) | simp [Env.shr, Env.get, PV.exp, PV.ids, PV.ids.idsL, *])
        · first | rfl | simp [shrink, Ent.exp, PV.exp, PV.ids]
      | false =>
        simp only [Bool.false_or] at htk1 ih
        simp only [Tok.row] at hblk
        cases hbl : needsM y x with
        | true =>
          rw [hbl] at hblk
          simp only [hbl, if_true, List.length_singleton] at htk1 ih
          replace ih := ih (n + x.s.length + 1) (by omega)
          repeat' (first | ((with_reducible refine wcm ?_); first | refine cF (hblk) ?_) | refine dr ?_ | (refine ds ?_ ?_ <;> intro hb) | ((with_reducible refine dbm ?_); first | exact db_nil | refine dbc ?_ ?_) | ((with_reducible refine natle ?_); first | assumption | omega | (simp; omega)))
          refine LP_at ?_ ?_ ih
          · (first | (simp [Env.shr, Env.get, PV.exp, PV.ids, PV.ids.idsL]; done) | simp [Env.shr, Env.get, PV.exp, PV.ids, PV.ids.idsL, *])
          · first | rfl | simp [shrink, Ent.exp, PV.exp, PV.ids]
        | false =>
          rw [hbl] at hblk
          simp only [hbl, Bool.false_eq_true, if_false, List.length_nil] at htk1 ih
          replace ih := ih (n + x.s.length) (by omega)
          repeat' (first | ((with_reducible refine wcm ?_); first | refine cF (hblk) ?_) | refine dr ?_ | (refine ds ?_ ?_ <;> intro hb) | ((with_reducible refine dbm ?_); first | exact db_nil | refine dbc ?_ ?_) | ((with_reducible refine natle ?_); first | assumption | omega | (simp; omega)))
          refine LP_at ?_ ?_ ih
          · (first | (simp [Env.shr, Env.get, PV.exp, PV.ids, PV.ids.idsL]; done) | simp [Env.shr, Env.get, PV.exp, PV.ids, PV.ids.idsL, *])
          · first | rfl | simp [shrink, Ent.exp, PV.exp, PV.ids]
  rintro n hI
  rw [List.take_length] at hI
  by_cases hb : 20000 < (joinTok (fun a b => al || needsM a b) none l).length
  · rw [if_pos hb]
    rw [← hI] at hb
    clear htk hn hI
    repeat' (first | refine dr ?_ | (refine ds ?_ ?_ <;> intro hb) | ((with_reducible refine dbm ?_); first | exact db_nil | refine dbc ?_ ?_) | ((with_reducible refine natle ?_); first | assumption | omega | (simp; omega)))
    all_goals (simp; done)
  rw [if_neg hb]
  subst hI
  have hmk : ((joinTok (fun a b => al || needsM a b) none l).length : Int) ≤ (maxList : Int) := by unfold maxList; omega
  repeat' (first | refine dr ?_ | (refine ds ?_ ?_ <;> intro hb) | ((with_reducible refine dbm ?_); first | exact db_nil | refine dbc ?_ ?_) | ((with_reducible refine natle ?_); first | assumption | omega | (simp; omega)))
  refine LP_for l (fun i (u : List UInt8) => [(0, .d (.slice (toksD l))), (1, .d (.bool al)), (4, .ptr 0 0), (9, .lref 1 u.length), (10, .d (.int .i64 i))])
    (fun _ u => [.box 44 [.d (.str []), .d (.int .i64 0)], .lst (5, 1) (bytesD u)]) (fun i u => u = joinTok (fun a b => al || needsM a b) none (l.take i)) [] ?_ ?_ (by simp [joinTok]) ?_ ?_
  · (first | (simp [Env.shr, Env.get, PV.exp, PV.ids, PV.ids.idsL]; done) | simp [Env.shr, Env.get, PV.exp, PV.ids, PV.ids.idsL, *])
  · first | rfl | simp [shrink, Ent.exp, PV.exp, PV.ids, bytesD]
  · rintro i x u hx hi hI ih
    have hrx := toksD_at hx
    have hxs := hsl x (List.mem_of_getElem? hx)
    have htk1 := htk (i + 1)
    rw [List.take_add_one, hx] at htk1 ih
    simp only [Option.toList] at htk1 ih
    rw [joinTok_snoc] at htk1 ih
    rw [← hI] at htk1 ih
    rw [List.length_append, List.length_append] at htk1
    have hbl := bytesD_length u
    have hbl2 := bytesD_len x.s
    have h32l : (bytesD u ++ [[D.int .u8 32]]).length = u.length + 1 := by rw [List.length_append, bytesD_length]; rfl
    cases i with
    | zero =>
      have ih := ih (u ++ x.s) (by simp [sepM])
      simp only [List.take_zero, joinTok] at hI
      subst hI
      clear hn htk
      repeat' (first | refine dr ?_ | (refine ds ?_ ?_ <;> intro hb) | ((with_reducible refine dbm ?_); first | exact db_nil | refine dbc ?_ ?_) | ((with_reducible refine natle ?_); first | assumption | omega | (simp; omega)))
      refine LP_at ?_ ?_ ih
      · (first | (simp [Env.shr, Env.get, PV.exp, PV.ids, PV.ids.idsL]; done) | simp [Env.shr, Env.get, PV.exp, PV.ids, PV.ids.idsL, *])
      · simp [shrink, Ent.exp, PV.exp, PV.ids, bytesD]
    | succ j =>
      have hj : j < l.length := by omega
      have hy : l[j]? = some l[j] := List.getElem?_eq_getElem hj
      generalize l[j] = y at hy
      have hry := toksD_at hy
      have hj1 : (max 0 ((((j + 1 : Nat) : Int)) - 1)) = (j : Int) := by omega
      have hj2 : (((j : Int)).toNat) = j := by omega
      have hlast := getLast_take hy
      have hblk := hn y (List.mem_of_getElem? hy) x (List.mem_of_getElem? hx)
      rw [hlast] at htk1 ih
      simp only [Option.some_or, sepM] at htk1 ih
      clear hn htk hI hlast
      cases al with
      | true =>
        simp only [Bool.true_or, if_true, List.length_singleton] at htk1 ih
        replace ih := ih (u ++ [32] ++ x.s) (by simp)
        repeat' (first | refine dr ?_ | (refine ds ?_ ?_ <;> intro hb) | ((with_reducible refine dbm ?_); first | exact db_nil | refine dbc ?_ ?_) | ((with_reducible refine natle ?_); first | assumption | omega | (simp; omega)))
        refine LP_at ?_ ?_ ih
        · simp [Env.shr, Env.get, PV.exp, PV.ids, PV.ids.idsL, *] <;> omega
        · simp [shrink, Ent.exp, PV.exp, PV.ids, bytesD] <;> omega
      | false =>
        simp only [Bool.false_or] at htk1 ih
        simp only [Tok.row] at hblk
        cases hbl : needsM y x with
        | true =>
          rw [hbl] at hblk
          simp only [hbl, if_true, List.length_singleton] at htk1 ih
          replace ih := ih (u ++ [32] ++ x.s) (by simp)
          repeat' (first | ((with_reducible refine wcm ?_); first | refine cF (hblk) ?_) | refine dr ?_ | (refine ds ?_ ?_ <;> intro hb) | ((with_reducible refine dbm ?_); first | exact db_nil | refine dbc ?_ ?_) | ((with_reducible refine natle ?_); first | assumption | omega | (simp; omega)))
          refine LP_at ?_ ?_ ih
          · simp [Env.shr, Env.get, PV.exp, PV.ids, PV.ids.idsL, *] <;> omega
          · simp [shrink, Ent.exp, PV.exp, PV.ids, bytesD] <;> omega
        | false =>
          rw [hbl] at hblk
          simp only [hbl, Bool.false_eq_true, if_false, List.length_nil, List.nil_append] at htk1 ih
          replace ih := ih (u ++ x.s) rfl
          repeat' (first | ((with_reducible refine wcm ?_); first | refine cF (hblk) ?_) | refine dr ?_ | (refine ds ?_ ?_ <;> intro hb) | ((with_reducible refine dbm ?_); first | exact db_nil | refine dbc ?_ ?_) | ((with_reducible refine natle ?_); first | assumption | omega | (simp; omega)))
          refine LP_at ?_ ?_ ih
          · simp [Env.shr, Env.get, PV.exp, PV.ids, PV.ids.idsL, *] <;> omega
          · simp [shrink, Ent.exp, PV.exp, PV.ids, bytesD] <;> omega
  rintro u hI2
  rw [List.take_length] at hI2
  rw [← hI2]
  have ht : (bytesD u).take u.length = bytesD u := List.take_of_length_le (by rw [bytesD_length]; exact Nat.le_refl _)
  have hbl := bytesD_length u
  have hby := bytesOf_bytesD u
  clear htk hn hI2 hb
  repeat' (first | refine dr ?_ | (refine ds ?_ ?_ <;> intro hb) | ((with_reducible refine dbm ?_); first | exact db_nil | refine dbc ?_ ?_) | ((with_reducible refine natle ?_); first | assumption | omega | (simp; omega)))
  all_goals (simp [ht]; done)
theorem r_Write (l : List Tok) (hl : l.length ≤ 1000000) (hsl : ∀ t ∈ l, t.s.length ≤ 1000) : F Γz 14 [.d (.slice (toksD l))] (.agg [.str (writeM (fun _ _ => true) l).1, .int .i64 (writeM (fun _ _ => true) l).2]) := by
  refine fn_of c14 rfl (by simp only [Env.of, List.zipIdx, List.map]; rfl) ?_
  have h := r_put l true hl hsl
  simp only [Bool.true_or] at h
  generalize writeM (fun _ _ => true) l = r at *
  repeat' (first | ((with_reducible refine wcm ?_); first | refine cF (h) ?_) | refine dr ?_ | (refine ds ?_ ?_ <;> intro hb) | ((with_reducible refine dbm ?_); first | exact db_nil | refine dbc ?_ ?_) | ((with_reducible refine natle ?_); first | assumption | omega | (simp; omega)))
  all_goals (simp; done)
theorem r_Tight (l : List Tok) (hl : l.length ≤ 1000000) (hsl : ∀ t ∈ l, t.s.length ≤ 1000) : F Γz 16 [.d (.slice (toksD l))] (.agg [.str (writeM needsM l).1, .int .i64 (writeM needsM l).2]) := by
  refine fn_of c16 rfl (by simp only [Env.of, List.zipIdx, List.map]; rfl) ?_
  have h := r_put l false hl hsl
  simp only [Bool.false_or] at h
  have he : (fun a b => needsM a b) = needsM := rfl
  rw [he] at h
  clear he
  generalize writeM needsM l = r at *
  repeat' (first | ((with_reducible refine wcm ?_); first | refine cF (h) ?_) | refine dr ?_ | (refine ds ?_ ?_ <;> intro hb) | ((with_reducible refine dbm ?_); first | exact db_nil | refine dbc ?_ ?_) | ((with_reducible refine natle ?_); first | assumption | omega | (simp; omega)))
  all_goals (simp; done)
end Go.Plane
end
section
set_option linter.unnecessarySimpa false
set_option linter.unusedVariables false
set_option linter.unusedSimpArgs false
set_option maxRecDepth 100000
set_option maxHeartbeats 8000000
namespace Go.Plane
open Go Go.Proofs
attribute [local irreducible] wops wio wic wdt wdb onOut
def fewM (l : List Tok) : Bool := decide (∀ t ∈ l, t.s.length ≤ 60) && decide (l.length ≤ 40 ∨ (6000 < l.length ∧ l.length ≤ 6010))
theorem f_few (l : List Tok) (hl : (l.length : Int) ≤ 9223372036854775807) : F Γz 12 [.d (.slice (toksD l))] (.d (.bool (fewM l))) := by
  refine fn_of c12 rfl (by simp only [Env.of, List.zipIdx, List.map]; rfl) ?_
  have hln := toksD_length l
  repeat' (first | refine dr ?_ | (refine ds ?_ ?_ <;> intro hb) | ((with_reducible refine dbm ?_); first | exact db_nil | refine dbc ?_ ?_) | ((with_reducible refine natle ?_); first | assumption | omega | (simp; omega)))
  refine LP_for l (fun i _ => [(0, .d (.slice (toksD l))), (3, .d (.int .i64 i))]) (fun _ _ => []) (fun i (_ : Unit) => ∀ y ∈ l.take i, y.s.length ≤ 60) () ?_ ?_ (by simp) ?_ ?_
  · (first | (simp [Env.shr, Env.get, PV.exp, PV.ids, PV.ids.idsL]; done) | simp [Env.shr, Env.get, PV.exp, PV.ids, PV.ids.idsL, *])
  · first | rfl | simp [shrink, Ent.exp, PV.exp, PV.ids]
  · rintro i y _ hy hi hI ih
    have hr := toksD_at hy
    by_cases h9 : 60 < y.s.length
    · have : fewM l = false := by
        unfold fewM
        rw [decide_eq_false, Bool.false_and]
        intro h
        have := h y (List.mem_of_getElem? hy)
        omega
      rw [this]
      clear ih hI this
      repeat' (first | refine dr ?_ | (refine ds ?_ ?_ <;> intro hb) | ((with_reducible refine dbm ?_); first | exact db_nil | refine dbc ?_ ?_) | ((with_reducible refine natle ?_); first | assumption | omega | (simp; omega)))
      all_goals (simp; done)
    · have ih := ih () (fun z hz => by
        rw [List.take_add_one, hy, List.mem_append] at hz
        rcases hz with hz | hz
        · exact hI z hz
        · simp at hz; subst hz; omega)
      clear hI
      repeat' (first | refine dr ?_ | (refine ds ?_ ?_ <;> intro hb) | ((with_reducible refine dbm ?_); first | exact db_nil | refine dbc ?_ ?_) | ((with_reducible refine natle ?_); first | assumption | omega | (simp; omega)))
      refine LP_at ?_ ?_ ih
      · (first | (simp [Env.shr, Env.get, PV.exp, PV.ids, PV.ids.idsL]; done) | simp [Env.shr, Env.get, PV.exp, PV.ids, PV.ids.idsL, *])
      · first | rfl | simp [shrink, Ent.exp, PV.exp, PV.ids]
  · rintro _ hI
    rw [List.take_length] at hI
    have h1 : fewM l = decide (l.length ≤ 40 ∨ (6000 < l.length ∧ l.length ≤ 6010)) := by
      unfold fewM
      rw [decide_eq_true (p := ∀ t ∈ l, t.s.length ≤ 60) hI, Bool.true_and]
    rw [h1]
    clear h1 hI
    by_cases h4 : l.length ≤ 40
    · repeat' (first | refine dr ?_ | (refine ds ?_ ?_ <;> intro hb) | ((with_reducible refine dbm ?_); first | exact db_nil | refine dbc ?_ ?_) | ((with_reducible refine natle ?_); first | assumption | omega | (simp; omega)))
      all_goals (refine ⟨?_, rfl⟩; congr 3; rw [Bool.eq_iff_iff]; simp only [decide_eq_true_eq, true_iff, Bool.false_eq_true, false_iff]; omega)
    by_cases h5 : 6000 < l.length
    · by_cases h6 : l.length ≤ 6010
      · repeat' (first | refine dr ?_ | (refine ds ?_ ?_ <;> intro hb) | ((with_reducible refine dbm ?_); first | exact db_nil | refine dbc ?_ ?_) | ((with_reducible refine natle ?_); first | assumption | omega | (simp; omega)))
        all_goals (refine ⟨?_, rfl⟩; congr 3; rw [Bool.eq_iff_iff]; simp only [decide_eq_true_eq, true_iff, Bool.false_eq_true, false_iff]; omega)
      · repeat' (first | refine dr ?_ | (refine ds ?_ ?_ <;> intro hb) | ((with_reducible refine dbm ?_); first | exact db_nil | refine dbc ?_ ?_) | ((with_reducible refine natle ?_); first | assumption | omega | (simp; omega)))
        all_goals (refine ⟨?_, rfl⟩; congr 3; rw [Bool.eq_iff_iff]; simp only [decide_eq_true_eq, true_iff, Bool.false_eq_true, false_iff]; omega)
    · repeat' (first | refine dr ?_ | (refine ds ?_ ?_ <;> intro hb) | ((with_reducible refine dbm ?_); first | exact db_nil | refine dbc ?_ ?_) | ((with_reducible refine natle ?_); first | assumption | omega | (simp; omega)))
      all_goals (refine ⟨?_, rfl⟩; congr 3; rw [Bool.eq_iff_iff]; simp only [decide_eq_true_eq, true_iff, Bool.false_eq_true, false_iff]; omega)
/-- **LexWrites.** -/
theorem law_Writes (l : List Tok) (hl : (l.length : Int) ≤ 9223372036854775807) : F Γz 4 [.d (.slice (toksD l))] (.d (.bool true)) := by
  refine fn_of c4 rfl (by simp only [Env.of, List.zipIdx, List.map]; rfl) ?_
  have hsan := f_sanity
  have hfw := f_few l hl
  have hln := toksD_length l
  cases hf : fewM l with
  | false =>
    rw [hf] at hfw
    repeat' (first | ((with_reducible refine wcm ?_); first | refine cF (hfw) ?_ | refine cF (hsan) ?_) | refine dr ?_ | (refine ds ?_ ?_ <;> intro hb) | ((with_reducible refine dbm ?_); first | exact db_nil | refine dbc ?_ ?_) | ((with_reducible refine natle ?_); first | assumption | omega | (simp; omega)))
    all_goals (simp; done)
  | true =>
    rw [hf] at hfw
    obtain ⟨h60, hn⟩ := Bool.and_eq_true_iff.1 hf
    have h60 := of_decide_eq_true h60
    have hn := of_decide_eq_true hn
    have hsum := sum_le l 60 h60
    have hW := f_Write l (by omega) (by omega) (fun t ht => by have := h60 t ht; omega)
    have hT := f_Tight l (by omega) (by omega) (fun t ht => by have := h60 t ht; omega)
    have rW := r_Write l (by omega) (fun t ht => by have := h60 t ht; omega)
    have rT := r_Tight l (by omega) (fun t ht => by have := h60 t ht; omega)
    simp only [textP] at hW hT
    generalize writeM (fun _ _ => true) l = a at *
    generalize writeM needsM l = b at *
    rcases l with _ | ⟨x, _ | ⟨y, m⟩⟩
    · clear hf hl hsum hn h60
      simp only [toksD, List.map_nil] at hfw hW hT rW rT hln ⊢
      repeat' (first | ((with_reducible refine wcm ?_); first | refine cF (hfw) ?_ | refine cF (hW) ?_ | refine cF (hT) ?_ | refine cF (rW) ?_ | refine cF (rT) ?_ | refine cF (hsan) ?_) | refine dr ?_ | (refine ds ?_ ?_ <;> intro hb) | ((with_reducible refine dbm ?_); first | exact db_nil | refine dbc ?_ ?_) | ((with_reducible refine natle ?_); first | assumption | omega | (simp; omega)))
      all_goals (simp; done)
    · clear hf hl hsum hn h60
      simp only [toksD, List.map_nil, List.map_cons] at hfw hW hT rW rT hln ⊢
      repeat' (first | ((with_reducible refine wcm ?_); first | refine cF (hfw) ?_ | refine cF (hW) ?_ | refine cF (hT) ?_ | refine cF (rW) ?_ | refine cF (rT) ?_ | refine cF (hsan) ?_) | refine dr ?_ | (refine ds ?_ ?_ <;> intro hb) | ((with_reducible refine dbm ?_); first | exact db_nil | refine dbc ?_ ?_) | ((with_reducible refine natle ?_); first | assumption | omega | (simp; omega)))
      all_goals (simp; done)
    · have hN := f_Needs x y (by have := h60 x (by simp); omega) (by have := h60 y (by simp); omega)
      have rN := r_Needs x y (by have := h60 x (by simp); omega) (by have := h60 y (by simp); omega)
      generalize needsE x y = c at *
      have h2 : 2 ≤ (x :: y :: m).length := by simp
      have g0 : (toksD (x :: y :: m))[((0 : Int)).toNat]? = some x.row := rfl
      have g1 : (toksD (x :: y :: m))[((1 : Int)).toNat]? = some y.row := rfl
      generalize x :: y :: m = l at *
      simp only [Tok.row] at hN rN g0 g1
      clear hf hsum h60
      repeat' (first | ((with_reducible refine wcm ?_); first | refine cF (hfw) ?_ | refine cF (hW) ?_ | refine cF (hT) ?_ | refine cF (rW) ?_ | refine cF (rT) ?_ | refine cF (hN) ?_ | refine cF (rN) ?_ | refine cF (hsan) ?_) | refine dr ?_ | (refine ds ?_ ?_ <;> intro hb) | ((with_reducible refine dbm ?_); first | exact db_nil | refine dbc ?_ ?_) | ((with_reducible refine natle ?_); first | assumption | omega | (simp; omega)))
      all_goals (simp; done)
end Go.Plane
end
section
set_option linter.unnecessarySimpa false
set_option linter.unusedVariables false
set_option linter.unusedSimpArgs false
set_option maxRecDepth 100000
namespace Go.Plane
open Go Go.Proofs Go.RowKit
theorem strsD_flat : ∀ l : List (List UInt8), (strsD l).flatten = l.map D.str
  | [] => rfl
  | x :: l => by
    have ih := strsD_flat l
    simp only [strsD] at ih
    simp [strsD, ih]
/-- strings.Split lays a row of its own. -/
theorem R_Split (s : List UInt8) (c : UInt8) (hs : s.length < 4294967281) : RowF Γz 32 [.d (.str s), .d (.str [c])] 9 ((splitL c s).map D.str) := by
  have hcnt : s.count c ≤ s.length := List.count_le_length
  refine ⟨by kernel_rfl, by rw [List.length_map, splitL_length]; omega, fun M w vs hrel hgw hl ha => ?_⟩
  have hh := rel_nil hrel hgw
  have hr : RepL M vs [.d (.str s), .d (.str [c])] := ⟨hl, ha⟩
  obtain ⟨v1, _, rfl, h1, hr⟩ := hr.cons_inv
  obtain ⟨v2, _, rfl, h2, hr⟩ := hr.cons_inv
  obtain rfl := hr.nil_inv
  obtain ⟨a, rfl, rfl, h3, _⟩ := h1.str_inv
  obtain ⟨b, rfl, hb, _, _⟩ := h2.str_inv
  obtain rfl := str_of hb
  obtain ⟨m, hm⟩ := hh.1.1
  have key := Tryz.strings_Split a ⟨#[c]⟩ m w (by omega) (hh.2.2 1 0 _ hm) (by simp [ByteArray.size])
  refine ⟨(Lib.splitB ⟨#[c]⟩ 0 (Lib.countB a ⟨#[c]⟩) a).map Value.string, ?_, ?_⟩
  · rw [← splitB_eq, ← strsD_flat]
    refine repds_strs _ fun x hx => ?_
    have : x.data.toList ∈ splitL c a.data.toList := by rw [← splitB_eq]; exact List.mem_map.2 ⟨x, hx, rfl⟩
    have := splitL_le c _ _ this
    omega
  · have hl : ((splitL c a.data.toList).map D.str).length = Lib.countB a ⟨#[c]⟩ + 1 := by
      rw [List.length_map, splitL_length, ← count_one]
    rw [hl]
    exact key
/-- A row of texts that may be written. -/
abbrev rowS (l : List (List UInt8)) : Store := [.box 9 (l.map fun x => .d (.str x))]
theorem rel_belowS {Γ : Cfg} {M : Mem} {ρ : List Gh} {ty : TypeId} {cs : List PV} {w : World} (h : Rel Γ M ρ [.box ty cs] w) {w' : World} (hb : Below w.heap.size w w') : Stp Γ M ρ [.box ty cs] w M ρ [.box ty cs] w' := by
  obtain ⟨b, vs, e, h1, h2, h3, h4, h5, h6⟩ := h.box 0 ty cs rfl
  have hlt : ∀ b o v, M b o = some v → b < w.heap.size := fun b o v hm => h.mem_lt hm
  have hbl : b < w.heap.size := (Array.getElem?_eq_some_iff.1 h2).1
  refine ⟨⟨hb.os, hb.tape, hb.output, hb.size, fun b hb' _ => hb.block b hb', Mem.le_refl M, fun b o v h1 h2 => (by rw [h1] at h2; cases h2), fun b s hs => ?_⟩,
    ⟨h.gl, fun b o v hm => ?_, h.len, fun i ty' cs' hi => ?_, fun i sz xs hi => ?_, h.inj⟩, fun b hb' => .inl hb', fun i => Tr.refl _ _ i⟩
  · have hlt' : b < w.heap.size := by
      rcases Nat.lt_or_ge b w.heap.size with h1 | h1
      · exact h1
      · exfalso; unfold World.shape? at hs; rw [Array.getElem?_eq_none h1] at hs; cases hs
    unfold World.shape? at hs ⊢
    rw [hb.block b hlt']
    exact hs
  · have := h.mem b o v hm
    unfold World.cell? at this ⊢
    rw [hb.block b (hlt b o v hm)]
    exact this
  · cases i with
    | zero =>
      simp at hi
      obtain ⟨rfl, rfl⟩ := hi
      exact ⟨b, vs, e, h1, by rw [hb.block b hbl]; exact h2, h3, h4, h5, h6⟩
    | succ i => simp at hi
  · cases i with
    | zero => simp at hi
    | succ i => simp at hi
/-- strings.Join over such a row. -/
theorem ft_Join (l : List (List UInt8)) (sep : List UInt8) (hlen : (sep.intercalate l).length ≤ 140737488355328) (hN : l.length ≤ 140737488355328) :
    FT Γz 49 [.sbox 0 l.length, .d (.str sep)] (rowS l) (.d (.str (sep.intercalate l))) (rowS l) := by
  refine ⟨by kernel_rfl, fun M ρ w vs hrel hgw hl ha => ?_⟩
  obtain ⟨v1, v2, rfl⟩ : ∃ a b, vs = [a, b] := by
    match vs, hl with
    | [a, b], _ => exact ⟨a, b, rfl⟩
  have h1 := ha 0 v1 _ rfl rfl
  have h2 := ha 1 v2 _ rfl rfl
  obtain ⟨bs, rfl, hbs, _⟩ := h2.d_inv.str_inv
  obtain ⟨b, arr, e, k1, k2, k3, k4, k5, k6⟩ := hrel.box 0 _ _ rfl
  obtain ⟨blk, rfl, _, hg⟩ := h1.sbox_inv
  rw [hg] at k1
  simp only [Option.some.injEq, Gh.blk.injEq] at k1
  subst k1 hbs
  have hcell : ∀ (j : Nat) (x : ByteArray), (l.map fun x => (⟨x.toArray⟩ : ByteArray))[j]? = some x → w.cell? ⟨blk, 0 + j, none⟩ = some (.string x) := fun j x hx => by
    rw [List.getElem?_map] at hx
    obtain ⟨y, hy, rfl⟩ := Option.map_eq_some_iff.1 hx
    have hj : j < arr.size := by rw [k3, List.length_map]; exact (List.getElem?_eq_some_iff.1 hy).1
    have hv := k4 j arr[j] (.d (.str y)) (Array.getElem?_eq_getElem hj) (by rw [List.getElem?_map, hy]; rfl)
    obtain ⟨s', h5, h6, _⟩ := hv.d_inv.str_inv
    rw [Nat.zero_add]
    unfold World.cell?
    simp only [k2]
    rw [Array.getElem?_eq_getElem hj, h5, str_of h6]
    rfl
  have hlt : blk < w.heap.size := (Array.getElem?_eq_some_iff.1 k2).1
  have hmap : (l.map fun x => (⟨x.toArray⟩ : ByteArray)).map (·.data.toList) = l := by simp [Function.comp_def]
  have hlen' : (l.map fun x => (⟨x.toArray⟩ : ByteArray)).length = l.length := List.length_map _
  by_cases hne : l = []
  · subst hne
    refine ((Tryz.strings_Join_none (some ⟨blk, 0, none⟩) 0 bs w)).mono ?_
    rintro e w' ⟨rfl, rfl⟩
    exact ⟨M, ρ, _, .ret _, Stp.refl hrel, rfl, .d _ _ (.str _ _ (by simp) (by simp)), rfl, rfl⟩
  · have key := Tryz.strings_Join blk 0 l.length (l.map fun x => (⟨x.toArray⟩ : ByteArray)) bs w hcell hlt (by rw [hlen']; exact hN) (by rw [hlen']; exact Nat.le_refl _) (by rw [hmap]; exact hlen)
    rw [hmap, hlen'] at key
    refine key.mono ?_
    rintro e w' ⟨rfl, hb⟩
    exact ⟨M, ρ, _, .ret _, rel_belowS hrel hb, rfl, .d _ _ (.str _ _ (by simp; rfl) (by show ((bs.data.toList.intercalate l).length : Int) ≤ _; omega)), rfl, rfl⟩
end Go.Plane
end
section
set_option linter.unnecessarySimpa false
set_option linter.unusedVariables false
set_option linter.unusedSimpArgs false
set_option maxRecDepth 100000
namespace Go.Plane
open Go Go.Proofs
/-! ### A line without its comment -/
def cutB : List UInt8 → List UInt8
  | [] => []
  | b :: r => if [45, 45].isPrefixOf (b :: r) then [] else b :: cutB r
def trimB (x : List UInt8) : List UInt8 := (x.reverse.dropWhile (· == 32)).reverse
def bareM (x : List UInt8) : List UInt8 := trimB (cutB x)
theorem cutB_len : ∀ x : List UInt8, (cutB x).length ≤ x.length
  | [] => by simp [cutB]
  | b :: r => by
    have ih := cutB_len r
    simp only [cutB]
    split
    · simp
    · simp only [List.length_cons]; omega
theorem cutB_take : ∀ x : List UInt8, x.take (cutB x).length = cutB x
  | [] => by simp [cutB]
  | b :: r => by
    have ih := cutB_take r
    simp only [cutB]
    split
    · simp
    · simp only [List.length_cons, List.take_succ_cons, ih]
theorem trimB_len (x : List UInt8) : (trimB x).length ≤ x.length := by
  unfold trimB
  rw [List.length_reverse]
  exact Nat.le_trans (List.dropWhile_sublist _).length_le (by simp)
theorem bareM_len (x : List UInt8) : (bareM x).length ≤ x.length := Nat.le_trans (trimB_len _) (cutB_len x)
theorem pre2_ne {b : UInt8} (h : b ≠ 45) (r : List UInt8) : [45, 45].isPrefixOf (b :: r) = false := by
  simp only [List.isPrefixOf, Bool.and_eq_false_iff]
  left
  rw [beq_eq_false_iff_ne]
  exact fun he => h he.symm
theorem cutB_app {v : List UInt8} : ∀ u : List UInt8, (∀ c ∈ u, c ≠ 45) → cutB (u ++ v) = u ++ cutB v
  | [], _ => rfl
  | b :: u, h => by
    have ih := cutB_app (v := v) u (fun c hc => h c (by simp [hc]))
    simp only [List.cons_append, cutB]
    rw [if_neg (by rw [pre2_ne (h b (by simp))]; simp), ih]
theorem sign_tail {s : List UInt8} (h : s ∈ signs) : ∀ c ∈ s.tail, c ≠ 45 := by
  have : ∀ x ∈ signs, ∀ c ∈ x.tail, c ≠ 45 := by decide +kernel
  exact this s h
theorem part_ne45 {c : UInt8} (h : isPart c = true) : c ≠ 45 := by
  rintro rfl
  revert h
  decide
theorem right_tail {t : Tok} (h : rightM t = true) : ∀ c ∈ t.s.tail, c ≠ 45 := by
  rcases right_cases h with h | h
  · obtain ⟨b, r, h1, _, h2⟩ := h
    exact fun c hc => part_ne45 (h2 c (List.mem_of_mem_tail hc))
  · exact sign_tail h.1
/-- Behind a piece that is no comment. -/
theorem cutB_piece {i : Int} {b : UInt8} {r : List UInt8} (he : (pieceM i b r).1.e = 0) (hk : (pieceM i b r).1.k ≠ 6) :
    cutB (b :: r) = (b :: r).take (pieceM i b r).2 ++ cutB ((b :: r).drop (pieceM i b r).2) := by
  rcases piece_right he with h | h
  · exact absurd h.1 hk
  obtain ⟨_, h1, h2⟩ := h
  have ht := right_tail (t := ⟨(pieceM i b r).1.k, (pieceM i b r).1.s, 0, 0⟩) (right_of h1 hk)
  simp only [(piece_text he).1] at ht
  have hp := pieceM_pos he
  generalize (pieceM i b r).2 = n at *
  cases n with
  | zero => omega
  | succ n =>
    simp only [List.take_succ_cons, List.drop_succ_cons, List.tail_cons] at ht ⊢
    have := cutB_app (v := r.drop n) (r.take n) ht
    rw [List.take_append_drop] at this
    simp only [cutB, List.cons_append]
    rw [if_neg (by rw [h2]; simp), this]
/-- The comment of a line of no error stands where the line is cut. -/
theorem scan_note : ∀ (i : Nat) s, errOf (scan i s) = none → ((scan i s).filter (fun p => isNote p.k) = [] ∧ cutB s = s) ∨ (∃ p, (scan i s).filter (fun p => isNote p.k) = [p] ∧ p.a = i + (cutB s).length) := by
  refine scan_ind (fun i => ?_) (fun i r ih => ?_) (fun i b r hb he => ?_) (fun i b r hb he ih => ?_)
  · intro _; left; rw [scan_nil']; exact ⟨rfl, rfl⟩
  · intro h
    rw [scan_blank] at h ⊢
    have h32 : cutB (32 :: r) = 32 :: cutB r := by rw [cutB, if_neg (by rw [pre2_ne (by decide)]; simp)]
    rw [h32]
    rcases ih h with ⟨h1, h2⟩ | ⟨p, h1, h2⟩
    · left; exact ⟨h1, by rw [h2]⟩
    · right; exact ⟨p, h1, by rw [h2, List.length_cons]; push_cast; omega⟩
  · intro h
    rw [scan_err hb he] at h
    exact absurd (errOf_none h _ (by simp)) he
  · intro h
    rw [scan_ok hb he] at h ⊢
    have h' : errOf (scan (i + (pieceM i b r).2) ((b :: r).drop (pieceM i b r).2)) = none := by
      unfold errOf at h ⊢
      rw [List.find?_cons] at h
      simpa [he] using h
    rcases piece_right he with ⟨h6, _, hn, hp⟩ | ⟨h6, _, _⟩
    · right
      refine ⟨(pieceM i b r).1, ?_, ?_⟩
      · rw [hn, List.drop_length, scan_nil', List.filter_cons, if_pos (by rw [h6]; rfl)]; rfl
      · rw [(piece_text he).2, cutB, if_pos hp]; simp
    · have hc := cutB_piece he h6
      have hl := pieceM_len i b r
      have hf : isNote (pieceM i b r).1.k = false := by unfold isNote; simpa using h6
      rw [List.filter_cons, if_neg (by rw [hf]; simp)]
      rcases ih h' with ⟨h1, h2⟩ | ⟨p, h1, h2⟩
      · left; exact ⟨h1, by rw [hc, h2, List.take_append_drop]⟩
      · right
        refine ⟨p, h1, ?_⟩
        rw [h2, hc, List.length_append, List.length_take_of_le hl]
        push_cast
        omega
theorem line_note {x : List UInt8} (h : errOf (scanM x) = none) (l : Int) : (keptOf isNote l (scanM x) = [] ∧ cutB x = x) ∨ (∃ t, keptOf isNote l (scanM x) = [t] ∧ t.l = l ∧ t.c = 1 + ((cutB x).length : Int)) := by
  rw [scanM_eq] at h ⊢
  unfold keptOf
  rcases scan_note 0 x h with ⟨h1, h2⟩ | ⟨p, h1, h2⟩
  · left; rw [h1]; exact ⟨rfl, h2⟩
  · right; rw [h1]; exact ⟨tokOf l p, rfl, rfl, by simp only [tokOf]; rw [h2]; simp⟩
/-- The first comment. -/
theorem notes_cons : ∀ (ls : List (List UInt8)) (l : Int) (t : Tok) (T : List Tok), (∀ x ∈ ls, errOf (scanM x) = none) → allToks isNote l ls = t :: T →
    ∃ (k : Nat) (x : List UInt8), ls[k]? = some x ∧ t.l = l + k ∧ t.c = 1 + ((cutB x).length : Int) ∧ (ls.take k).map cutB = ls.take k ∧ T = allToks isNote (l + k + 1) (ls.drop (k + 1))
  | [], _, _, _, _, h => by simp [allToks] at h
  | x :: ls, l, t, T, he, h => by
    simp only [allToks] at h
    rcases line_note (he x (by simp)) l with ⟨h1, h2⟩ | ⟨u, h1, h2, h3⟩
    · rw [h1, List.nil_append] at h
      obtain ⟨k, y, k1, k2, k3, k4, k5⟩ := notes_cons ls (l + 1) t T (fun z hz => he z (by simp [hz])) h
      refine ⟨k + 1, y, by simpa using k1, by rw [k2]; push_cast; omega, k3, by simp [k4, h2], ?_⟩
      rw [k5]
      simp only [List.drop_succ_cons]
      congr 1
      push_cast
      omega
    · rw [h1, List.cons_append, List.nil_append, List.cons.injEq] at h
      obtain ⟨rfl, rfl⟩ := h
      exact ⟨0, x, rfl, by simpa using h2, h3, by simp, by simp⟩
theorem notes_nil : ∀ (ls : List (List UInt8)) (l : Int), (∀ x ∈ ls, errOf (scanM x) = none) → allToks isNote l ls = [] → ls.map cutB = ls
  | [], _, _, _ => rfl
  | x :: ls, l, he, h => by
    simp only [allToks, List.append_eq_nil_iff] at h
    rcases line_note (he x (by simp)) l with ⟨h1, h2⟩ | ⟨u, h1, h2, h3⟩
    · rw [List.map_cons, h2, notes_nil ls (l + 1) (fun z hz => he z (by simp [hz])) h.2]
    · rw [h1] at h; simp at h
/-- The text without comments. -/
def stripM (s : List UInt8) : List UInt8 × Int := if (notesM s).2 ≠ 0 then ([], (notesM s).2) else ([10].intercalate ((splitL 10 s).map bareM), 0)
theorem inter_len (l : List (List UInt8)) : ([10].intercalate l : List UInt8).length ≤ (l.map List.length).sum + l.length := by
  induction l with
  | nil => simp [List.intercalate]
  | cons x l ih =>
    cases l with
    | nil => simp [List.intercalate]
    | cons y l =>
      simp only [List.intercalate, List.intersperse_cons_cons, List.flatten_cons, List.length_append, List.map_cons, List.sum_cons, List.length_cons, List.length_nil] at ih ⊢
      omega
theorem inter_snoc (y : List UInt8) : ∀ l : List (List UInt8), l ≠ [] → ([10].intercalate (l ++ [y]) : List UInt8) = [10].intercalate l ++ ([10] ++ y)
  | [], h => absurd rfl h
  | [x], _ => by simp [List.intercalate]
  | x :: z :: l, _ => by
    have ih := inter_snoc y (z :: l) (by simp)
    simp only [List.intercalate, List.cons_append, List.intersperse_cons_cons, List.flatten_cons, List.append_assoc] at ih ⊢
    rw [ih]
theorem bare_sum : ∀ l : List (List UInt8), ((l.map bareM).map List.length).sum ≤ (l.map List.length).sum
  | [] => by simp
  | x :: l => by
    have h1 := bareM_len x
    have h2 := bare_sum l
    simp only [List.map_cons, List.sum_cons]
    omega
theorem notes_err (s : List UInt8) : (notesM s).2 = (tokensM s).2.2.2 := by
  unfold notesM
  split
  · rfl
  · rename_i h; exact (Classical.not_not.1 h).symm
/-- With no error. -/
theorem notes_ok {s : List UInt8} (h : (notesM s).2 = 0) : s.length ≤ 20000 ∧ firstErr 1 (splitL 10 s) = none ∧ (notesM s).1 = allToks isNote 1 (splitL 10 s) := by
  have ht := h
  rw [notes_err] at ht
  have hl : s.length ≤ 20000 := by
    rcases Nat.lt_or_ge 20000 s.length with h1 | h1
    · unfold tokensM at ht; rw [if_pos h1] at ht; cases ht
    · exact h1
  have hf : firstErr 1 (splitL 10 s) = none := by
    cases hf : firstErr 1 (splitL 10 s) with
    | none => rfl
    | some e =>
      have hne := firstErr_ne _ _ _ hf
      unfold tokensM at ht
      rw [if_neg (by omega), readM_eq, hf, if_neg (by rintro ⟨h1, _⟩; exact hne h1)] at ht
      exact absurd ht hne
  refine ⟨hl, hf, ?_⟩
  have hr := readM_eq isNote (splitL 10 s) 1 []
  rw [hf] at hr
  unfold notesM
  rw [if_neg (by rw [ht]; simp), hr]
  simp
end Go.Plane
end
section
set_option linter.unnecessarySimpa false
set_option linter.unusedVariables false
set_option linter.unusedSimpArgs false
set_option maxRecDepth 100000
set_option maxHeartbeats 8000000
namespace Go.Plane
open Go Go.Proofs
abbrev celS (l : List (List UInt8)) : List PV := l.map fun x => .d (.str x)
@[simp] theorem celS_ids (l : List (List UInt8)) : PV.ids.idsL (l.map fun x => PV.d (D.str x)) = [] := by
  induction l with
  | nil => rfl
  | cons x l ih => simp only [List.map_cons, PV.ids.idsL, PV.ids, ih]; rfl
@[simp] theorem celS_ren (r : Nat → Nat) (l : List (List UInt8)) : (l.map fun x => PV.d (D.str x)).map (PV.ren r) = l.map fun x => PV.d (D.str x) := by
  rw [List.map_map]; rfl
@[simp] theorem celS_exp (n : Nat) (σ : Store) (l : List (List UInt8)) : (l.map fun x => PV.d (D.str x)).map (PV.exp n σ) = l.map fun x => PV.d (D.str x) := by
  rw [List.map_map]; rfl
theorem exp_comp (n : Nat) (σ : Store) : (PV.exp n σ ∘ fun x : List UInt8 => PV.d (D.str x)) = fun x => PV.d (D.str x) := rfl
theorem ren_comp (r : Nat → Nat) : (PV.ren r ∘ fun x : List UInt8 => PV.d (D.str x)) = fun x => PV.d (D.str x) := rfl
theorem set_cel {l : List (List UInt8)} {j : Nat} (hj : j < l.length) (y : List UInt8) : (l.map fun x => PV.d (D.str x)).take j ++ [.d (.str y)] ++ (l.map fun x => PV.d (D.str x)).drop (j + 1) = (l.take j ++ y :: l.drop (j + 1)).map fun x => PV.d (D.str x) := by
  simp [List.map_take, List.map_drop]
theorem set_app {α : Type} {P Q : List α} {m k : Nat} (y : α) (hP : P.length = m) : (P ++ Q).take (m + k) ++ y :: (P ++ Q).drop (m + k + 1) = P ++ (Q.take k ++ y :: Q.drop (k + 1)) := by
  subst hP
  rw [List.take_length_add_append, Nat.add_assoc, List.drop_length_add_append, List.append_assoc]
attribute [local irreducible] wops wio wic wdt wdb onOut
theorem f_Strip (s : List UInt8) (hs : s.length ≤ 1000000) : F Γz 19 [.d (.str s)] (.tup [.d (.str (stripM s).1), .d (.int .i64 (stripM s).2)]) := by
  refine fn_of c19 rfl (by simp only [Env.of, List.zipIdx, List.map]; rfl) ?_
  have hC := f_Comments s (by omega)
  by_cases he : (notesM s).2 = 0
  case neg =>
    have : stripM s = ([], (notesM s).2) := by unfold stripM; rw [if_pos he]
    rw [this]
    generalize notesM s = N at *
    repeat' (first | ((with_reducible refine wcm ?_); first | refine cF (hC) ?_) | refine dr ?_ | (refine ds ?_ ?_ <;> intro hb) | ((with_reducible refine dbm ?_); first | exact db_nil | refine dbc ?_ ?_) | ((with_reducible refine natle ?_); first | assumption | omega | (simp; omega)))
    all_goals (simp; done)
  have hst : stripM s = ([10].intercalate ((splitL 10 s).map bareM), 0) := by unfold stripM; rw [if_neg (by rw [he]; simp)]
  rw [hst]
  obtain ⟨hl, hf, hN⟩ := notes_ok he
  have hR := R_Split s 10 (by omega)
  have hcnt : (splitL 10 s).length ≤ s.length + 1 := by rw [splitL_length]; have := List.count_le_length (a := (10 : UInt8)) (l := s); omega
  have herr := firstErr_none hf
  have hsum := splitL_sum 10 s
  have hle := splitL_le 10 s
  rw [he, hN] at hC
  have hNl : (allToks isNote 1 (splitL 10 s)).length ≤ 20000 := by have := allToks_len isNote (splitL 10 s) 1; omega
  clear hst hf hN he
  generalize splitL 10 s = A at *
  generalize hNN : allToks isNote 1 A = N at *
  have hnl := toksD_length N
  repeat' (first | (refine cR (hR) ?_) | ((with_reducible refine wcm ?_); first | refine cF (hC) ?_) | refine dr ?_ | (refine ds ?_ ?_ <;> intro hb) | ((with_reducible refine dbm ?_); first | exact db_nil | refine dbc ?_ ?_) | ((with_reducible refine natle ?_); first | assumption | omega | (simp; omega)))
  refine LP_for N (fun i _ => [(6, .sbox 0 A.length), (21, .d (.slice (toksD N))), (22, .d (.int .i64 N.length)), (23, .d (.int .i64 i))])
    (fun _ ls => [.box 9 (ls.map fun x => .d (.str x))]) (fun i (ls : List (List UInt8)) => ∃ m, m ≤ A.length ∧ ls = (A.take m).map cutB ++ A.drop m ∧ N.drop i = allToks isNote (1 + (m : Int)) (A.drop m)) A ?_ ?_ ⟨0, by simp, by simp, by simp [hNN]⟩ ?_ ?_
  · (first | (simp [Env.shr, Env.get, PV.exp, PV.ids, PV.ids.idsL]; done) | simp [Env.shr, Env.get, PV.exp, PV.ids, PV.ids.idsL, *])
  · simp [shrink, Ent.exp, PV.exp, PV.ids, Function.comp_def]
  · rintro i t ls ht hi ⟨m, hm, hls, hN⟩ ih
    rw [List.drop_eq_getElem_cons hi] at hN
    have hti : N[i] = t := by rw [List.getElem?_eq_getElem hi] at ht; exact Option.some.inj ht
    rw [hti] at hN
    obtain ⟨k, x, h1, h2, h3, h4, h5⟩ := notes_cons _ _ _ _ (fun z hz => herr z (List.mem_of_mem_drop hz)) hN.symm
    have hx : A[m + k]? = some x := by rw [List.getElem?_drop] at h1; exact h1
    have hj := (List.getElem?_eq_some_iff.1 hx).1
    have hxl := hle x (List.mem_of_getElem? hx)
    have hP : ((A.take m).map cutB).length = m := by rw [List.length_map, List.length_take]; omega
    have hlx : ls[m + k]? = some x := by rw [hls, List.getElem?_append_right (by omega), hP, show m + k - m = k by omega]; exact h1
    have hll : ls.length = A.length := by rw [hls, List.length_append, hP, List.length_drop]; omega
    have hnew : ls.take (m + k) ++ cutB x :: ls.drop (m + k + 1) = (A.take (m + k + 1)).map cutB ++ A.drop (m + k + 1) := by
      have e1 : A.take (m + k + 1) = A.take m ++ ((A.drop m).take k ++ [x]) := by
        rw [List.take_add_one, hx, List.take_add, List.append_assoc]; rfl
      rw [e1, List.map_append, List.map_append, h4, hls, set_app _ hP, List.drop_drop]
      simp [Nat.add_assoc]
    have ih := ih (ls.take (m + k) ++ cutB x :: ls.drop (m + k + 1)) ⟨m + k + 1, by omega, hnew, by rw [h5]; congr 1 <;> simp [List.drop_drop, Nat.add_assoc] <;> omega⟩
    have hcl := cutB_len x
    have hct := cutB_take x
    have hset := set_cel (l := ls) (j := m + k) (by omega) (cutB x)
    clear h1 h4 h5 hN hls hnew hP hx herr hle hNN
    obtain ⟨tk, ts, tl, tc⟩ := t
    simp only at h2 h3
    subst h2 h3
    have hrx := toksD_at ht
    generalize hjj : m + k = j at *
    have htl : (1 + (m : Int) + (k : Int)) = (j : Int) + 1 := by omega
    rw [htl] at hrx
    have htn : ((j : Int) + 1 - 1).toNat = j := by omega
    have hcell : (ls.map fun x => PV.d (D.str x))[j]? = some (.d (.str x)) := by rw [List.getElem?_map, hlx]; rfl
    have hok : j + 1 ≤ (ls.map fun x => PV.d (D.str x)).length := by rw [List.length_map]; omega
    have htc : (1 + ((cutB x).length : Int) - 1).toNat = (cutB x).length := by omega
    clear ht hti htl
    repeat' (first | refine dr ?_ | (refine ds ?_ ?_ <;> intro hb) | ((with_reducible refine dbm ?_); first | exact db_nil | refine dbc ?_ ?_) | ((with_reducible refine natle ?_); first | assumption | omega | (simp; omega)))
    refine LP_at ?_ ?_ ih
    · (first | (simp [Env.shr, Env.get, PV.exp, PV.ids, PV.ids.idsL]; done) | simp [Env.shr, Env.get, PV.exp, PV.ids, PV.ids.idsL, *])
    · simp [shrink, Ent.exp, PV.exp, PV.ids, htn, htc, hct, exp_comp, List.map_take, List.map_drop]
  rintro ls ⟨m, hm, hls, hN⟩
  have hC2 : ls = A.map cutB := by
    rw [List.drop_length] at hN
    have := notes_nil _ _ (fun z hz => herr z (List.mem_of_mem_drop hz)) hN.symm
    rw [hls]
    conv => lhs; rhs; rw [← this]
    rw [← List.map_append, List.take_append_drop]
  have hCl : ls.length = A.length := by rw [hC2]; simp
  have hsl : ∀ y ∈ ls, y.length ≤ s.length := by
    rw [hC2]
    intro y hy
    obtain ⟨x, hx, rfl⟩ := List.mem_map.1 hy
    exact Nat.le_trans (cutB_len x) (hle x hx)
  have hfin : A.map bareM = ls.map trimB := by rw [hC2, List.map_map]; rfl
  have hil := inter_len (A.map bareM)
  have hbs := bare_sum A
  rw [List.length_map] at hil
  rw [hfin] at hil hbs ⊢
  clear hls hN herr hle hNN hC2 hC hR hfin
  generalize (A.map List.length).sum = SA at *
  generalize A.length = L at *
  subst hCl
  repeat' (first | refine dr ?_ | (refine ds ?_ ?_ <;> intro hb) | ((with_reducible refine dbm ?_); first | exact db_nil | refine dbc ?_ ?_) | ((with_reducible refine natle ?_); first | assumption | omega | (simp; omega)))
  refine LP_for ls (fun i _ => [(6, .sbox 0 ls.length), (46, .sbox 0 ls.length), (47, .d (.int .i64 ls.length)), (48, .d (.int .i64 i))])
    (fun i _ => [.box 9 ((((ls.take i).map trimB) ++ ls.drop i).map fun x => .d (.str x))]) (fun i (_ : Unit) => True) () ?_ ?_ trivial ?_ ?_
  · (first | (simp [Env.shr, Env.get, PV.exp, PV.ids, PV.ids.idsL]; done) | simp [Env.shr, Env.get, PV.exp, PV.ids, PV.ids.idsL, *])
  · simp [shrink, Ent.exp, PV.exp, PV.ids, Function.comp_def]
  · rintro i x _ hx hi _ ih
    have ih := ih () trivial
    have hxl := hsl x (List.mem_of_getElem? hx)
    have hT := F_TrimRight x 32 (by decide)
    have hP : ((ls.take i).map trimB).length = i := by rw [List.length_map, List.length_take]; omega
    have hcl : (((ls.take i).map trimB) ++ ls.drop i)[i]? = some x := by rw [List.getElem?_append_right (by omega), hP, Nat.sub_self, List.getElem?_drop]; exact hx
    have hlen : (((ls.take i).map trimB) ++ ls.drop i).length = ls.length := by rw [List.length_append, hP, List.length_drop]; omega
    have hset := set_cel (l := ((ls.take i).map trimB) ++ ls.drop i) (j := i) (by omega) (trimB x)
    have hnew : (((ls.take i).map trimB) ++ ls.drop i).take i ++ trimB x :: (((ls.take i).map trimB) ++ ls.drop i).drop (i + 1) = ((ls.take (i + 1)).map trimB) ++ ls.drop (i + 1) := by
      rw [List.take_append_of_le_length (by omega), List.take_of_length_le (by omega), List.drop_append, hP, List.drop_of_length_le (by omega), show i + 1 - i = 1 by omega, List.drop_drop, List.take_add_one, hx]
      simp [Nat.add_comm]
    rw [hnew] at hset
    have hcell : ((((ls.take i).map trimB) ++ ls.drop i).map fun x => PV.d (D.str x))[i]? = some (.d (.str x)) := by rw [List.getElem?_map, hcl]; rfl
    have hok : i + 1 ≤ ((((ls.take i).map trimB) ++ ls.drop i).map fun x => PV.d (D.str x)).length := by rw [List.length_map]; omega
    clear hnew hcl
    generalize ((ls.take i).map trimB) ++ ls.drop i = ms at *
    generalize ((ls.take (i + 1)).map trimB) ++ ls.drop (i + 1) = ms2 at *
    change F _ _ _ (.d (.str (trimB x))) at hT
    generalize trimB x = y at *
    clear hsl
    repeat' (first | ((with_reducible refine wcm ?_); first | refine cF (hT) ?_) | refine dr ?_ | (refine ds ?_ ?_ <;> intro hb) | ((with_reducible refine dbm ?_); first | exact db_nil | refine dbc ?_ ?_) | ((with_reducible refine natle ?_); first | assumption | omega | (simp; omega)))
    refine LP_at ?_ ?_ ih
    · (first | (simp [Env.shr, Env.get, PV.exp, PV.ids, PV.ids.idsL]; done) | simp [Env.shr, Env.get, PV.exp, PV.ids, PV.ids.idsL, *])
    · simp [shrink, Ent.exp, PV.exp, PV.ids, exp_comp, hset]
  rintro _ _
  rw [List.take_length, List.drop_length, List.append_nil]
  have hJ := ft_Join (ls.map trimB) [10] (by omega) (by rw [List.length_map]; omega)
  rw [List.length_map] at hJ
  generalize ls.map trimB = ms at *
  clear hsl
  repeat' (first | refine dr ?_ | (refine ds ?_ ?_ <;> intro hb) | ((with_reducible refine dbm ?_); first | exact db_nil | refine dbc ?_ ?_) | ((with_reducible refine natle ?_); first | assumption | omega | (simp; omega)))
  refine cT hJ ?_ (hs := by simp [subS, Ent.ren, ren_comp]) (hu := by (simp [piOf, reach, updL, outOf, Ent.ren, Ent.ids, PV.ids, PV.ids.idsL, PV.ren, ren_comp]; rfl))
  repeat' (first | refine dr ?_ | (refine ds ?_ ?_ <;> intro hb) | ((with_reducible refine dbm ?_); first | exact db_nil | refine dbc ?_ ?_) | ((with_reducible refine natle ?_); first | assumption | omega | (simp; omega)))
  all_goals (simp; done)
end Go.Plane
end

/- A part of the proof: the calculus over pure values, contracts of functions, and plain lemmas. -/
import Derived.Test.YtccejlonkoafgaaDoorW6
section
set_option linter.unusedVariables false
set_option linter.unusedSimpArgs false
set_option maxRecDepth 100000
set_option maxHeartbeats 4000000
namespace Go.Plane
open Go Go.Proofs
theorem getLast_take {l : List Tok} {j : Nat} {y : Tok} (h : l[j]? = some y) : (l.take (j + 1)).getLast? = some y := by
  rw [List.take_add_one, h]
  simp
theorem bld_exp0 (l : List UInt8) (c : PV) (hc : c = .nilp ∨ c = .ptr 0 0) (r : Store) : shrink 2 (bld c l ++ r) = bld c l := by
  rcases hc with rfl | rfl <;> simp [bld, shrink, Ent.exp, PV.exp, PV.ids]
def bldAt : Nat → List UInt8 → Store
  | 0, a => bld .nilp a
  | _ + 1, a => bld (.ptr 0 0) a
theorem f_write {wf : FuncId} {bl : Tok → Tok → Bool} (l : List Tok) (hl : l.length ≤ 100000000) (hs : (l.map fun t => t.s.length + 1).sum ≤ 100000000) (hsl : ∀ t ∈ l, t.s.length ≤ 100000000)
    (hw : l.length ≤ 6000 → l.any (fun t => !rightM t) = false → ∀ a ∈ l, ∀ b ∈ l, F Γd wf [.agg a.row, .agg b.row] (.d (.bool (bl a b)))) :
    F Γd 54 [.d (.slice (toksD l)), .fn wf [] []] (.tup [.d (.str (writeM bl l).1), .d (.int .i64 (writeM bl l).2)]) := by
  refine fn_of c54 rfl (by simp only [Env.of, List.zipIdx, List.map]; rfl) ?_
  have hln := toksD_length l
  by_cases h6 : 6000 < l.length
  · have h : writeM bl l = ([], 3) := by unfold writeM; rw [if_pos h6]
    rw [h]
    repeat' (first | refine dr ?_ | (refine ds ?_ ?_ <;> intro hb) | ((with_reducible refine dbm ?_); first | exact db_nil | refine dbc ?_ ?_) | ((with_reducible refine natle ?_); first | assumption | omega | (simp; omega)))
    exact ⟨rfl, rfl⟩
  have hc := f_ContainsFuncT (p := fun t => !rightM t) l (by omega) (fun t ht => f_write1 t (by have := hsl t ht; omega))
  cases hany : l.any (fun t => !rightM t) with
  | true =>
    have h : writeM bl l = ([], 1) := by unfold writeM; rw [if_neg h6, if_pos hany]
    rw [h]
    rw [hany] at hc
    repeat' (first | ((with_reducible refine wcm ?_); first | refine cF (hc) ?_) | refine dr ?_ | (refine ds ?_ ?_ <;> intro hb) | ((with_reducible refine dbm ?_); first | exact db_nil | refine dbc ?_ ?_) | ((with_reducible refine natle ?_); first | assumption | omega | (simp; omega)))
    exact ⟨rfl, rfl⟩
  | false =>
    have hw := hw (by omega) hany
    have h : writeM bl l = if 20000 < (joinTok bl none l).length then ([], 3) else (joinTok bl none l, 0) := by unfold writeM; rw [if_neg h6, if_neg (by rw [hany]; simp)]
    rw [h]
    rw [hany] at hc
    have hjl := joinTok_len bl l none
    repeat' (first | ((with_reducible refine wcm ?_); first | refine cF (hc) ?_) | refine dr ?_ | (refine ds ?_ ?_ <;> intro hb) | ((with_reducible refine dbm ?_); first | exact db_nil | refine dbc ?_ ?_) | ((with_reducible refine natle ?_); first | assumption | omega | (simp; omega)))
    refine LP_for l (fun i _ => [(0, .d (.slice (toksD l))), (1, .fn wf [] []), (6, .ptr 0 0), (14, .d (.slice (toksD l))), (15, .d (.int .i64 l.length)), (16, .d (.int .i64 i))])
      bldAt (fun i a => a = joinTok bl none (l.take i)) [] ?_ rfl rfl ?_ ?_
    · (first | (simp [Env.shr, Env.get, PV.exp, PV.ids, PV.ids.idsL]; done) | simp [Env.shr, Env.get, PV.exp, PV.ids, PV.ids.idsL, *])
    · rintro i x a hx hi rfl ih
      have hrx := toksD_at hx
      have hbd : (joinTok bl none (l.take i ++ [x])).length ≤ 100000000 := by
        have h1 := joinTok_len bl (l.take i ++ [x]) none
        have h2 : ((l.take i ++ [x]).map fun t => t.s.length + 1).sum ≤ (l.map fun t => t.s.length + 1).sum := by
          conv => rhs; rw [← List.take_append_drop (i + 1) l]
          rw [List.take_add_one, hx]
          simp only [List.map_append, List.sum_append, Option.toList, List.map_cons, List.map_nil]
          omega
        omega
      have htk : l.take (i + 1) = l.take i ++ [x] := by rw [List.take_add_one, hx]; rfl
      rw [joinTok_snoc, List.length_append, List.length_append] at hbd
      cases i with
      | zero =>
        have hws := ft_WS0 [] x.s (by simp; omega)
        simp only [List.take_zero, joinTok]
        simp only [bldAt, bld, List.length_nil, bytesD, List.map_nil, List.nil_append] at hws ⊢
        repeat' (first | ((with_reducible refine wcm ?_); first | refine cT (hws) ?_) | refine dr ?_ | (refine ds ?_ ?_ <;> intro hb) | ((with_reducible refine dbm ?_); first | exact db_nil | refine dbc ?_ ?_) | ((with_reducible refine natle ?_); first | assumption | omega | (simp; omega)))
        refine LP_at ?_ ?_ (ih ([] ++ x.s) ?_)
        · (first | (simp [Env.shr, Env.get, PV.exp, PV.ids, PV.ids.idsL]; done) | simp [Env.shr, Env.get, PV.exp, PV.ids, PV.ids.idsL, *])
        · simp [bldAt, bld, shrink, Ent.exp, PV.exp, PV.ids, bytesD]
        · rw [htk, joinTok_snoc]; simp [sepM, joinTok]
      | succ j =>
        have hj : j < l.length := by omega
        have hy : l[j]? = some l[j] := List.getElem?_eq_getElem hj
        generalize l[j] = y at hy
        have hry0 := toksD_at hy
        have hry : (toksD l)[((((j + 1 : Nat) : Int) - 1).toNat)]? = some [.int .i64 y.k, .str y.s, .int .i64 y.l, .int .i64 y.c] := by rw [show (((j + 1 : Nat) : Int) - 1).toNat = j by omega]; exact hry0
        have hlast := getLast_take hy
        have hblk := hw y (List.mem_of_getElem? hy) x (List.mem_of_getElem? hx)
        rw [hlast] at hbd
        have htk2 : joinTok bl none (l.take (j + 1 + 1)) = joinTok bl none (l.take (j + 1)) ++ (sepM bl (some y) x ++ x.s) := by rw [htk, joinTok_snoc, hlast]; rfl
        simp only [Option.some_or, sepM] at hbd htk2
        generalize joinTok bl none (l.take (j + 1)) = u at *
        cases hbl : bl y x with
        | true =>
          rw [hbl] at hblk hbd htk2
          simp only [if_true, List.length_singleton] at hbd htk2
          have hwb := ft_WB1 u 32 (by omega)
          have hws := ft_WS1 (u ++ [32]) x.s (by simp; omega)
          simp only [bldAt, bld, bytesD_append, List.length_append, List.length_singleton] at hwb hws ⊢
          repeat' (first | ((with_reducible refine wcm ?_); first | refine cF (hblk) ?_ | refine cT (hwb) ?_ | refine cT (hws) ?_) | refine dr ?_ | (refine ds ?_ ?_ <;> intro hb) | ((with_reducible refine dbm ?_); first | exact db_nil | refine dbc ?_ ?_) | ((with_reducible refine natle ?_); first | assumption | omega | (simp; omega)))
          refine LP_at ?_ ?_ (ih (u ++ ([32] ++ x.s)) htk2.symm)
          · (first | (simp [Env.shr, Env.get, PV.exp, PV.ids, PV.ids.idsL]; done) | simp [Env.shr, Env.get, PV.exp, PV.ids, PV.ids.idsL, *])
          · simp [bldAt, bld, shrink, Ent.exp, PV.exp, PV.ids, bytesD] <;> omega
        | false =>
          rw [hbl] at hblk hbd htk2
          simp only [Bool.false_eq_true, if_false, List.nil_append] at hbd htk2
          have hws := ft_WS1 u x.s (by simp at hbd; omega)
          simp only [bldAt, bld, List.length_append, bytesD_append] at hws ⊢
          repeat' (first | ((with_reducible refine wcm ?_); first | refine cF (hblk) ?_ | refine cT (hws) ?_) | refine dr ?_ | (refine ds ?_ ?_ <;> intro hb) | ((with_reducible refine dbm ?_); first | exact db_nil | refine dbc ?_ ?_) | ((with_reducible refine natle ?_); first | assumption | omega | (simp; omega)))
          refine LP_at ?_ ?_ (ih (u ++ x.s) htk2.symm)
          · (first | (simp [Env.shr, Env.get, PV.exp, PV.ids, PV.ids.idsL]; done) | simp [Env.shr, Env.get, PV.exp, PV.ids, PV.ids.idsL, *])
          · simp [bldAt, bld, shrink, Ent.exp, PV.exp, PV.ids, bytesD]
    · rintro a rfl
      rw [List.take_length]
      have hne : (l = [] ∧ joinTok bl none l = []) ∨ ∃ n, l.length = n + 1 := by
        cases l with
        | nil => exact .inl ⟨rfl, rfl⟩
        | cons y m => exact .inr ⟨_, rfl⟩
      rcases hne with ⟨hnil, hj⟩ | ⟨n, hn⟩
      · have hlen := ft_Len .nilp [] (.inl rfl)
        have hst := ft_String .nilp []
        subst hnil
        simp only [bldAt, bld, joinTok, List.length_nil] at hlen hst ⊢
        repeat' (first | ((with_reducible refine wcm ?_); first | refine cT (hlen) ?_ | refine cT (hst) ?_) | refine dr ?_ | (refine ds ?_ ?_ <;> intro hb) | ((with_reducible refine dbm ?_); first | exact db_nil | refine dbc ?_ ?_) | ((with_reducible refine natle ?_); first | assumption | omega | (simp; omega)))
        exact ⟨rfl, rfl⟩
      · rw [show bldAt l.length (joinTok bl none l) = bld (.ptr 0 0) (joinTok bl none l) by rw [hn]; rfl]
        have hlen := ft_Len (.ptr 0 0) (joinTok bl none l) (.inr rfl)
        have hst := ft_String (.ptr 0 0) (joinTok bl none l)
        clear h
        generalize joinTok bl none l = u at *
        simp only [bld] at hlen hst ⊢
        by_cases hu : 20000 < u.length
        · rw [if_pos hu]
          repeat' (first | ((with_reducible refine wcm ?_); first | refine cT (hlen) ?_ | refine cT (hst) ?_) | refine dr ?_ | (refine ds ?_ ?_ <;> intro hb) | ((with_reducible refine dbm ?_); first | exact db_nil | refine dbc ?_ ?_) | ((with_reducible refine natle ?_); first | assumption | omega | (simp; omega)))
          all_goals (simp; done)
        · rw [if_neg hu]
          repeat' (first | ((with_reducible refine wcm ?_); first | refine cT (hlen) ?_ | refine cT (hst) ?_) | refine dr ?_ | (refine ds ?_ ?_ <;> intro hb) | ((with_reducible refine dbm ?_); first | exact db_nil | refine dbc ?_ ?_) | ((with_reducible refine natle ?_); first | assumption | omega | (simp; omega)))
          all_goals (simp; done)
end Go.Plane
end
section
set_option linter.unusedVariables false
set_option linter.unusedSimpArgs false
set_option maxRecDepth 100000
set_option maxHeartbeats 4000000
namespace Go.Plane
open Go Go.Proofs
attribute [local irreducible] wops wio wic wdt wdb onOut
theorem readM_len (want : Int → Bool) : ∀ (ls : List (List UInt8)) (l : Int) (acc : List Tok), (readM want l ls acc).1.length ≤ acc.length + (ls.map List.length).sum
  | [], _, acc => by simp [readM]
  | s :: ls, l, acc => by
    simp only [readM]
    split
    · simp
    · have h1 := readM_len want ls (l + 1) (acc ++ keptOf want l (scanM s))
      have h2 := keptOf_len want l (scanM s)
      have h3 := scanM_len s
      simp only [List.length_append, List.map_cons, List.sum_cons] at *
      omega
def textP (r : List UInt8 × Int) : PV := .tup [.d (.str r.1), .d (.int .i64 r.2)]
theorem f_Write (l : List Tok) (hl : l.length ≤ 100000000) (hs : (l.map fun t => t.s.length + 1).sum ≤ 100000000) (hsl : ∀ t ∈ l, t.s.length ≤ 100000000) : F Γd 27 [.d (.slice (toksD l))] (textP (writeM (fun _ _ => true) l)) := by
  refine fn_of c27 rfl (by simp only [Env.of, List.zipIdx, List.map]; rfl) ?_
  have h := f_write (bl := fun _ _ => true) l hl hs hsl (fun _ _ a _ b _ => f_Write1 a b)
  generalize writeM (fun _ _ => true) l = r at *
  repeat' (first | ((with_reducible refine wcm ?_); first | refine cF (h) ?_) | refine dr ?_ | (refine ds ?_ ?_ <;> intro hb) | ((with_reducible refine dbm ?_); first | exact db_nil | refine dbc ?_ ?_) | ((with_reducible refine natle ?_); first | assumption | omega | (simp; omega)))
  all_goals (simp [textP]; done)
theorem f_needs' (a b : Tok) (ha : a.s.length ≤ 50000000) (hb : b.s.length ≤ 50000000) : F Γd 56 [.agg a.row, .agg b.row] (.d (.bool (needsM a b))) :=
  f_needs a b (by omega) (by
    have := readM_len isTok [a.s ++ b.s] 1 []
    simp at this
    omega)
theorem f_Tight (l : List Tok) (hl : l.length ≤ 100000000) (hs : (l.map fun t => t.s.length + 1).sum ≤ 100000000) (hsl : ∀ t ∈ l, t.s.length ≤ 50000000) : F Γd 28 [.d (.slice (toksD l))] (textP (writeM needsM l)) := by
  refine fn_of c28 rfl (by simp only [Env.of, List.zipIdx, List.map]; rfl) ?_
  have h := f_write (bl := needsM) l hl hs (fun t ht => by have := hsl t ht; omega) (fun _ _ a ha b hb => f_needs' a b (hsl a ha) (hsl b hb))
  generalize writeM needsM l = r at *
  repeat' (first | ((with_reducible refine wcm ?_); first | refine cF (h) ?_) | refine dr ?_ | (refine ds ?_ ?_ <;> intro hb) | ((with_reducible refine dbm ?_); first | exact db_nil | refine dbc ?_ ?_) | ((with_reducible refine natle ?_); first | assumption | omega | (simp; omega)))
  all_goals (simp [textP]; done)
/-! ### Join -/
def startsM : Int → List (List UInt8) → List Int
  | _, [] => []
  | n, s :: l => n :: startsM (n + (1 + (s.count 10 : Int))) l
def afterM : Int → List (List UInt8) → Int
  | n, [] => n
  | n, s :: l => afterM (n + (1 + (s.count 10 : Int))) l
def withLF (l : List (List UInt8)) : List UInt8 := l.flatMap (· ++ [10])
def joinM (l : List (List UInt8)) : List UInt8 × List Int × Int :=
  if 24 < l.length then ([], [], 3)
  else if l.any (fun s => decide (20000 < s.length)) then ([], [], 3)
  else if 20000 < (withLF l).length then ([], [], 3)
  else (withLF l, startsM 1 l, 0)
theorem startsM_snoc (x : List UInt8) : ∀ (l : List (List UInt8)) (n : Int), startsM n (l ++ [x]) = startsM n l ++ [afterM n l]
  | [], n => rfl
  | s :: l, n => by simp only [List.cons_append, startsM, afterM, startsM_snoc x l]
theorem afterM_snoc (x : List UInt8) : ∀ (l : List (List UInt8)) (n : Int), afterM n (l ++ [x]) = afterM n l + (1 + (x.count 10 : Int))
  | [], n => rfl
  | s :: l, n => by simp only [List.cons_append, afterM, afterM_snoc x l]
theorem startsM_len : ∀ (l : List (List UInt8)) (n : Int), (startsM n l).length = l.length
  | [], _ => rfl
  | s :: l, n => by simp [startsM, startsM_len l]
def intsD (l : List Int) : List (List D) := l.map fun n => [.int .i64 n]
theorem intsD_length (l : List Int) : (intsD l).length = l.length := by simp [intsD]
theorem intsD_len (l : List Int) : ∀ y ∈ intsD l, y.length = 1 := by simp [intsD]
theorem f_Join (l : List (List UInt8)) (hl : l.length ≤ 4294967296) (hs : ∀ s ∈ l, s.length ≤ 4294967296) : F Γd 20 [.d (.slice (strsD l))] (.tup [.d (.str (joinM l).1), .d (.slice (intsD (joinM l).2.1)), .d (.int .i64 (joinM l).2.2)]) := by
  refine fn_of c20 rfl (by simp only [Env.of, List.zipIdx, List.map]; rfl) ?_
  have hln := strsD_length l
  by_cases h24 : 24 < l.length
  · have h : joinM l = ([], [], 3) := by unfold joinM; rw [if_pos h24]
    rw [h]
    repeat' (first | refine dr ?_ | (refine ds ?_ ?_ <;> intro hb) | ((with_reducible refine dbm ?_); first | exact db_nil | refine dbc ?_ ?_) | ((with_reducible refine natle ?_); first | assumption | omega | (simp; omega)))
    exact ⟨rfl, rfl⟩
  repeat' (first | refine dr ?_ | (refine ds ?_ ?_ <;> intro hb) | ((with_reducible refine dbm ?_); first | exact db_nil | refine dbc ?_ ?_) | ((with_reducible refine natle ?_); first | assumption | omega | (simp; omega)))
  generalize hQ : Ex.inBlock 0 _ = Q0
  refine LP_for l (fun i (a : List UInt8 × List Int × Int) => [(5, .ptr 0 0), (6, .lref 2 a.2.1.length), (7, .d (.int .i64 a.2.2)), (13, .d (.slice (strsD l))), (14, .d (.int .i64 l.length)), (15, .d (.int .i64 i))])
    (fun i a => bldAt i a.1 ++ [.lst (3, 1) (intsD a.2.1)])
    (fun i a => a.1 = withLF (l.take i) ∧ a.2.1 = startsM 1 (l.take i) ∧ a.2.2 = afterM 1 (l.take i) ∧ a.1.length ≤ i * 20001 ∧ a.2.1.length = i ∧ 0 ≤ a.2.2 ∧ a.2.2 ≤ 1 + i * 20001 ∧ ∀ s ∈ l.take i, s.length ≤ 20000) ([], [], 1) ?_ rfl ⟨rfl, rfl, rfl, by simp, rfl, by decide, by decide, by simp⟩ ?_ ?_
  · (first | (simp [Env.shr, Env.get, PV.exp, PV.ids, PV.ids.idsL]; done) | simp [Env.shr, Env.get, PV.exp, PV.ids, PV.ids.idsL, *])
  · rintro i x ⟨u, ns, n⟩ hx hi ⟨h1, h2, h3, h4, h5, h6, h7, h8⟩ ih
    simp only at h1 h2 h3 h4 h5 h6 h7
    have hrx := strsD_at hx
    have hxs := hs x (List.mem_of_getElem? hx)
    have htk : l.take (i + 1) = l.take i ++ [x] := by rw [List.take_add_one, hx]; rfl
    have hi24 : i ≤ 24 := by omega
    by_cases hbig : 20000 < x.length
    · have hany : l.any (fun s => decide (20000 < s.length)) = true := by
        rw [List.any_eq_true]; exact ⟨x, List.mem_of_getElem? hx, by simp [hbig]⟩
      have h : joinM l = ([], [], 3) := by unfold joinM; rw [if_neg h24, if_pos hany]
      subst hQ
      rw [h]
      clear h1 h2 h3 h8 ih
      cases i with
      | zero =>
        simp only [bldAt, bld, List.cons_append, List.nil_append]
        repeat' (first | refine dr ?_ | (refine ds ?_ ?_ <;> intro hb) | ((with_reducible refine dbm ?_); first | exact db_nil | refine dbc ?_ ?_) | ((with_reducible refine natle ?_); first | assumption | omega | (simp; omega)))
        all_goals (simp [intsD]; done)
      | succ i =>
        simp only [bldAt, bld, List.cons_append, List.nil_append]
        repeat' (first | refine dr ?_ | (refine ds ?_ ?_ <;> intro hb) | ((with_reducible refine dbm ?_); first | exact db_nil | refine dbc ?_ ?_) | ((with_reducible refine natle ?_); first | assumption | omega | (simp; omega)))
        all_goals (simp [intsD]; done)
    · have hcn : x.count 10 ≤ x.length := List.count_le_length
      have hct := F_Count x 10
      have hil : (intsD ns).length = i := by rw [intsD_length]; exact h5
      have hll := intsD_len ns
      have hnew : (u ++ (x ++ [10])) = withLF (l.take (i + 1)) ∧ ns ++ [n] = startsM 1 (l.take (i + 1)) ∧ n + (1 + (x.count 10 : Int)) = afterM 1 (l.take (i + 1)) := by
        rw [htk, startsM_snoc, afterM_snoc, ← h2, ← h3, h1]
        refine ⟨?_, rfl, rfl⟩
        simp [withLF]
      have hI : ∀ s ∈ l.take (i + 1), s.length ≤ 20000 := by
        intro s hs'
        rw [htk, List.mem_append] at hs'
        rcases hs' with hs' | hs'
        · exact h8 s hs'
        · simp at hs'; subst hs'; omega
      have ih := ih (u ++ (x ++ [10]), ns ++ [n], n + (1 + (x.count 10 : Int))) ⟨hnew.1, hnew.2.1, hnew.2.2, by simp; omega, by simp; omega, by simp only; omega, by simp only; push_cast; omega, hI⟩
      have h10 : ([10] : List UInt8).length = 1 := rfl
      have hbA : (x.count 10 : Int) ≤ 20000 := by omega
      have hbN : n ≤ 1000000 := by omega
      have hbx : (x.length : Int) ≤ 20000 := by omega
      have hbu : (u.length : Int) ≤ 1000000 := by omega
      clear h1 h2 h3 h8 hnew hI htk hs hbig hxs hcn h7 hl h24
      cases i with
      | zero =>
        have hu : u = [] := by cases u with | nil => rfl | cons _ _ => simp at h4
        subst hu
        clear h4 hbu hi24
        have hws := ft_WS0 [] (x ++ [10]) (by simp; omega)
        simp only [bldAt, bld, List.cons_append, List.nil_append, List.length_nil, bytesD, List.map_nil] at hws ⊢
        repeat' (first | ((with_reducible refine wcm ?_); first | refine cF (hct) ?_ | refine cT (hws) ?_) | refine dr ?_ | (refine ds ?_ ?_ <;> intro hb) | ((with_reducible refine dbm ?_); first | exact db_nil | refine dbc ?_ ?_) | ((with_reducible refine natle ?_); first | assumption | omega | (simp; omega)))
        refine LP_at ?_ ?_ ih
        · (first | (simp [Env.shr, Env.get, PV.exp, PV.ids, PV.ids.idsL]; done) | simp [Env.shr, Env.get, PV.exp, PV.ids, PV.ids.idsL, *])
        · simp [bldAt, bld, shrink, Ent.exp, PV.exp, PV.ids, bytesD, intsD]
      | succ i =>
        have hws := ft_WS1 u (x ++ [10]) (by simp; omega)
        clear h4
        simp only [bldAt, bld, List.cons_append, List.nil_append, bytesD_append] at hws ⊢
        repeat' (first | ((with_reducible refine wcm ?_); first | refine cF (hct) ?_ | refine cT (hws) ?_) | refine dr ?_ | (refine ds ?_ ?_ <;> intro hb) | ((with_reducible refine dbm ?_); first | exact db_nil | refine dbc ?_ ?_) | ((with_reducible refine natle ?_); first | assumption | omega | (simp; omega)))
        refine LP_at ?_ ?_ ih
        · (first | (simp [Env.shr, Env.get, PV.exp, PV.ids, PV.ids.idsL]; done) | simp [Env.shr, Env.get, PV.exp, PV.ids, PV.ids.idsL, *])
        · simp [bldAt, bld, shrink, Ent.exp, PV.exp, PV.ids, bytesD, intsD]
  · rintro ⟨u, ns, n⟩ ⟨h1, h2, h3, h4, h5, h6, h7, h8⟩
    simp only at h1 h2 h3 h4 h5 h6 h7
    rw [List.take_length] at h1 h2 h3 h8
    have hany : l.any (fun s => decide (20000 < s.length)) = false := by
      rw [List.any_eq_false]; intro s hs'; have := h8 s hs'; simp; omega
    have h : joinM l = if 20000 < u.length then ([], [], 3) else (u, ns, 0) := by unfold joinM; rw [if_neg h24, if_neg (by rw [hany]; simp), ← h1, ← h2]
    subst hQ
    rw [h]
    clear h h1 h2 h3 h8
    have hil : (intsD ns).length = ns.length := intsD_length ns
    have htk2 : (intsD ns).take ns.length = intsD ns := List.take_of_length_le (by rw [hil]; exact Nat.le_refl _)
    clear hil h5
    cases hll : l.length with
    | zero =>
      rw [hll] at h4
      have hu : u = [] := by cases u with | nil => rfl | cons _ _ => simp at h4
      subst hu
      have hlen := ft_Len .nilp [] (.inl rfl)
      have hst := ft_String .nilp []
      simp only [bldAt, bld, List.length_nil, List.cons_append, List.nil_append] at hlen hst ⊢
      repeat' (first | ((with_reducible refine wcm ?_); first | refine cT (hlen) ?_ | refine cT (hst) ?_) | refine dr ?_ | (refine ds ?_ ?_ <;> intro hb) | ((with_reducible refine dbm ?_); first | exact db_nil | refine dbc ?_ ?_) | ((with_reducible refine natle ?_); first | assumption | omega | (simp; omega)))
      all_goals (simp [htk2]; done)
    | succ n0 =>
      have hlen := ft_Len (.ptr 0 0) u (.inr rfl)
      have hst := ft_String (.ptr 0 0) u
      simp only [bldAt, bld, List.cons_append, List.nil_append] at hlen hst ⊢
      by_cases hu : 20000 < u.length
      · rw [if_pos hu]
        repeat' (first | ((with_reducible refine wcm ?_); first | refine cT (hlen) ?_ | refine cT (hst) ?_) | refine dr ?_ | (refine ds ?_ ?_ <;> intro hb) | ((with_reducible refine dbm ?_); first | exact db_nil | refine dbc ?_ ?_) | ((with_reducible refine natle ?_); first | assumption | omega | (simp; omega)))
        all_goals (simp [intsD]; done)
      · rw [if_neg hu]
        repeat' (first | ((with_reducible refine wcm ?_); first | refine cT (hlen) ?_ | refine cT (hst) ?_) | refine dr ?_ | (refine ds ?_ ?_ <;> intro hb) | ((with_reducible refine dbm ?_); first | exact db_nil | refine dbc ?_ ?_) | ((with_reducible refine natle ?_); first | assumption | omega | (simp; omega)))
        all_goals (simp [htk2]; done)
end Go.Plane
end
section
set_option linter.unusedVariables false
set_option linter.unusedSimpArgs false
set_option maxRecDepth 100000
set_option maxHeartbeats 8000000
namespace Go.Plane
open Go Go.Proofs
attribute [local irreducible] wops wio wic wdt wdb onOut
/-- A token stands in the text, behind another. -/
def okAt (s : List UInt8) : Option Tok → Tok → Bool
  | none, t => decide ((offsetM s t.l t.c).2 = 0)
  | some p, t => decide ((offsetM s t.l t.c).2 = 0) && !(decide (p.l = t.l ∧ p.c = t.c) || decide (0 < compareM p.l p.c t.l t.c))
def okToks (s : List UInt8) : Option Tok → List Tok → Bool
  | _, [] => true
  | o, t :: l => okAt s o t && okToks s (some t) l
theorem okToks_snoc (s : List UInt8) (x : Tok) : ∀ (l : List Tok) (o : Option Tok), okToks s o (l ++ [x]) = (okToks s o l && okAt s (l.getLast?.or o) x)
  | [], o => by simp [okToks]
  | t :: l, o => by
    simp only [List.cons_append, okToks, okToks_snoc s x l (some t)]
    rw [show (t :: l).getLast?.or o = l.getLast?.or (some t) by
      cases l with
      | nil => simp
      | cons y l =>
        simp only [List.getLast?_cons_cons]
        cases h : (y :: l).getLast? with
        | none => simp at h
        | some z => rfl]
    simp [Bool.and_assoc]
theorem okToks_app (s : List UInt8) : ∀ (l m : List Tok) (o : Option Tok), okToks s o l = false → okToks s o (l ++ m) = false
  | [], m, o, h => by simp [okToks] at h
  | t :: l, m, o, h => by
    simp only [List.cons_append, okToks, Bool.and_eq_false_iff] at *
    exact h.imp_right (okToks_app s l m _)
def shiftT (d : Int) (t : Tok) : Tok := { t with l := t.l + d }
/-- Behind the reading of what is fresh. -/
def patchT (l : List Tok) (f t e : Int) (r : List Tok × Int × Int × Int) : List Tok × Int × (Int × Int) × Int :=
  if r.2.2.2 ≠ 0 then ([], 0, (r.2.1, r.2.2.1), r.2.2.2)
  else if 6000 < ((l.filter fun y => decide (y.l < f)) ++ (r.1 ++ (l.filter fun y => !decide (y.l < f) && decide (t < y.l)).map (shiftT (e - t)))).length then ([], 0, (0, 0), 3)
  else ((l.filter fun y => decide (y.l < f)) ++ (r.1 ++ (l.filter fun y => !decide (y.l < f) && decide (t < y.l)).map (shiftT (e - t))), r.1.length, (0, 0), 0)
/-- The tokens, how many are fresh, the place, the error. -/
def patchM (l : List Tok) (s : List UInt8) (a b : Int) (x : List UInt8) : List Tok × Int × (Int × Int) × Int :=
  if (editM s a b x).2 ≠ 0 then ([], 0, (0, 0), (editM s a b x).2)
  else if okToks s none l = false then ([], 0, (0, 0), 1)
  else patchT l (placeOfM s a).1.1 (placeOfM s b).1.1 (placeOfM (editM s a b x).1 (a + x.length)).1.1
    (readM isTok (placeOfM s a).1.1 (((splitL 10 (editM s a b x).1).take (placeOfM (editM s a b x).1 (a + x.length)).1.1.toNat).drop ((placeOfM s a).1.1 - 1).toNat) [])
def patchP (r : List Tok × Int × (Int × Int) × Int) : PV := .tup [.d (.slice (toksD r.1)), .d (.int .i64 r.2.1), .agg [.int .i64 r.2.2.1.1, .int .i64 r.2.2.1.2], .d (.int .i64 r.2.2.2)]
theorem okAt_off {s : List UInt8} {o : Option Tok} {t : Tok} (h : okAt s o t = true) : (offsetM s t.l t.c).2 = 0 := by
  cases o with
  | none => simpa [okAt] using h
  | some p => simp [okAt] at h; exact h.1
theorem okToks_mem (s : List UInt8) : ∀ (l : List Tok) (o : Option Tok), okToks s o l = true → ∀ t ∈ l, 1 ≤ t.l ∧ t.l ≤ (splitL 10 s).length
  | [], _, _ => by simp
  | t :: l, o, h => by
    simp only [okToks, Bool.and_eq_true] at h
    intro y hy
    rcases List.mem_cons.1 hy with rfl | hy
    · have := okAt_off h.1
      unfold offsetM at this
      split at this
      · cases this
      · omega
    · exact okToks_mem s l _ h.2 y hy
theorem sum_sub (l : List (List UInt8)) (m n : Nat) : (((l.take m).drop n).map List.length).sum ≤ (l.map List.length).sum := by
  have h1 : ∀ (l : List (List UInt8)) (k : Nat), ((l.drop k).map List.length).sum ≤ (l.map List.length).sum := fun l k => by
    conv => rhs; rw [← List.take_append_drop k l, List.map_append, List.sum_append]
    omega
  have h2 : ((l.take m).map List.length).sum ≤ (l.map List.length).sum := by
    conv => rhs; rw [← List.take_append_drop m l, List.map_append, List.sum_append]
    omega
  exact Nat.le_trans (h1 _ _) h2
theorem f_Patch (l : List Tok) (s : List UInt8) (a b : Int) (x : List UInt8) (hl : l.length ≤ 100000) (hs : s.length ≤ 1000000) (hx : x.length ≤ 1000000) :
    F Γd 25 [.d (.slice (toksD l)), .d (.str s), .agg [.int .i64 a, .int .i64 b, .str x]] (patchP (patchM l s a b x)) := by
  refine fn_of c25 rfl (by simp only [Env.of, List.zipIdx, List.map]; rfl) ?_
  have hln := toksD_length l
  have hE := f_Edit s a b x (by omega) (by omega)
  by_cases he : (editM s a b x).2 = 0
  case neg =>
    have h : patchM l s a b x = ([], 0, (0, 0), (editM s a b x).2) := by unfold patchM; rw [if_pos he]
    rw [h]
    generalize editM s a b x = e at *
    repeat' (first | ((with_reducible refine wcm ?_); first | refine cF (hE) ?_) | refine dr ?_ | (refine ds ?_ ?_ <;> intro hb) | ((with_reducible refine dbm ?_); first | exact db_nil | refine dbc ?_ ?_) | ((with_reducible refine natle ?_); first | assumption | omega | (simp; omega)))
    all_goals (simp [patchP, toksD]; done)
  have hab : 0 ≤ a ∧ a ≤ b ∧ b ≤ s.length := by
    unfold editM at he
    split at he
    · cases he
    · omega
  repeat' (first | ((with_reducible refine wcm ?_); first | refine cF (hE) ?_) | refine dr ?_ | (refine ds ?_ ?_ <;> intro hb) | ((with_reducible refine dbm ?_); first | exact db_nil | refine dbc ?_ ?_) | ((with_reducible refine natle ?_); first | assumption | omega | (simp; omega)))
  refine LP_for l (fun i _ => [(0, .d (.slice (toksD l))), (1, .d (.str s)), (5, .ptr 0 0), (8, .ptr 1 0), (10, .d (.str (editM s a b x).1)), (39, .d (.slice (toksD l))), (40, .d (.int .i64 l.length)), (41, .d (.int .i64 i))])
    (fun _ _ => [.box 25 [.d (.int .i64 a), .d (.int .i64 b), .d (.str x)], .box 23 [.d (.int .i64 0), .d (.int .i64 0)]]) (fun i (_ : Unit) => okToks s none (l.take i) = true) () ?_ ?_ rfl ?_ ?_
  · (first | (simp [Env.shr, Env.get, PV.exp, PV.ids, PV.ids.idsL]; done) | simp [Env.shr, Env.get, PV.exp, PV.ids, PV.ids.idsL, *])
  · simp [shrink, Ent.exp, PV.exp, PV.ids]
  · rintro i y _ hy hi hI ih
    have hr := toksD_at hy
    have hO := f_Offset s y.l y.c (by omega)
    have htk : l.take (i + 1) = l.take i ++ [y] := by rw [List.take_add_one, hy]; rfl
    have hbad : okAt s ((l.take i).getLast?.or none) y = false → patchM l s a b x = ([], 0, (0, 0), 1) := fun h => by
      have : okToks s none l = false := by
        rw [← List.take_append_drop (i + 1) l, htk]
        refine okToks_app s _ _ _ ?_
        rw [okToks_snoc, h, Bool.and_false]
      unfold patchM
      rw [if_neg (by simp [he]), if_pos this]
    have hgood : okAt s ((l.take i).getLast?.or none) y = true → okToks s none (l.take (i + 1)) = true := fun h => by
      rw [htk, okToks_snoc, hI, h]; rfl
    clear hI htk
    cases i with
    | zero =>
      simp only [List.take_zero, List.getLast?_nil, Option.or_none, okAt] at hbad hgood
      by_cases ho : (offsetM s y.l y.c).2 = 0
      · have ih := ih () (hgood (by simp [ho]))
        clear hbad hgood
        generalize editM s a b x = e at *
        generalize offsetM s y.l y.c = o at *
        repeat' (first | ((with_reducible refine wcm ?_); first | refine cF (hO) ?_) | refine dr ?_ | (refine ds ?_ ?_ <;> intro hb) | ((with_reducible refine dbm ?_); first | exact db_nil | refine dbc ?_ ?_) | ((with_reducible refine natle ?_); first | assumption | omega | (simp; omega)))
        refine LP_at ?_ ?_ ih
        · (first | (simp [Env.shr, Env.get, PV.exp, PV.ids, PV.ids.idsL]; done) | simp [Env.shr, Env.get, PV.exp, PV.ids, PV.ids.idsL, *])
        · simp [shrink, Ent.exp, PV.exp, PV.ids]
      · have hp := hbad (by simp [ho])
        rw [hp]
        clear hbad hgood ih
        generalize editM s a b x = e at *
        generalize offsetM s y.l y.c = o at *
        repeat' (first | ((with_reducible refine wcm ?_); first | refine cF (hO) ?_) | refine dr ?_ | (refine ds ?_ ?_ <;> intro hb) | ((with_reducible refine dbm ?_); first | exact db_nil | refine dbc ?_ ?_) | ((with_reducible refine natle ?_); first | assumption | omega | (simp; omega)))
        all_goals (simp [patchP, toksD]; done)
    | succ j =>
      have hj : j < l.length := by omega
      have hy0 : l[j]? = some l[j] := List.getElem?_eq_getElem hj
      generalize l[j] = p at hy0
      have hry0 := toksD_at hy0
      have hry : (toksD l)[((((j + 1 : Nat) : Int) - 1).toNat)]? = some [.int .i64 p.k, .str p.s, .int .i64 p.l, .int .i64 p.c] := by rw [show (((j + 1 : Nat) : Int) - 1).toNat = j by omega]; exact hry0
      rw [getLast_take hy0] at hbad hgood
      simp only [Option.some_or, okAt] at hbad hgood
      have hC := f_compare p.l p.c y.l y.c
      clear hry0
      by_cases ho : (offsetM s y.l y.c).2 = 0
      · cases heq : (p.l == y.l && p.c == y.c) with
        | true =>
          have hpe : p.l = y.l ∧ p.c = y.c := by simpa using heq
          have hp := hbad (by simp [hpe.1, hpe.2])
          rw [hp]
          clear hbad hgood ih hpe
          generalize editM s a b x = e at *
          generalize offsetM s y.l y.c = o at *
          repeat' (first | ((with_reducible refine wcm ?_); first | refine cF (hO) ?_ | refine cF (hC) ?_) | refine dr ?_ | (refine ds ?_ ?_ <;> intro hb) | ((with_reducible refine dbm ?_); first | exact db_nil | refine dbc ?_ ?_) | ((with_reducible refine natle ?_); first | assumption | omega | (simp; omega)))
          all_goals (simp [patchP, toksD]; done)
        | false =>
          have hpe : ¬(p.l = y.l ∧ p.c = y.c) := by simpa using heq
          by_cases hc : 0 < compareM p.l p.c y.l y.c
          · have hp := hbad (by simp [hc])
            rw [hp]
            clear hbad hgood ih hpe
            generalize editM s a b x = e at *
            generalize offsetM s y.l y.c = o at *
            generalize compareM p.l p.c y.l y.c = cc at *
            repeat' (first | ((with_reducible refine wcm ?_); first | refine cF (hO) ?_ | refine cF (hC) ?_) | refine dr ?_ | (refine ds ?_ ?_ <;> intro hb) | ((with_reducible refine dbm ?_); first | exact db_nil | refine dbc ?_ ?_) | ((with_reducible refine natle ?_); first | assumption | omega | (simp; omega)))
            all_goals (simp [patchP, toksD]; done)
          · have ih := ih () (hgood (by simp [ho, hpe, hc]))
            clear hbad hgood hpe
            generalize editM s a b x = e at *
            generalize offsetM s y.l y.c = o at *
            generalize compareM p.l p.c y.l y.c = cc at *
            repeat' (first | ((with_reducible refine wcm ?_); first | refine cF (hO) ?_ | refine cF (hC) ?_) | refine dr ?_ | (refine ds ?_ ?_ <;> intro hb) | ((with_reducible refine dbm ?_); first | exact db_nil | refine dbc ?_ ?_) | ((with_reducible refine natle ?_); first | assumption | omega | (simp; omega)))
            refine LP_at ?_ ?_ ih
            · (first | (simp [Env.shr, Env.get, PV.exp, PV.ids, PV.ids.idsL]; done) | simp [Env.shr, Env.get, PV.exp, PV.ids, PV.ids.idsL, *])
            · simp [shrink, Ent.exp, PV.exp, PV.ids]
      · have hp := hbad (by simp [ho])
        rw [hp]
        clear hbad hgood ih
        generalize editM s a b x = e at *
        generalize offsetM s y.l y.c = o at *
        repeat' (first | ((with_reducible refine wcm ?_); first | refine cF (hO) ?_) | refine dr ?_ | (refine ds ?_ ?_ <;> intro hb) | ((with_reducible refine dbm ?_); first | exact db_nil | refine dbc ?_ ?_) | ((with_reducible refine natle ?_); first | assumption | omega | (simp; omega)))
        all_goals (simp [patchP, toksD]; done)
  · rintro _ hI
    rw [List.take_length] at hI
    have hmem := okToks_mem s l none hI
    have hpm : patchM l s a b x = patchT l (placeOfM s a).1.1 (placeOfM s b).1.1 (placeOfM (editM s a b x).1 (a + x.length)).1.1
        (readM isTok (placeOfM s a).1.1 (((splitL 10 (editM s a b x).1).take (placeOfM (editM s a b x).1 (a + x.length)).1.1.toNat).drop ((placeOfM s a).1.1 - 1).toNat) []) := by unfold patchM; rw [if_neg (by simp [he]), if_neg (by simp [hI])]
    have hnl : ((editM s a b x).1.length : Int) ≤ 20000 ∧ (editM s a b x).1 = s.take a.toNat ++ x ++ s.drop b.toNat := by
      unfold editM at he ⊢
      split at he
      · cases he
      · rename_i h1
        split at he
        · cases he
        · rename_i h2
          rw [if_neg h1, if_neg h2]
          refine ⟨?_, rfl⟩
          simp only [List.length_append, List.length_take, List.length_drop]
          push_cast
          omega
    obtain ⟨hn1, hn2⟩ := hnl
    have hlen1 : ((editM s a b x).1.length : Int) = a + x.length + (s.length - b) := by
      rw [hn2]
      simp only [List.length_append, List.length_take, List.length_drop]
      push_cast
      omega
    have hP1 := f_PlaceOf s a (by omega)
    have hP2 := f_PlaceOf s b (by omega)
    have hP3 := f_PlaceOf (editM s a b x).1 (a + x.length) (by omega)
    have hSp := F_Split (editM s a b x).1 10 (by omega)
    have hcount : ∀ (u : List UInt8), u.count 10 ≤ u.length := fun u => List.count_le_length
    have hspl := splitL_length 10 (editM s a b x).1
    have hspl2 := splitL_length 10 s
    have hc1 := hcount (editM s a b x).1
    have hc2 := hcount s
    have hc3 := hcount (s.take b.toNat)
    rw [List.length_take] at hc3
    have hpa : (placeOfM s a).1.1 = 1 + ((s.take a.toNat).count 10 : Int) := by unfold placeOfM; rw [if_neg (by omega)]
    have hpb : (placeOfM s b).1.1 = 1 + ((s.take b.toNat).count 10 : Int) := by unfold placeOfM; rw [if_neg (by omega)]
    have hpe : (placeOfM (editM s a b x).1 (a + x.length)).1.1 = 1 + (((editM s a b x).1.take (a + x.length).toNat).count 10 : Int) := by unfold placeOfM; rw [if_neg (by omega)]
    have hle1 : (s.take a.toNat).count 10 ≤ ((editM s a b x).1.take (a + x.length).toNat).count 10 := by
      have : (editM s a b x).1.take (a + x.length).toNat = s.take a.toNat ++ x := by
        rw [hn2, List.take_append_of_le_length (by simp only [List.length_append, List.length_take]; omega), List.take_of_length_le (by simp only [List.length_append, List.length_take]; omega)]
      rw [this, List.count_append]
      omega
    have hle2 : ((editM s a b x).1.take (a + x.length).toNat).count 10 ≤ (editM s a b x).1.count 10 := (List.take_sublist _ _).count_le _
    have hF : 1 ≤ (placeOfM s a).1.1 ∧ (placeOfM s a).1.1 ≤ (placeOfM (editM s a b x).1 (a + x.length)).1.1 ∧ (placeOfM (editM s a b x).1 (a + x.length)).1.1 ≤ (splitL 10 (editM s a b x).1).length ∧ (splitL 10 (editM s a b x).1).length ≤ 20001 ∧ 1 ≤ (placeOfM s b).1.1 ∧ (placeOfM s b).1.1 ≤ 1000001 := by omega
    have hL : ∀ t ∈ l, 1 ≤ t.l ∧ t.l ≤ 1000001 := fun t ht => by have := hmem t ht; omega
    have hsum := sum_sub (splitL 10 (editM s a b x).1) (placeOfM (editM s a b x).1 (a + x.length)).1.1.toNat ((placeOfM s a).1.1 - 1).toNat
    have hsum2 := splitL_sum 10 (editM s a b x).1
    have hrd := f_read (want := isTok) (fun k => f_token k) (((splitL 10 (editM s a b x).1).take (placeOfM (editM s a b x).1 (a + x.length)).1.1.toNat).drop ((placeOfM s a).1.1 - 1).toNat) (placeOfM s a).1.1 (by omega) (by omega) (by simp only [List.length_drop, List.length_take]; omega)
    have hrl := readM_len isTok (((splitL 10 (editM s a b x).1).take (placeOfM (editM s a b x).1 (a + x.length)).1.1.toNat).drop ((placeOfM s a).1.1 - 1).toNat) (placeOfM s a).1.1 []
    have hrl2 : (readM isTok (placeOfM s a).1.1 (((splitL 10 (editM s a b x).1).take (placeOfM (editM s a b x).1 (a + x.length)).1.1.toNat).drop ((placeOfM s a).1.1 - 1).toNat) []).1.length ≤ 20000 := by
      simp only [List.length_nil] at hrl
      omega
    have hsl := strsD_length (splitL 10 (editM s a b x).1)
    have hsa := strsD_len (splitL 10 (editM s a b x).1)
    rw [← strsD_drop, ← strsD_take] at hrd
    rw [hpm]
    clear hpm hrl hsum hsum2 hle1 hle2 hpa hpb hpe hc1 hc2 hc3 hcount hspl hspl2 hlen1 hn2 hmem hI
    generalize readM isTok (placeOfM s a).1.1 (((splitL 10 (editM s a b x).1).take (placeOfM (editM s a b x).1 (a + x.length)).1.1.toNat).drop ((placeOfM s a).1.1 - 1).toNat) [] = r at *
    generalize placeOfM (editM s a b x).1 (a + x.length) = pe at *
    generalize placeOfM s a = pa at *
    generalize placeOfM s b = pb at *
    generalize splitL 10 (editM s a b x).1 = sp at *
    generalize editM s a b x = e at *
    obtain ⟨f1, f2, f3, f4, f5, f6⟩ := hF
    by_cases hre : r.2.2.2 = 0
    case neg =>
      rw [show patchT l pa.1.1 pb.1.1 pe.1.1 r = ([], 0, (r.2.1, r.2.2.1), r.2.2.2) by unfold patchT; rw [if_pos hre]]
      repeat' (first | ((with_reducible refine wcm ?_); first | refine cF (hP1) ?_ | refine cF (hP2) ?_ | refine cF (hP3) ?_ | refine cF (hSp) ?_ | refine cF (hrd) ?_) | refine dr ?_ | (refine ds ?_ ?_ <;> intro hb) | ((with_reducible refine dbm ?_); first | exact db_nil | refine dbc ?_ ?_) | ((with_reducible refine natle ?_); first | assumption | omega | (simp; omega)))
      all_goals (simp [patchP, toksD]; done)
    have hpt : patchT l pa.1.1 pb.1.1 pe.1.1 r = if 6000 < ((l.filter fun y => decide (y.l < pa.1.1)) ++ (r.1 ++ (l.filter fun y => !decide (y.l < pa.1.1) && decide (pb.1.1 < y.l)).map (shiftT (pe.1.1 - pb.1.1)))).length then ([], 0, (0, 0), 3)
        else ((l.filter fun y => decide (y.l < pa.1.1)) ++ (r.1 ++ (l.filter fun y => !decide (y.l < pa.1.1) && decide (pb.1.1 < y.l)).map (shiftT (pe.1.1 - pb.1.1))), (r.1.length : Int), (0, 0), 0) := by unfold patchT; rw [if_neg (by simp [hre])]
    rw [hpt]
    clear hpt
    repeat' (first | ((with_reducible refine wcm ?_); first | refine cF (hP1) ?_ | refine cF (hP2) ?_ | refine cF (hP3) ?_ | refine cF (hSp) ?_ | refine cF (hrd) ?_) | refine dr ?_ | (refine ds ?_ ?_ <;> intro hb) | ((with_reducible refine dbm ?_); first | exact db_nil | refine dbc ?_ ?_) | ((with_reducible refine natle ?_); first | assumption | omega | (simp; omega)))
    all_goals
      refine LP_for l (fun i (c : List Tok × List Tok) => [(8, .ptr 1 0), (16, .ptr 2 0), (18, .ptr 3 0), (20, .ptr 4 0), (22, .d (.slice (toksD r.1))), (24, .lref 6 c.1.length), (25, .lref 7 c.2.length), (128, .d (.slice (toksD l))), (129, .d (.int .i64 l.length)), (130, .d (.int .i64 i))])
        (fun i c => [.box 25 [.d (.int .i64 a), .d (.int .i64 b), .d (.str x)], .box 23 [.d (.int .i64 0), .d (.int .i64 0)], .box 23 [.d (.int .i64 pa.1.1), .d (.int .i64 pa.1.2)], .box 23 [.d (.int .i64 pb.1.1), .d (.int .i64 pb.1.2)], .box 23 [.d (.int .i64 pe.1.1), .d (.int .i64 pe.1.2)], .box 23 [.d (.int .i64 r.2.1), .d (.int .i64 r.2.2.1)], .lst (57, 4) (toksD c.1), .lst (57, 4) (toksD c.2)])
        (fun i c => c.1 = (l.take i).filter (fun y => decide (y.l < pa.1.1)) ∧ c.2 = ((l.take i).filter (fun y => !decide (y.l < pa.1.1) && decide (pb.1.1 < y.l))).map (shiftT (pe.1.1 - pb.1.1)) ∧ c.1.length ≤ i ∧ c.2.length ≤ i) ([], []) ?_ ?_ ⟨rfl, rfl, by simp, by simp⟩ ?_ ?_
      · (first | (simp [Env.shr, Env.get, PV.exp, PV.ids, PV.ids.idsL]; done) | simp [Env.shr, Env.get, PV.exp, PV.ids, PV.ids.idsL, *])
      · simp [shrink, Ent.exp, PV.exp, PV.ids, toksD]
      · rintro i y ⟨c1, c2⟩ hy hi ⟨h1, h2, h3, h4⟩ ih
        simp only at h1 h2 h3 h4
        have hr := toksD_at hy
        have hyl := hL y (List.mem_of_getElem? hy)
        have htk : l.take (i + 1) = l.take i ++ [y] := by rw [List.take_add_one, hy]; rfl
        have g1 := toksD_len c1
        have g2 := toksD_len c2
        have g3 := toksD_length c1
        have g4 := toksD_length c2
        by_cases hA : y.l < pa.1.1
        · have ih := ih (c1 ++ [y], c2) ⟨by simp only; rw [htk, List.filter_append, ← h1]; simp [hA], by simp only; rw [htk, List.filter_append, List.map_append, ← h2]; simp [hA], by simp; omega, by simp only; omega⟩
          clear h1 h2 htk
          repeat' (first | refine dr ?_ | (refine ds ?_ ?_ <;> intro hb) | ((with_reducible refine dbm ?_); first | exact db_nil | refine dbc ?_ ?_) | ((with_reducible refine natle ?_); first | assumption | omega | (simp; omega)))
          refine LP_at ?_ ?_ ih
          · (first | (simp [Env.shr, Env.get, PV.exp, PV.ids, PV.ids.idsL]; done) | simp [Env.shr, Env.get, PV.exp, PV.ids, PV.ids.idsL, *])
          · simp [shrink, Ent.exp, PV.exp, PV.ids, toksD]
        · by_cases hB : pb.1.1 < y.l
          · have ih := ih (c1, c2 ++ [shiftT (pe.1.1 - pb.1.1) y]) ⟨by simp only; rw [htk, List.filter_append, ← h1]; simp [hA], by simp only; rw [htk, List.filter_append, List.map_append, ← h2]; simp [hA, hB], by simp only; omega, by simp; omega⟩
            clear h1 h2 htk
            repeat' (first | refine dr ?_ | (refine ds ?_ ?_ <;> intro hb) | ((with_reducible refine dbm ?_); first | exact db_nil | refine dbc ?_ ?_) | ((with_reducible refine natle ?_); first | assumption | omega | (simp; omega)))
            refine LP_at ?_ ?_ ih
            · (first | (simp [Env.shr, Env.get, PV.exp, PV.ids, PV.ids.idsL]; done) | simp [Env.shr, Env.get, PV.exp, PV.ids, PV.ids.idsL, *])
            · simp [shrink, Ent.exp, PV.exp, PV.ids, toksD, shiftT]
          · have ih := ih (c1, c2) ⟨by simp only; rw [htk, List.filter_append, ← h1]; simp [hA], by simp only; rw [htk, List.filter_append, List.map_append, ← h2]; simp [hA, hB], by simp only; omega, by simp only; omega⟩
            clear h1 h2 htk
            repeat' (first | refine dr ?_ | (refine ds ?_ ?_ <;> intro hb) | ((with_reducible refine dbm ?_); first | exact db_nil | refine dbc ?_ ?_) | ((with_reducible refine natle ?_); first | assumption | omega | (simp; omega)))
            refine LP_at ?_ ?_ ih
            · (first | (simp [Env.shr, Env.get, PV.exp, PV.ids, PV.ids.idsL]; done) | simp [Env.shr, Env.get, PV.exp, PV.ids, PV.ids.idsL, *])
            · simp [shrink, Ent.exp, PV.exp, PV.ids, toksD]
      · rintro ⟨c1, c2⟩ ⟨h1, h2, h3, h4⟩
        simp only at h1 h2 h3 h4
        rw [List.take_length] at h1 h2
        rw [← h1, ← h2]
        clear h1 h2
        have g1 := toksD_len c1
        have g2 := toksD_len c2
        have t1 : (toksD c1).take c1.length = toksD c1 := List.take_of_length_le (by rw [toksD_length]; exact Nat.le_refl _)
        have t2 : (toksD c2).take c2.length = toksD c2 := List.take_of_length_le (by rw [toksD_length]; exact Nat.le_refl _)
        have hj := f_joined [c1, r.1, c2] (by simp) (by simp; omega)
        have htl := toksD_length (c1 ++ (r.1 ++ c2))
        have hrl3 := toksD_length r.1
        simp only [List.map, List.flatten_cons, List.flatten_nil, List.append_nil] at hj
        generalize c1 ++ (r.1 ++ c2) = out at *
        by_cases h6 : 6000 < out.length
        · rw [if_pos h6]
          repeat' (first | ((with_reducible refine wcm ?_); first | refine cF (hj) ?_) | refine dr ?_ | (refine ds ?_ ?_ <;> intro hb) | ((with_reducible refine dbm ?_); first | exact db_nil | refine dbc ?_ ?_) | ((with_reducible refine natle ?_); first | assumption | omega | (simp; omega)))
          all_goals (simp [patchP, toksD]; done)
        · rw [if_neg h6]
          repeat' (first | ((with_reducible refine wcm ?_); first | refine cF (hj) ?_) | refine dr ?_ | (refine ds ?_ ?_ <;> intro hb) | ((with_reducible refine dbm ?_); first | exact db_nil | refine dbc ?_ ?_) | ((with_reducible refine natle ?_); first | assumption | omega | (simp; omega)))
          all_goals (simp [patchP, toksD]; done)
end Go.Plane
end
section
set_option linter.unusedVariables false
set_option linter.unusedSimpArgs false
set_option maxRecDepth 100000
set_option maxHeartbeats 4000000
namespace Go.Plane
open Go Go.Proofs
/-! ### The models at the law's examples -/
theorem ex_T1 : tokensM [120, 32, 58, 61, 32, 97, 47, 47, 50, 32, 45, 45, 32, 104, 97, 108, 102] = ([⟨1, [120], 1, 1⟩, ⟨5, [58, 61], 1, 3⟩, ⟨1, [97], 1, 6⟩, ⟨5, [47, 47], 1, 7⟩, ⟨4, [50], 1, 9⟩], 0, 0, 0) := by kernel_rfl
theorem ex_T2 : tokensM [65, 46, 98, 10, 32, 48, 49] = ([], 2, 2, 2) := by kernel_rfl
theorem ex_T3 : tokensM [114, 101, 115, 117, 108, 116] = ([], 1, 1, 4) := by kernel_rfl
theorem ex_T4 : tokensM [82, 101, 115, 117, 108, 116, 115] = ([], 1, 1, 2) := by kernel_rfl
theorem ex_W : writeM needsM [⟨3, [105, 102], 0, 0⟩, ⟨1, [97], 0, 0⟩, ⟨5, [60], 0, 0⟩, ⟨5, [61], 0, 0⟩, ⟨3, [116, 104, 101, 110], 0, 0⟩] = ([105, 102, 32, 97, 60, 32, 61, 116, 104, 101, 110], 0) := by kernel_rfl
theorem ex_O1 : offsetM [97, 98, 10, 99, 100] 2 3 = (5, 0) := by kernel_rfl
theorem ex_O2 : offsetM [97, 98, 10, 99, 100] 2 4 = (0, 1) := by kernel_rfl
theorem ex_T5 : tokensM [97, 10, 98, 32, 99, 10, 100] = ([⟨1, [97], 1, 1⟩, ⟨1, [98], 2, 1⟩, ⟨1, [99], 2, 3⟩, ⟨1, [100], 3, 1⟩], 0, 0, 0) := by kernel_rfl
theorem ex_P : patchM [⟨1, [97], 1, 1⟩, ⟨1, [98], 2, 1⟩, ⟨1, [99], 2, 3⟩, ⟨1, [100], 3, 1⟩] [97, 10, 98, 32, 99, 10, 100] 2 3 [120, 10, 121] = ([⟨1, [97], 1, 1⟩, ⟨1, [120], 2, 1⟩, ⟨1, [121], 3, 1⟩, ⟨1, [99], 3, 3⟩, ⟨1, [100], 4, 1⟩], 3, (0, 0), 0) := by kernel_rfl
theorem ex_J : joinM [[97], [98, 10]] = ([97, 10, 98, 10, 10], [1, 2], 0) := by kernel_rfl
theorem f_at (l c : Int) : F Γd 40 [.d (.int .i64 l), .d (.int .i64 c)] (.agg [.int .i64 l, .int .i64 c]) := by
  refine fn_of c40 rfl (by simp only [Env.of, List.zipIdx, List.map]; rfl) ?_
  repeat' (first | refine dr ?_ | (refine ds ?_ ?_ <;> intro hb) | ((with_reducible refine dbm ?_); first | exact db_nil | refine dbc ?_ ?_) | ((with_reducible refine natle ?_); first | assumption | omega | (simp; omega)))
  all_goals (simp; done)
def shortM (s : List UInt8) : Bool := decide (s.length ≤ 400 ∨ (20000 < s.length ∧ s.length ≤ 20100))
theorem f_short (s : List UInt8) : F Γd 12 [.d (.str s)] (.d (.bool (shortM s))) := by
  refine fn_of c12 rfl (by simp only [Env.of, List.zipIdx, List.map]; rfl) ?_
  repeat' (first | refine dr ?_ | (refine ds ?_ ?_ <;> intro hb) | ((with_reducible refine dbm ?_); first | exact db_nil | refine dbc ?_ ?_) | ((with_reducible refine natle ?_); first | assumption | omega | (simp; omega)))
  all_goals first
    | (rw [show shortM s = true by unfold shortM; rw [decide_eq_true_eq]; omega]; simp [*]; done)
    | (rw [show shortM s = false by unfold shortM; rw [decide_eq_false_iff_not]; omega]; simp [*]; done)
    | (by_cases h : s.length ≤ 20100
       · rw [show shortM s = true by unfold shortM; rw [decide_eq_true_eq]; omega]; simp; omega
       · rw [show shortM s = false by unfold shortM; rw [decide_eq_false_iff_not]; omega]; simp; omega)
theorem f_sanity : F Γd 13 [] (.d (.bool true)) := by
  refine fn_of c13 rfl (by simp only [Env.of, List.zipIdx, List.map]; rfl) ?_
  have hT1 := f_Tokens [120, 32, 58, 61, 32, 97, 47, 47, 50, 32, 45, 45, 32, 104, 97, 108, 102] (by decide)
  rw [ex_T1] at hT1
  simp only [readP, toksD, List.map_cons, List.map_nil, Tok.row] at hT1
  have hT2 := f_Tokens [65, 46, 98, 10, 32, 48, 49] (by decide)
  rw [ex_T2] at hT2
  simp only [readP, toksD, List.map_cons, List.map_nil, Tok.row] at hT2
  have hT3 := f_Tokens [114, 101, 115, 117, 108, 116] (by decide)
  rw [ex_T3] at hT3
  simp only [readP, toksD, List.map_cons, List.map_nil, Tok.row] at hT3
  have hT4 := f_Tokens [82, 101, 115, 117, 108, 116, 115] (by decide)
  rw [ex_T4] at hT4
  simp only [readP, toksD, List.map_cons, List.map_nil, Tok.row] at hT4
  have hW := f_Tight [⟨3, [105, 102], 0, 0⟩, ⟨1, [97], 0, 0⟩, ⟨5, [60], 0, 0⟩, ⟨5, [61], 0, 0⟩, ⟨3, [116, 104, 101, 110], 0, 0⟩] (by decide) (by decide) (by decide)
  rw [ex_W] at hW
  simp only [textP, toksD, List.map_cons, List.map_nil, Tok.row] at hW
  have hO1 := f_Offset [97, 98, 10, 99, 100] 2 3 (by decide)
  rw [ex_O1] at hO1
  simp only [pairI] at hO1
  have hO2 := f_Offset [97, 98, 10, 99, 100] 2 4 (by decide)
  rw [ex_O2] at hO2
  simp only [pairI] at hO2
  have hT5 := f_Tokens [97, 10, 98, 32, 99, 10, 100] (by decide)
  rw [ex_T5] at hT5
  simp only [readP, toksD, List.map_cons, List.map_nil, Tok.row] at hT5
  have hP := f_Patch [⟨1, [97], 1, 1⟩, ⟨1, [98], 2, 1⟩, ⟨1, [99], 2, 3⟩, ⟨1, [100], 3, 1⟩] [97, 10, 98, 32, 99, 10, 100] 2 3 [120, 10, 121] (by decide) (by decide) (by decide)
  rw [ex_P] at hP
  simp only [patchP, toksD, List.map_cons, List.map_nil, Tok.row] at hP
  have hJ := f_Join [[97], [98, 10]] (by decide) (by decide)
  rw [ex_J] at hJ
  simp only [strsD, intsD, List.map_cons, List.map_nil] at hJ
  have hK := f_Keywords
  repeat' (first | ((with_reducible refine wcm ?_); first | refine cF (hT1) ?_ | refine cF (hT2) ?_ | refine cF (hT3) ?_ | refine cF (hT4) ?_ | refine cF (hW) ?_ | refine cF (f_at _ _) ?_ | refine cF (hO1) ?_ | refine cF (hO2) ?_ | refine cF (hT5) ?_ | refine cF (hP) ?_ | refine cF (hJ) ?_ | refine cF (hK) ?_) | refine dr ?_ | (refine ds ?_ ?_ <;> intro hb) | ((with_reducible refine dbm ?_); first | exact db_nil | refine dbc ?_ ?_) | ((with_reducible refine natle ?_); first | assumption | omega | (simp; omega)))
  rw [show (strsD keywords).length = 37 by rw [strsD_length]; rfl]
  exact ⟨rfl, rfl⟩
end Go.Plane
end
section
set_option linter.unusedVariables false
set_option linter.unusedSimpArgs false
set_option maxRecDepth 100000
set_option maxHeartbeats 4000000
namespace Go.Plane
open Go Go.Proofs
attribute [local irreducible] wops wio wic wdt wdb onOut
/-- **LexShapes.** -/
theorem law_Shapes (s : List UInt8) : F Γd 9 [.d (.str s)] (.d (.bool true)) := by
  refine fn_of c9 rfl (by simp only [Env.of, List.zipIdx, List.map]; rfl) ?_
  have hsan := f_sanity
  by_cases hl : 60 < s.length
  · repeat' (first | ((with_reducible refine wcm ?_); first | refine cF (hsan) ?_) | refine dr ?_ | (refine ds ?_ ?_ <;> intro hb) | ((with_reducible refine dbm ?_); first | exact db_nil | refine dbc ?_ ?_) | ((with_reducible refine natle ?_); first | assumption | omega | (simp; omega)))
    all_goals (simp; done)
  · have h1 := f_Shape s (by omega)
    have h2 := r_Shape s (by omega)
    have h3 := f_Value s (by omega)
    have h4 := r_Value s (by omega)
    have h5 := f_Keywords
    have h6 := r_Keywords
    generalize shapeM s = p at *
    generalize valueM s = q at *
    have hk := strsD_length keywords
    have hkl : keywords.length = 37 := rfl
    generalize keywords = kw at *
    repeat' (first | ((with_reducible refine wcm ?_); first | refine cF (h1) ?_ | refine cF (h2) ?_ | refine cF (h3) ?_ | refine cF (h4) ?_ | refine cF (h5) ?_ | refine cF (h6) ?_) | refine dr ?_ | (refine ds ?_ ?_ <;> intro hb) | ((with_reducible refine dbm ?_); first | exact db_nil | refine dbc ?_ ?_) | ((with_reducible refine natle ?_); first | assumption | omega | (simp; omega)))
    refine LP_for kw (fun i _ => [(3, .d (.int .i64 p.1)), (4, .d (.int .i64 p.2)), (5, .ptr 0 0), (6, .d (.int .i64 q.1)), (7, .d (.int .i64 q.2)), (8, .ptr 1 0), (9, .d (.slice (strsD kw))), (10, .d (.slice (strsD kw))), (11, .d (.int .i64 i))])
      (fun _ _ => [.box 73 [.d (.int .i64 p.1), .d (.int .i64 p.2)], .box 33 [.d (.int .i64 q.1), .d (.int .i64 q.2)]]) (fun i (_ : Unit) => True) () ?_ ?_ trivial ?_ ?_
    · (first | (simp [Env.shr, Env.get, PV.exp, PV.ids, PV.ids.idsL]; done) | simp [Env.shr, Env.get, PV.exp, PV.ids, PV.ids.idsL, *])
    · first | rfl | simp [shrink, Ent.exp, PV.exp, PV.ids]
    · rintro i x _ hx hi _ ih
      have hr := strsD_at hx
      have ih := ih () trivial
      repeat' (first | refine dr ?_ | (refine ds ?_ ?_ <;> intro hb) | ((with_reducible refine dbm ?_); first | exact db_nil | refine dbc ?_ ?_) | ((with_reducible refine natle ?_); first | assumption | omega | (simp; omega)))
      refine LP_at ?_ ?_ ih
      · (first | (simp [Env.shr, Env.get, PV.exp, PV.ids, PV.ids.idsL]; done) | simp [Env.shr, Env.get, PV.exp, PV.ids, PV.ids.idsL, *])
      · simp [shrink, Ent.exp, PV.exp, PV.ids]
    · rintro _ _
      repeat' (first | ((with_reducible refine wcm ?_); first | refine cF (hsan) ?_) | refine dr ?_ | (refine ds ?_ ?_ <;> intro hb) | ((with_reducible refine dbm ?_); first | exact db_nil | refine dbc ?_ ?_) | ((with_reducible refine natle ?_); first | assumption | omega | (simp; omega)))
      all_goals (simp; done)
end Go.Plane
end
section
set_option linter.unusedVariables false
set_option linter.unusedSimpArgs false
set_option maxRecDepth 100000
set_option maxHeartbeats 4000000
namespace Go.Plane
open Go Go.Proofs
attribute [local irreducible] wops wio wic wdt wdb onOut
theorem withLF_le (l : List (List UInt8)) (n : Nat) : (withLF (l.take n)).length ≤ (withLF l).length := by
  conv => rhs; rw [← List.take_append_drop n l]
  unfold withLF
  rw [List.flatMap_append, List.length_append]
  omega
theorem withLF_mem {l : List (List UInt8)} {s : List UInt8} (h : s ∈ l) : s.length < (withLF l).length := by
  induction l with
  | nil => cases h
  | cons y l ih =>
    simp only [withLF, List.flatMap_cons, List.length_append, List.length_singleton]
    rcases List.mem_cons.1 h with rfl | h
    · omega
    · have := ih h
      simp only [withLF] at this
      omega
theorem r_Join (l : List (List UInt8)) (hl : l.length ≤ 4294967296) (hs : ∀ s ∈ l, s.length ≤ 1000000000) : F Γd 21 [.d (.slice (strsD l))] (.agg [.str (joinM l).1, .slice (intsD (joinM l).2.1), .int .i64 (joinM l).2.2]) := by
  refine fn_of c21 rfl (by simp only [Env.of, List.zipIdx, List.map]; rfl) ?_
  have hln := strsD_length l
  by_cases h24 : 24 < l.length
  · have h : joinM l = ([], [], 3) := by unfold joinM; rw [if_pos h24]
    rw [h]
    repeat' (first | refine dr ?_ | (refine ds ?_ ?_ <;> intro hb) | ((with_reducible refine dbm ?_); first | exact db_nil | refine dbc ?_ ?_) | ((with_reducible refine natle ?_); first | assumption | omega | (simp; omega)))
    all_goals (simp [intsD]; done)
  have hbig : 20000 < (withLF l).length → joinM l = ([], [], 3) := fun h => by
    unfold joinM
    rw [if_neg h24]
    split
    · rfl
    · first | rfl | rw [if_pos h]
  repeat' (first | refine dr ?_ | (refine ds ?_ ?_ <;> intro hb) | ((with_reducible refine dbm ?_); first | exact db_nil | refine dbc ?_ ?_) | ((with_reducible refine natle ?_); first | assumption | omega | (simp; omega)))
  refine LP_for l (fun i (a : List UInt8 × List Int × Int) => [(0, .d (.slice (strsD l))), (2, .ptr 0 0), (3, .ptr 1 0), (4, .d (.int .i64 a.2.2)), (5, .d (.int .i64 i))])
    (fun i a => [.box 49 [.d (.str []), .snil, .d (.int .i64 0)], .box 49 [.d (.str a.1), .lref 2 a.2.1.length, .d (.int .i64 0)], .lst (3, 1) (intsD a.2.1)])
    (fun i a => a.1 = withLF (l.take i) ∧ a.2.1 = startsM 1 (l.take i) ∧ a.2.2 = afterM 1 (l.take i) ∧ a.1.length ≤ 20000 ∧ a.2.1.length = i ∧ 0 ≤ a.2.2 ∧ a.2.2 ≤ 1 + i * 20001) ([], [], 1) ?_ ?_ ⟨rfl, rfl, rfl, by simp, rfl, by decide, by decide⟩ ?_ ?_
  · (first | (simp [Env.shr, Env.get, PV.exp, PV.ids, PV.ids.idsL]; done) | simp [Env.shr, Env.get, PV.exp, PV.ids, PV.ids.idsL, *])
  · first | rfl | simp [shrink, Ent.exp, PV.exp, PV.ids, intsD]
  · rintro i x ⟨u, ns, n⟩ hx hi ⟨h1, h2, h3, h4, h5, h6, h7⟩ ih
    simp only at h1 h2 h3 h4 h5 h6 h7
    have hrx := strsD_at hx
    have hxs := hs x (List.mem_of_getElem? hx)
    have htk : l.take (i + 1) = l.take i ++ [x] := by rw [List.take_add_one, hx]; rfl
    have hi24 : i ≤ 24 := by omega
    have hw : withLF (l.take (i + 1)) = u ++ (x ++ [10]) := by rw [htk, h1]; simp [withLF]
    have h10 : ([10] : List UInt8).length = 1 := rfl
    have hux : (u ++ x).length = u.length + x.length := List.length_append
    by_cases hb : 20000 < u.length + x.length + 1
    · have h := hbig (by have := withLF_le l (i + 1); rw [hw] at this; simp at this; omega)
      rw [h]
      clear h1 h2 h3 htk hw ih hbig hs
      repeat' (first | refine dr ?_ | (refine ds ?_ ?_ <;> intro hb) | ((with_reducible refine dbm ?_); first | exact db_nil | refine dbc ?_ ?_) | ((with_reducible refine natle ?_); first | assumption | omega | (simp; omega)))
      all_goals (simp [intsD]; done)
    · have hli := r_lines x (by omega)
      have hsl : (strsD (splitL 10 x)).length = x.count 10 + 1 := by rw [strsD_length, splitL_length]
      have hcn : x.count 10 ≤ x.length := List.count_le_length
      have hll := intsD_len ns
      have hil : (intsD ns).length = i := by rw [intsD_length]; exact h5
      have ih := ih (u ++ x ++ [10], ns ++ [n], n + ((x.count 10 + 1 : Nat) : Int)) ⟨by simp only; rw [hw, List.append_assoc], by simp only; rw [htk, startsM_snoc, ← h2, ← h3], by simp only; rw [htk, afterM_snoc, ← h3]; push_cast; omega, by simp; omega, by simp; omega, by simp only; omega, by simp only; push_cast; omega⟩
      clear h1 h2 h3 htk hw hbig hs
      repeat' (first | ((with_reducible refine wcm ?_); first | refine cF (hli) ?_) | refine dr ?_ | (refine ds ?_ ?_ <;> intro hb) | ((with_reducible refine dbm ?_); first | exact db_nil | refine dbc ?_ ?_) | ((with_reducible refine natle ?_); first | assumption | omega | (simp; omega)))
      refine LP_at ?_ ?_ ih
      · (first | (simp [Env.shr, Env.get, PV.exp, PV.ids, PV.ids.idsL]; done) | simp [Env.shr, Env.get, PV.exp, PV.ids, PV.ids.idsL, *])
      · simp [shrink, Ent.exp, PV.exp, PV.ids, intsD] <;> omega
  · rintro ⟨u, ns, n⟩ ⟨h1, h2, h3, h4, h5, h6, h7⟩
    simp only at h1 h2 h3 h4 h5 h6 h7
    rw [List.take_length] at h1 h2 h3
    have h : joinM l = (u, ns, 0) := by
      unfold joinM
      rw [if_neg h24, if_neg, if_neg (by rw [← h1]; omega), ← h1, ← h2]
      rw [Bool.not_eq_true, List.any_eq_false]
      intro s hs'
      have := withLF_mem hs'
      rw [← h1] at this
      simp
      omega
    rw [h]
    have ht : (intsD ns).take l.length = intsD ns := List.take_of_length_le (by rw [intsD_length]; omega)
    clear h h1 h2 h3 hbig hs
    repeat' (first | refine dr ?_ | (refine ds ?_ ?_ <;> intro hb) | ((with_reducible refine dbm ?_); first | exact db_nil | refine dbc ?_ ?_) | ((with_reducible refine natle ?_); first | assumption | omega | (simp; omega)))
    all_goals (simp [ht]; done)
end Go.Plane
end

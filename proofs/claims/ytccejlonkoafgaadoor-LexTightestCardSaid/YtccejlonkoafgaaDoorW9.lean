/- A part of the proof: the calculus over pure values, contracts of functions, and plain lemmas. -/
import Derived.Test.YtccejlonkoafgaaDoorW8
section
set_option linter.unnecessarySimpa false
set_option linter.unusedVariables false
set_option linter.unusedSimpArgs false
set_option maxRecDepth 100000
set_option maxHeartbeats 4000000
namespace Go.Plane
open Go Go.Proofs
attribute [local irreducible] wops wio wic wdt wdb onOut
theorem tokensM_eq {s : List UInt8} (h : s.length ≤ 6000) : tokensM s = match firstErr 1 (splitL 10 s) with
    | some e => ([], e)
    | none => (allToks isTok 1 (splitL 10 s), 0, 0, 0) := by
  rw [tokensM_small h, readM_eq]; rfl
theorem tokensM_len {s : List UInt8} (h : s.length ≤ 6000) : (tokensM s).1.length ≤ s.length := by
  rw [tokensM_small h]
  have h1 := readM_len isTok (splitL 10 s) 1 []
  have h2 := splitL_sum 10 s
  simp only [List.length_nil] at h1
  omega
theorem firstErr_ne : ∀ (ls : List (List UInt8)) (l : Int) (e : Int × Int × Int), firstErr l ls = some e → e.2.2 ≠ 0
  | [], _, _, h => by cases h
  | y :: ls, l, e, h => by
    simp only [firstErr] at h
    cases hp : errOf (scanM y) with
    | none => rw [hp] at h; exact firstErr_ne ls _ _ h
    | some p =>
      rw [hp] at h
      cases h
      have := List.find?_some hp
      simpa using this
/-- **LexStands.** -/
theorem law_Stands (s : List UInt8) : F Γd 5 [.d (.str s)] (.d (.bool true)) := by
  refine fn_of c5 rfl (by simp only [Env.of, List.zipIdx, List.map]; rfl) ?_
  have hsan := f_sanity
  by_cases hs : 400 < s.length
  · repeat' (first | ((with_reducible refine wcm ?_); first | refine cF (hsan) ?_) | refine dr ?_ | (refine ds ?_ ?_ <;> intro hb) | ((with_reducible refine dbm ?_); first | exact db_nil | refine dbc ?_ ?_) | ((with_reducible refine natle ?_); first | assumption | omega | (simp; omega)))
    all_goals (simp; done)
  have hT := f_Tokens s (by omega)
  have hTe := tokensM_eq (s := s) (by omega)
  have hTl := tokensM_len (s := s) (by omega)
  generalize tokensM s = T at *
  obtain ⟨tl, t1, t2, t3⟩ := T
  simp only at hTl
  have htl := toksD_length tl
  simp only [readP] at hT
  repeat' (first | refine dr ?_ | (refine ds ?_ ?_ <;> intro hb) | ((with_reducible refine dbm ?_); first | exact db_nil | refine dbc ?_ ?_) | ((with_reducible refine natle ?_); first | assumption | omega | (simp; omega)))
  refine LP_ind (α := Nat) (fun n => s.length + 1 - n) (fun n => [(0, .d (.str s)), (3, .d (.int .i64 n))]) (fun _ => []) (fun n => n ≤ s.length + 1) 0 ?_ rfl (by omega) ?_
  · (first | (simp [Env.shr, Env.get, PV.exp, PV.ids, PV.ids.idsL]; done) | simp [Env.shr, Env.get, PV.exp, PV.ids, PV.ids.idsL, *])
  intro n hn ih
  apply LP_go
  by_cases hle : n ≤ s.length
  · have hP := f_PlaceOf s n (by omega)
    have hop := offset_place hle
    rw [placeOfM_eq hle] at hP hop
    simp only [placeV] at hP
    have hO := f_Offset s (1 + ((headLns (s.take n)).length : Int)) (1 + ((lastLn (s.take n)).length : Int)) (by omega)
    rw [hop] at hO
    simp only [pairI] at hO
    have ih := ih (n + 1) (by omega) (by omega)
    clear hop hT hTe
    generalize 1 + ((headLns (s.take n)).length : Int) = pl at *
    generalize 1 + ((lastLn (s.take n)).length : Int) = pc at *
    repeat' (first | ((with_reducible refine wcm ?_); first | refine cF (hP) ?_ | refine cF (hO) ?_) | refine dr ?_ | (refine ds ?_ ?_ <;> intro hb) | ((with_reducible refine dbm ?_); first | exact db_nil | refine dbc ?_ ?_) | ((with_reducible refine natle ?_); first | assumption | omega | (simp; omega)))
    refine LP_at ?_ ?_ ih
    · (first | (simp [Env.shr, Env.get, PV.exp, PV.ids, PV.ids.idsL]; done) | simp [Env.shr, Env.get, PV.exp, PV.ids, PV.ids.idsL, *])
    · simp [shrink, Ent.exp, PV.exp, PV.ids]
  clear ih
  cases hfe : firstErr 1 (splitL 10 s) with
  | some e =>
    rw [hfe] at hTe
    simp only [Prod.mk.injEq] at hTe
    have hne := firstErr_ne _ _ _ hfe
    rw [← hTe.2] at hne
    simp only at hne
    clear hTe hfe
    repeat' (first | ((with_reducible refine wcm ?_); first | refine cF (hT) ?_ | refine cF (hsan) ?_) | refine dr ?_ | (refine ds ?_ ?_ <;> intro hb) | ((with_reducible refine dbm ?_); first | exact db_nil | refine dbc ?_ ?_) | ((with_reducible refine natle ?_); first | assumption | omega | (simp; omega)))
    all_goals (simp; done)
  | none =>
    rw [hfe] at hTe
    simp only [Prod.mk.injEq] at hTe
    obtain ⟨rfl, rfl, rfl, rfl⟩ := hTe
    have hat : ∀ t ∈ allToks isTok 1 (splitL 10 s), ∃ n : Nat, offsetM s t.l t.c = ((n : Int), 0) ∧ t.s <+: s.drop n ∧ t.s ≠ [] ∧ n + t.s.length ≤ s.length := fun t ht => tok_of hfe ht
    have hord := toks_order (want := isTok) hfe
    generalize allToks isTok 1 (splitL 10 s) = l at *
    clear hfe
    repeat' (first | ((with_reducible refine wcm ?_); first | refine cF (hT) ?_) | refine dr ?_ | (refine ds ?_ ?_ <;> intro hb) | ((with_reducible refine dbm ?_); first | exact db_nil | refine dbc ?_ ?_) | ((with_reducible refine natle ?_); first | assumption | omega | (simp; omega)))
    refine LP_for l (fun i (e : Nat) => [(0, .d (.str s)), (11, .d (.int .i64 e)), (58, .d (.slice (toksD l))), (59, .d (.int .i64 l.length)), (60, .d (.int .i64 i))])
      (fun _ _ => [.box 23 [.d (.int .i64 0), .d (.int .i64 0)]]) (fun i e => e ≤ s.length ∧ ∀ t ∈ l.drop i, (e : Int) ≤ (offsetM s t.l t.c).1) 0 ?_ ?_ ⟨Nat.zero_le _, fun t ht => by obtain ⟨n, h1, _⟩ := hat t (by simpa using ht); rw [h1]; simp⟩ ?_ ?_
    · (first | (simp [Env.shr, Env.get, PV.exp, PV.ids, PV.ids.idsL]; done) | simp [Env.shr, Env.get, PV.exp, PV.ids, PV.ids.idsL, *])
    · first | rfl | simp [shrink, Ent.exp, PV.exp, PV.ids, toksD]
    · rintro i t e ht hi ⟨he, hI⟩ ih
      have hr := toksD_at ht
      obtain ⟨m, h1, h2, h3, h4⟩ := hat t (List.mem_of_getElem? ht)
      have hdr : l.drop i = t :: l.drop (i + 1) := by
        rw [List.drop_eq_getElem_cons hi]
        have : l[i] = t := by have := List.getElem?_eq_getElem hi; rw [ht] at this; exact (Option.some.inj this).symm
        rw [this]
      have hem := hI t (by rw [hdr]; simp)
      rw [h1] at hem
      simp only at hem
      have hO := f_Offset s t.l t.c (by omega)
      rw [h1] at hO
      simp only [pairI] at hO
      have hnx : ∀ u ∈ l.drop (i + 1), ((m + t.s.length : Nat) : Int) ≤ (offsetM s u.l u.c).1 := fun u hu => by
        have hp : (l.drop i).Pairwise _ := hord.sublist (List.drop_sublist i l)
        rw [hdr] at hp
        have := ((List.pairwise_cons.1 hp).1 u hu).1
        rw [h1] at this
        push_cast
        exact this
      have ih := ih (m + t.s.length) ⟨h4, hnx⟩
      have hpre : t.s.isPrefixOf (s.drop m) = true := List.isPrefixOf_iff_prefix.2 h2
      have hH := F_HasPrefix (s.drop m) t.s
      rw [hpre] at hH
      have hmin : min (m : Int) s.length = m := by omega
      have htn : 0 < t.s.length := List.length_pos_iff.2 h3
      clear hord hat hI hnx hdr h1 h2 hpre
      repeat' (first | ((with_reducible refine wcm ?_); first | refine cF (hO) ?_ | refine cF (hH) ?_) | refine dr ?_ | (refine ds ?_ ?_ <;> intro hb) | ((with_reducible refine dbm ?_); first | exact db_nil | refine dbc ?_ ?_) | ((with_reducible refine natle ?_); first | assumption | omega | (simp; omega)))
      refine LP_at ?_ ?_ ih
      · (first | (simp [Env.shr, Env.get, PV.exp, PV.ids, PV.ids.idsL]; done) | simp [Env.shr, Env.get, PV.exp, PV.ids, PV.ids.idsL, *])
      · simp [shrink, Ent.exp, PV.exp, PV.ids]
    · rintro e ⟨he, _⟩
      repeat' (first | ((with_reducible refine wcm ?_); first | refine cF (hsan) ?_) | refine dr ?_ | (refine ds ?_ ?_ <;> intro hb) | ((with_reducible refine dbm ?_); first | exact db_nil | refine dbc ?_ ?_) | ((with_reducible refine natle ?_); first | assumption | omega | (simp; omega)))
      all_goals (simp; done)
end Go.Plane
end
section
set_option linter.unnecessarySimpa false
set_option linter.unusedVariables false
set_option linter.unusedSimpArgs false
set_option maxRecDepth 100000
set_option maxHeartbeats 4000000
namespace Go.Plane
open Go Go.Proofs
attribute [local irreducible] wops wio wic wdt wdb onOut
theorem firstErr_line : ∀ (ls : List (List UInt8)) (l : Int) (e : Int × Int × Int), firstErr l ls = some e → l ≤ e.1 ∧ e.1 < l + ls.length
  | [], _, _, h => by cases h
  | y :: ls, l, e, h => by
    simp only [firstErr] at h
    cases hp : errOf (scanM y) with
    | none =>
      rw [hp] at h
      have := firstErr_line ls _ _ h
      simp only [List.length_cons]
      push_cast
      omega
    | some p =>
      rw [hp] at h
      cases h
      simp only [List.length_cons]
      push_cast
      omega
theorem withLF_len (l : List (List UInt8)) (h : ∀ s ∈ l, s.length ≤ 100) : (withLF l).length ≤ l.length * 101 := by
  induction l with
  | nil => simp [withLF]
  | cons s l ih =>
    have h1 := ih (fun x hx => h x (by simp [hx]))
    have h2 := h s (by simp)
    simp [withLF] at h1 ⊢
    omega
/-- **LexJoins.** -/
theorem law_Joins (l : List (List UInt8)) : F Γd 6 [.d (.slice (strsD l))] (.d (.bool true)) := by
  refine fn_of c6 rfl (by simp only [Env.of, List.zipIdx, List.map]; rfl) ?_
  have hsan := f_sanity
  have hln := strsD_length l
  by_cases hl : 6 < l.length
  · repeat' (first | ((with_reducible refine wcm ?_); first | refine cF (hsan) ?_) | refine dr ?_ | (refine ds ?_ ?_ <;> intro hb) | ((with_reducible refine dbm ?_); first | exact db_nil | refine dbc ?_ ?_) | ((with_reducible refine natle ?_); first | assumption | omega | (simp; omega)))
    all_goals (simp; done)
  repeat' (first | refine dr ?_ | (refine ds ?_ ?_ <;> intro hb) | ((with_reducible refine dbm ?_); first | exact db_nil | refine dbc ?_ ?_) | ((with_reducible refine natle ?_); first | assumption | omega | (simp; omega)))
  refine LP_for l (fun i _ => [(0, .d (.slice (strsD l))), (23, .d (.slice (strsD l))), (24, .d (.int .i64 l.length)), (25, .d (.int .i64 i))]) (fun _ _ => []) (fun i (_ : Unit) => ∀ y ∈ l.take i, y.length ≤ 100) () ?_ ?_ (by simp) ?_ ?_
  · (first | (simp [Env.shr, Env.get, PV.exp, PV.ids, PV.ids.idsL]; done) | simp [Env.shr, Env.get, PV.exp, PV.ids, PV.ids.idsL, *])
  · first | rfl | simp [shrink, Ent.exp, PV.exp, PV.ids]
  · rintro i y _ hy hi hI ih
    have hr := strsD_at hy
    by_cases h9 : 100 < y.length
    · clear ih
      repeat' (first | ((with_reducible refine wcm ?_); first | refine cF (hsan) ?_) | refine dr ?_ | (refine ds ?_ ?_ <;> intro hb) | ((with_reducible refine dbm ?_); first | exact db_nil | refine dbc ?_ ?_) | ((with_reducible refine natle ?_); first | assumption | omega | (simp; omega)))
      all_goals (simp; done)
    · have ih := ih () (fun z hz => by
        rw [List.take_add_one, hy, List.mem_append] at hz
        rcases hz with hz | hz
        · exact hI z hz
        · simp at hz; subst hz; omega)
      clear hI
      repeat' (first | refine dr ?_ | (refine ds ?_ ?_ <;> intro hb) | ((with_reducible refine dbm ?_); first | exact db_nil | refine dbc ?_ ?_) | ((with_reducible refine natle ?_); first | assumption | omega | (simp; omega)))
      refine LP_at ?_ ?_ ih
      · (first | (simp [Env.shr, Env.get, PV.exp, PV.ids, PV.ids.idsL]; done) | simp [Env.shr, Env.get, PV.exp, PV.ids, PV.ids.idsL, *])
      · simp [shrink, Ent.exp, PV.exp, PV.ids]
  rintro _ hI
  rw [List.take_length] at hI
  have hwl := withLF_len l hI
  have hj : joinM l = (withLF l, startsM 1 l, 0) := by
    unfold joinM
    rw [if_neg (by omega), if_neg, if_neg (by omega)]
    rw [Bool.not_eq_true, List.any_eq_false]
    intro s hs
    have := hI s hs
    simp; omega
  have hJ := f_Join l (by omega) (fun y hy => by have := hI y hy; omega)
  rw [hj] at hJ
  simp only at hJ
  have hT := f_Tokens (withLF l) (by omega)
  have hTe := tokensM_eq (s := withLF l) (by omega)
  have hTl := tokensM_len (s := withLF l) (by omega)
  rw [splitL_withLF] at hTe
  have hsl := startsM_len l 1
  have hse := startsM_eq l 1
  have hfl : ∀ i, ((l.take i).flatMap (splitL 10)).length ≤ 1000 := fun i => by
    have h1 : (l.take i).flatMap (splitL 10) ++ (l.drop i).flatMap (splitL 10) = l.flatMap (splitL 10) := by rw [← List.flatMap_append, List.take_append_drop]
    have h2 := splitL_withLF l
    have h3 := splitL_length 10 (withLF l)
    have h4 : (withLF l).count 10 ≤ (withLF l).length := List.count_le_length
    rw [h2, ← h1] at h3
    simp only [List.length_append, List.length_singleton] at h3
    omega
  have hal : ∀ i, (allToks isTok 1 ((l.take i).flatMap (splitL 10))).length ≤ 1000 := fun i => by
    have h1 := allToks_len isTok ((l.take i).flatMap (splitL 10)) 1
    have h2 : (((l.take i).flatMap (splitL 10)).map List.length).sum ≤ ((l.flatMap (splitL 10) ++ [[]]).map List.length).sum := by
      have h3 : l.flatMap (splitL 10) = (l.take i).flatMap (splitL 10) ++ (l.drop i).flatMap (splitL 10) := by rw [← List.flatMap_append, List.take_append_drop]
      rw [h3]
      simp only [List.map_append, List.sum_append]
      omega
    have h4 := splitL_sum 10 (withLF l)
    rw [splitL_withLF] at h4
    omega
  have hsid := intsD_length (startsM 1 l)
  generalize withLF l = w at *
  generalize hst : startsM 1 l = st at *
  generalize tokensM w = T at *
  obtain ⟨tl, t1, t2, t3⟩ := T
  simp only at hTl
  have htl := toksD_length tl
  simp only [readP] at hT
  clear hj
  repeat' (first | ((with_reducible refine wcm ?_); first | refine cF (hJ) ?_ | refine cF (hT) ?_) | refine dr ?_ | (refine ds ?_ ?_ <;> intro hb) | ((with_reducible refine dbm ?_); first | exact db_nil | refine dbc ?_ ?_) | ((with_reducible refine natle ?_); first | assumption | omega | (simp; omega)))
  refine LP_for l (fun i (acc : List Tok) => [(6, .d (.slice (intsD st))), (8, .d (.slice (toksD tl))), (9, .ptr 0 0), (10, .d (.int .i64 t3)), (11, .lref 1 acc.length), (55, .d (.slice (strsD l))), (56, .d (.int .i64 l.length)), (57, .d (.int .i64 i))])
    (fun _ acc => [.box 23 [.d (.int .i64 t1), .d (.int .i64 t2)], .lst (57, 4) (toksD acc)])
    (fun i acc => acc = allToks isTok 1 ((l.take i).flatMap (splitL 10)) ∧ firstErr 1 ((l.take i).flatMap (splitL 10)) = none) [] ?_ ?_ ⟨rfl, rfl⟩ ?_ ?_
  · (first | (simp [Env.shr, Env.get, PV.exp, PV.ids, PV.ids.idsL]; done) | simp [Env.shr, Env.get, PV.exp, PV.ids, PV.ids.idsL, *])
  · first | rfl | simp [shrink, Ent.exp, PV.exp, PV.ids, toksD]
  · rintro i y acc hy hi ⟨hacc, herr⟩ ih
    have hr := strsD_at hy
    have hyl := hI y (List.mem_of_getElem? hy)
    have hYT := f_Tokens y (by omega)
    rw [tokensM_eq (s := y) (by omega)] at hYT
    have hsp : (splitL 10 y).length ≤ 101 := by rw [splitL_length]; have := List.count_le_length (a := (10 : UInt8)) (l := y); omega
    have htk : (l.take (i + 1)).flatMap (splitL 10) = (l.take i).flatMap (splitL 10) ++ splitL 10 y := by rw [List.take_add_one, hy]; simp
    have hsti := hse i hi
    have hK := hfl i
    have hat : (intsD st)[i]? = some [.int .i64 (1 + (((l.take i).flatMap (splitL 10)).length : Int))] := by simp [intsD, hsti]
    have haccl : acc.length ≤ 1000 := by rw [hacc]; exact hal i
    generalize hKK : ((l.take i).flatMap (splitL 10)).length = K at *
    cases hey : firstErr 1 (splitL 10 y) with
    | some e =>
      have hdr : l.flatMap (splitL 10) ++ [[]] = (l.take i).flatMap (splitL 10) ++ (splitL 10 y ++ ((l.drop (i + 1)).flatMap (splitL 10) ++ [[]])) := by
        have h1 : l.flatMap (splitL 10) = (l.take (i + 1)).flatMap (splitL 10) ++ (l.drop (i + 1)).flatMap (splitL 10) := by rw [← List.flatMap_append, List.take_append_drop]
        rw [h1, htk]
        simp only [List.append_assoc]
      have hfe : firstErr 1 (l.flatMap (splitL 10) ++ [[]]) = some (e.1 + K, e.2) := by
        rw [hdr, firstErr_append, herr, Option.none_or, firstErr_append, hKK, firstErr_shift, hey]
        rfl
      rw [hfe] at hTe
      rw [hey] at hYT
      have hne := firstErr_ne _ _ _ hey
      have hbd := firstErr_line _ _ _ hey
      obtain ⟨e1, e2, e3⟩ := e
      simp only [Prod.mk.injEq] at hTe
      obtain ⟨rfl, rfl, rfl, rfl⟩ := hTe
      simp only [readP] at hYT
      simp only at hne hbd hYT
      have h1i : e1 + (1 + (K : Int)) - 1 = e1 + K := by omega
      clear ih hfe hey herr hacc htk hdr hse hfl hal hsti
      repeat' (first | ((with_reducible refine wcm ?_); first | refine cF (hYT) ?_ | refine cF (hsan) ?_) | refine dr ?_ | (refine ds ?_ ?_ <;> intro hb) | ((with_reducible refine dbm ?_); first | exact db_nil | refine dbc ?_ ?_) | ((with_reducible refine natle ?_); first | assumption | omega | (simp; omega)))
      all_goals (simp [eqDs, D.eqv, h1i]; done)
    | none =>
      rw [hey] at hYT
      simp only [readP] at hYT
      have hmb : ∀ t ∈ allToks isTok 1 (splitL 10 y), 1 ≤ t.l ∧ t.l ≤ 200 := fun t ht => by have := allToks_lines ht; omega
      have hml : (allToks isTok 1 (splitL 10 y)).length ≤ 100 := by
        have h1 := allToks_len isTok (splitL 10 y) 1
        have h2 := splitL_sum 10 y
        omega
      have hshift := allToks_shift isTok (1 + (K : Int) - 1) (splitL 10 y) 1
      have ih := ih (acc ++ (allToks isTok 1 (splitL 10 y)).map (shiftT (1 + (K : Int) - 1))) ⟨by rw [htk, allToks_append, ← hacc, hKK, ← hshift, show (1 : Int) + (1 + (K : Int) - 1) = 1 + K by omega], by rw [htk, firstErr_append, herr, hKK, firstErr_shift, hey]; rfl⟩
      clear hey herr hacc htk hTe hse hfl hal hsti hshift
      generalize allToks isTok 1 (splitL 10 y) = m at *
      have hmln := toksD_length m
      repeat' (first | ((with_reducible refine wcm ?_); first | refine cF (hYT) ?_) | refine dr ?_ | (refine ds ?_ ?_ <;> intro hb) | ((with_reducible refine dbm ?_); first | exact db_nil | refine dbc ?_ ?_) | ((with_reducible refine natle ?_); first | assumption | omega | (simp; omega)))
      refine LP_for m (fun k (c : List Tok) => [(6, .d (.slice (intsD st))), (8, .d (.slice (toksD tl))), (9, .ptr 0 0), (10, .d (.int .i64 t3)), (11, .lref 1 c.length), (12, .d (.int .i64 i)), (55, .d (.slice (strsD l))), (56, .d (.int .i64 l.length)), (57, .d (.int .i64 i)), (91, .d (.slice (toksD m))), (92, .d (.int .i64 m.length)), (93, .d (.int .i64 k))])
        (fun _ c => [.box 23 [.d (.int .i64 t1), .d (.int .i64 t2)], .lst (57, 4) (toksD c), .box 23 [.d (.int .i64 0), .d (.int .i64 0)]])
        (fun k c => c = acc ++ (m.take k).map (shiftT (1 + (K : Int) - 1))) acc ?_ ?_ (by simp) ?_ ?_
      · (first | (simp [Env.shr, Env.get, PV.exp, PV.ids, PV.ids.idsL]; done) | simp [Env.shr, Env.get, PV.exp, PV.ids, PV.ids.idsL, *])
      · first | rfl | simp [shrink, Ent.exp, PV.exp, PV.ids, toksD]
      · rintro k t c ht hk hc ih2
        have hrt := toksD_at ht
        have htb := hmb t (List.mem_of_getElem? ht)
        have hcl : c.length ≤ 2000 := by rw [hc]; simp; omega
        have hcd := toksD_length c
        have hcd2 := toksD_len c
        have ih2 := ih2 (c ++ [shiftT (1 + (K : Int) - 1) t]) (by rw [List.take_add_one, ht, hc]; simp)
        clear hc ih hmb
        repeat' (first | refine dr ?_ | (refine ds ?_ ?_ <;> intro hb) | ((with_reducible refine dbm ?_); first | exact db_nil | refine dbc ?_ ?_) | ((with_reducible refine natle ?_); first | assumption | omega | (simp; omega)))
        refine LP_at ?_ ?_ ih2
        · (first | (simp [Env.shr, Env.get, PV.exp, PV.ids, PV.ids.idsL]; done) | simp [Env.shr, Env.get, PV.exp, PV.ids, PV.ids.idsL, *])
        · simp [shrink, Ent.exp, PV.exp, PV.ids, toksD, shiftT]
      · rintro c hc
        rw [List.take_length] at hc
        subst hc
        clear hmb
        repeat' (first | refine dr ?_ | (refine ds ?_ ?_ <;> intro hb) | ((with_reducible refine dbm ?_); first | exact db_nil | refine dbc ?_ ?_) | ((with_reducible refine natle ?_); first | assumption | omega | (simp; omega)))
        refine LP_at ?_ ?_ ih
        · (first | (simp [Env.shr, Env.get, PV.exp, PV.ids, PV.ids.idsL]; done) | simp [Env.shr, Env.get, PV.exp, PV.ids, PV.ids.idsL, *])
        · simp [shrink, Ent.exp, PV.exp, PV.ids, toksD]
  · rintro acc ⟨hacc, herr⟩
    have hac2 := hal l.length
    rw [List.take_length] at hacc herr hac2
    rw [firstErr_append, herr, Option.none_or, show firstErr (1 + ((l.flatMap (splitL 10)).length : Int)) [[]] = none from rfl] at hTe
    simp only [Prod.mk.injEq] at hTe
    obtain ⟨rfl, rfl, rfl, rfl⟩ := hTe
    have hall : allToks isTok 1 (l.flatMap (splitL 10) ++ [[]]) = acc := by
      rw [allToks_append, ← hacc]
      have : allToks isTok (1 + ((l.flatMap (splitL 10)).length : Int)) [[]] = [] := rfl
      rw [this, List.append_nil]
    rw [← hacc] at hac2
    rw [hall] at *
    have hsame := same_self acc (by omega)
    have htake : (toksD acc).take acc.length = toksD acc := List.take_of_length_le (by rw [toksD_length]; exact Nat.le_refl _)
    clear hall hacc herr hse hfl hal
    repeat' (first | ((with_reducible refine wcm ?_); first | refine cF (hsame) ?_ | refine cF (hsan) ?_) | refine dr ?_ | (refine ds ?_ ?_ <;> intro hb) | ((with_reducible refine dbm ?_); first | exact db_nil | refine dbc ?_ ?_) | ((with_reducible refine natle ?_); first | assumption | omega | (simp; omega)))
    all_goals (simp; done)
end Go.Plane
end
section
set_option linter.unnecessarySimpa false
set_option linter.unusedVariables false
set_option linter.unusedSimpArgs false
namespace Go.Plane
open Go Go.Proofs
/-! ### Runs and signs -/
def isRun (t : List UInt8) : Prop := ∃ b r, t = b :: r ∧ b ≠ 95 ∧ ∀ c ∈ t, isPart c = true
theorem right_shape {t : Tok} (h : rightM t = true) : shapeM t.s = (t.k, 0) ∧ t.k ≠ 6 := by
  have := of_decide_eq_true h
  exact ⟨Prod.ext this.2.1 this.1, this.2.2⟩
theorem right_of {t : Tok} (h : shapeM t.s = (t.k, 0)) (h6 : t.k ≠ 6) : rightM t = true := by
  unfold rightM
  rw [decide_eq_true_eq, h]
  exact ⟨rfl, rfl, h6⟩
theorem digit_ne95 {b : UInt8} (h : isDigit b = true) : b ≠ 95 := by
  rintro rfl
  revert h
  decide
theorem shape_cases {s : List UInt8} {k : Int} (h : shapeM s = (k, 0)) : isRun s ∨ (s ∈ signs ∧ k = 5) := by
  unfold shapeM at h
  split at h
  · cases h
  · rename_i b r
    split at h
    · rename_i h1
      exact .inl ⟨b, r, rfl, digit_ne95 h1.2, takeWhile_all h1.1⟩
    · split at h
      · rename_i h1
        exact .inl ⟨b, r, rfl, h1.2, takeWhile_all h1.1⟩
      · split at h
        · rename_i h1
          exact .inr ⟨(mem_signs b r).2 h1, by cases h; rfl⟩
        · cases h
theorem run_noSign {t : List UInt8} (h : isRun t) : t ∉ signs := by
  obtain ⟨b, r, rfl, _, h1⟩ := h
  intro hs
  have := sign_head hs
  rw [h1 b (by simp)] at this
  cases this
theorem sign_ne {t : List UInt8} (h : t ∈ signs) : t ≠ [] := by
  have : ∀ x ∈ signs, x ≠ [] := by decide
  exact this t h
theorem sign_bytes {t : List UInt8} (h : t ∈ signs) : ∀ c ∈ t, c ≠ 32 ∧ c ≠ 10 := by
  have : ∀ x ∈ signs, ∀ c ∈ x, c ≠ 32 ∧ c ≠ 10 := by decide
  exact this t h
theorem part_bytes {c : UInt8} (h : isPart c = true) : c ≠ 32 ∧ c ≠ 10 ∧ c ≠ 45 := by
  refine ⟨?_, ?_, ?_⟩ <;> (rintro rfl; revert h; decide)
theorem right_cases {t : Tok} (h : rightM t = true) : isRun t.s ∨ (t.s ∈ signs ∧ t.k = 5) := shape_cases (right_shape h).1
theorem right_ne {t : Tok} (h : rightM t = true) : t.s ≠ [] := by
  rcases right_cases h with h | h
  · obtain ⟨b, r, h1, _⟩ := h; rw [h1]; simp
  · exact sign_ne h.1
theorem right_bytes {t : Tok} (h : rightM t = true) : ∀ c ∈ t.s, c ≠ 32 ∧ c ≠ 10 := by
  rcases right_cases h with h | h
  · obtain ⟨b, r, h1, _, h2⟩ := h
    exact fun c hc => ⟨(part_bytes (h2 c hc)).1, (part_bytes (h2 c hc)).2.1⟩
  · exact sign_bytes h.1
theorem takeWhile_stop {p : UInt8 → Bool} {u R : List UInt8} (h1 : ∀ c ∈ u, p c = true) (h2 : ∀ c, R.head? = some c → p c = false) : (u ++ R).takeWhile p = u := by
  rw [List.takeWhile_append_of_pos h1]
  cases R with
  | nil => simp
  | cons c R => rw [List.takeWhile_cons, if_neg (by simp [h2 c rfl])]; simp
theorem note_head {b : UInt8} {r : List UInt8} (h : b ≠ 45) : [45, 45].isPrefixOf (b :: r) = false := by
  simp [List.isPrefixOf, Ne.symm h]
theorem piece_run {i : Int} {b : UInt8} {r R : List UInt8} (h : isRun (b :: r)) (hR : ∀ c, R.head? = some c → isPart c = false) :
    pieceM i b (r ++ R) = (⟨(shapeM (b :: r)).1, b :: r, i, (shapeM (b :: r)).2⟩, (b :: r).length) := by
  obtain ⟨_, _, he, h95, hall⟩ := h
  cases he
  have htw : List.takeWhile isPart (b :: (r ++ R)) = b :: r := takeWhile_stop (u := b :: r) hall hR
  unfold pieceM
  rw [if_neg (by rw [note_head (part_bytes (hall b (by simp))).2.2]; simp), htw, if_pos ⟨by simp, h95⟩]
  have : List.take (b :: r).length (b :: (r ++ R)) = b :: r := by
    rw [← List.cons_append]; exact List.take_left
  rw [this]
theorem piece_sign {i : Int} {b : UInt8} {r R : List UInt8} (hs : b :: r ∈ signs) (h1 : signM (b :: r ++ R) = b :: r) (h2 : [45, 45].isPrefixOf (b :: r ++ R) = false) :
    pieceM i b (r ++ R) = (⟨5, b :: r, i, 0⟩, (b :: r).length) := by
  have hb := sign_head hs
  rw [List.cons_append] at h1 h2
  unfold pieceM
  rw [if_neg (by rw [h2]; simp), if_neg (by rw [List.takeWhile_cons, if_neg (by simp [hb])]; simp), h1]
  simp
/-- Such a text stands ahead of such another one, and is read by itself. -/
def fits (t R : List UInt8) : Prop := (t ∈ signs → signM (t ++ R) = t ∧ [45, 45].isPrefixOf (t ++ R) = false) ∧ (t ∉ signs → ∀ c, R.head? = some c → isPart c = false)
theorem ne32_of {t : Tok} (hr : rightM t = true) {b : UInt8} {r : List UInt8} (h : t.s = b :: r) : b ≠ 32 := (right_bytes hr b (by rw [h]; simp)).1
theorem scan_fits {i : Nat} {t : Tok} {R : List UInt8} (hr : rightM t = true) (hf : fits t.s R) : scan i (t.s ++ R) = ⟨t.k, t.s, i, 0⟩ :: scan (i + t.s.length) R := by
  obtain ⟨hsh, h6⟩ := right_shape hr
  cases hs : t.s with
  | nil => exact absurd hs (right_ne hr)
  | cons b r =>
    have hb := ne32_of hr hs
    rw [hs] at hsh hf
    have hp : pieceM i b (r ++ R) = (⟨t.k, b :: r, i, 0⟩, (b :: r).length) := by
      rcases right_cases hr with h | h
      · rw [hs] at h
        rw [piece_run h (hf.2 (run_noSign h)), hsh]
      · rw [hs] at h
        obtain ⟨k1, k2⟩ := hf.1 h.1
        rw [piece_sign h.1 k1 k2, h.2]
    rw [List.cons_append, scan_ok hb (by rw [hp]), hp]
    simp only
    congr 2
    rw [← List.cons_append]; exact List.drop_left
theorem fits_of_scan {i : Nat} {t : Tok} {R : List UInt8} {p : Pc} {q : List Pc} (hr : rightM t = true) (h : scan i (t.s ++ R) = p :: q) (he : p.e = 0) (hs : p.s = t.s) (hk : p.k = t.k) :
    fits t.s R ∧ q = scan (i + t.s.length) R := by
  obtain ⟨hsh, h6⟩ := right_shape hr
  cases hts : t.s with
  | nil => exact absurd hts (right_ne hr)
  | cons b r =>
    have hb := ne32_of hr hts
    rw [hts, List.cons_append] at h
    have hpe : (pieceM i b (r ++ R)).1.e = 0 := by
      apply Decidable.byContradiction
      intro hne
      rw [scan_err hb hne] at h
      rw [(List.cons.inj h).1] at hne
      exact hne he
    rw [scan_ok hb hpe] at h
    obtain ⟨h1, h2⟩ := List.cons.inj h
    have hlen := piece_len hpe
    have htx := (piece_text hpe).1
    rw [h1, hs, hts] at hlen htx
    refine ⟨?_, ?_⟩
    · rcases right_cases hr with hc | hc
      · rw [hts] at hc
        refine ⟨fun hsg => absurd hsg (run_noSign hc), fun _ c hc' => ?_⟩
        obtain ⟨_, _, heq, h95, hall⟩ := hc
        cases heq
        have hn : ¬[45, 45].isPrefixOf (b :: (r ++ R)) = true := by rw [note_head (part_bytes (hall b (by simp))).2.2]; simp
        have htw : 0 < (List.takeWhile isPart (b :: (r ++ R))).length := by rw [List.takeWhile_cons, if_pos (hall b (by simp))]; simp
        have hpm : (pieceM i b (r ++ R)).2 = (List.takeWhile isPart (b :: (r ++ R))).length := by
          unfold pieceM; rw [if_neg hn, if_pos ⟨htw, h95⟩]
        rw [hpm] at hlen
        have h3 : List.takeWhile isPart (b :: r ++ R) = (b :: r) ++ R.takeWhile isPart := List.takeWhile_append_of_pos hall
        rw [List.cons_append] at h3
        rw [h3, List.length_append] at hlen
        cases R with
        | nil => cases hc'
        | cons d R =>
          cases hc'
          rw [List.takeWhile_cons] at hlen
          split at hlen
          · simp at hlen
          · rename_i hd; simpa using hd
      · rw [hts] at hc
        refine ⟨fun _ => ?_, fun hn => absurd hc.1 hn⟩
        have hbp := sign_head hc.1
        have hn : [45, 45].isPrefixOf (b :: (r ++ R)) = false := by
          rcases piece_right hpe with h5 | h5
          · rw [h1, hk] at h5; exact absurd h5.1 h6
          · exact h5.2.2
        refine ⟨?_, hn⟩
        have hpm : (pieceM i b (r ++ R)).1.s = signM (b :: (r ++ R)) := by
          unfold pieceM
          rw [if_neg (by rw [hn]; simp), if_neg (by rw [List.takeWhile_cons, if_neg (by simp [hbp])]; simp)]
        rw [h1, hs, hts] at hpm
        exact hpm.symm
    · rw [← h2, ← hlen]
      congr 1
      rw [← List.cons_append]; exact List.drop_left
theorem signM_two (x y : UInt8) (l : List UInt8) : signM (x :: y :: l) = signM [x, y] := by
  unfold signM
  congr 1
theorem fits_ext {t R : List UInt8} (R' : List UInt8) (hR : R ≠ []) : fits t (R ++ R') ↔ fits t R := by
  unfold fits
  have h1 : (R ++ R').head? = R.head? := by cases R with | nil => exact absurd rfl hR | cons c R => rfl
  have h2 : t ∈ signs → signM (t ++ (R ++ R')) = signM (t ++ R) ∧ [45, 45].isPrefixOf (t ++ (R ++ R')) = [45, 45].isPrefixOf (t ++ R) := by
    intro hs
    have hne := sign_ne hs
    match t, R, hne, hR with
    | a :: [], c :: R, _, _ =>
      simp only [List.cons_append, List.nil_append]
      exact ⟨by rw [signM_two, signM_two a c R], by simp [List.isPrefixOf]⟩
    | a :: b :: t, R, _, _ =>
      simp only [List.cons_append]
      exact ⟨by rw [signM_two, signM_two a b (t ++ R)], by simp [List.isPrefixOf]⟩
  rw [h1]
  constructor
  · rintro ⟨k1, k2⟩
    exact ⟨fun hs => by have := k1 hs; rwa [(h2 hs).1, (h2 hs).2] at this, k2⟩
  · rintro ⟨k1, k2⟩
    exact ⟨fun hs => by have := k1 hs; rwa [(h2 hs).1, (h2 hs).2], k2⟩
theorem fits_nil (t : List UInt8) : fits t [] := by
  refine ⟨fun hs => ?_, fun _ c hc => by cases hc⟩
  have : ∀ x ∈ signs, signM (x ++ []) = x ∧ [45, 45].isPrefixOf (x ++ []) = false := by decide
  exact this t hs
theorem fits_blank (t R : List UInt8) : fits t (32 :: R) := by
  have h : fits t [32] := by
    refine ⟨fun hs => ?_, fun _ c hc => by cases hc; decide⟩
    have : ∀ x ∈ signs, signM (x ++ [32]) = x ∧ [45, 45].isPrefixOf (x ++ [32]) = false := by decide
    exact this t hs
  exact (fits_ext R (by simp)).2 h

/-! ### By kind and text -/
def kts (ps : List Pc) : List (Int × List UInt8) := (ps.filter fun p => isTok p.k).map fun p => (p.k, p.s)
theorem kept_kts (l : Int) (ps : List Pc) : (keptOf isTok l ps).map Tok.kt = kts ps := by
  simp only [keptOf, kts, List.map_map]
  rfl
theorem kts_cons {p : Pc} {q : List Pc} (h : p.k ≠ 6) : kts (p :: q) = (p.k, p.s) :: kts q := by
  have : isTok p.k = true := by simp [isTok, h]
  simp [kts, this]
theorem kts_note {p : Pc} {q : List Pc} (h : p.k = 6) : kts (p :: q) = kts q := by
  have : isTok p.k = false := by simp [isTok, h]
  simp [kts, this]
theorem scan_head {i : Nat} {c : UInt8} {u : List UInt8} (hc : c ≠ 32) (h0 : ∀ p ∈ scan i (c :: u), p.e = 0) {t : Int × List UInt8} {rest : List (Int × List UInt8)} (hk : kts (scan i (c :: u)) = t :: rest) :
    ∃ p q, scan i (c :: u) = p :: q ∧ (p.k, p.s) = t ∧ p.k ≠ 6 ∧ kts q = rest ∧ p.e = 0 := by
  have he : (pieceM i c u).1.e = 0 := by
    apply Decidable.byContradiction
    intro hne
    rw [scan_err hc hne] at h0
    exact hne (h0 _ (by simp))
  rw [scan_ok hc he] at hk ⊢
  rcases piece_right he with h | h
  · rw [kts_note h.1, h.2.2.1, List.drop_length, scan_nil'] at hk
    cases hk
  · rw [kts_cons h.1] at hk
    obtain ⟨h1, h2⟩ := List.cons.inj hk
    exact ⟨_, _, rfl, h1, h.1, h2, he⟩
theorem errOf_all {ps : List Pc} (h : ∀ p ∈ ps, p.e = 0) : errOf ps = none := by
  unfold errOf
  rw [List.find?_eq_none]
  intro p hp
  simp [h p hp]
theorem needs_fits {a b : Tok} (ha : rightM a = true) (hb : rightM b = true) : needsM a b = false ↔ fits a.s b.s := by
  have h2 : scan a.s.length b.s = [⟨b.k, b.s, a.s.length, 0⟩] := by
    have := scan_fits (i := a.s.length) hb (fits_nil b.s)
    rwa [List.append_nil, scan_nil'] at this
  unfold needsM
  rw [readM_eq]
  constructor
  · intro h
    have hf : errOf (scanM (a.s ++ b.s)) = none := by
      cases he : errOf (scanM (a.s ++ b.s)) with
      | none => rfl
      | some p =>
        have hne := List.find?_some he
        simp only [firstErr, he] at h
        simp at hne
        simp [hne] at h
    simp only [firstErr, hf, allToks, List.nil_append, List.append_nil, ne_eq, not_true, decide_false, Bool.false_or, Bool.not_eq_false'] at h
    have hk := of_decide_eq_true h
    rw [kept_kts, scanM_eq] at hk
    rw [scanM_eq] at hf
    have h0 := errOf_none hf
    cases hs : a.s with
    | nil => exact absurd hs (right_ne ha)
    | cons c u =>
      have hc := ne32_of ha hs
      rw [hs, List.cons_append] at hk h0
      obtain ⟨p, q, e1, e2, e3, e4, e5⟩ := scan_head hc h0 hk
      rw [← List.cons_append, ← hs] at e1
      simp only [Tok.kt, Prod.mk.injEq] at e2
      have := (fits_of_scan ha e1 e5 e2.2 e2.1).1
      rwa [hs] at this
  · intro h
    have h1 := scan_fits (i := 0) ha h
    rw [Nat.zero_add, h2] at h1
    have hf : errOf (scanM (a.s ++ b.s)) = none := by
      rw [scanM_eq, h1]; exact errOf_all (by simp)
    simp only [firstErr, hf, allToks, List.nil_append, List.append_nil, ne_eq, not_true, decide_false, Bool.false_or, Bool.not_eq_false']
    apply decide_eq_true
    rw [kept_kts, scanM_eq, h1]
    have k1 := (right_shape ha).2
    have k2 := (right_shape hb).2
    rw [kts_cons k1, kts_cons k2]
    rfl

/-! ### Texts of tokens are read back -/
section
variable {bl : Tok → Tok → Bool}
theorem fits_join (hbl : ∀ a b, rightM a = true → rightM b = true → bl a b = false → needsM a b = false) {t : Tok} (ht : rightM t = true) : ∀ l : List Tok, (∀ u ∈ l, rightM u = true) → fits t.s (joinTok bl (some t) l)
  | [], _ => fits_nil _
  | u :: l, h => by
    have hu := h u (by simp)
    simp only [joinTok, sepM]
    split
    · exact fits_blank _ _
    · rename_i hb
      rw [List.nil_append, fits_ext _ (right_ne hu)]
      exact (needs_fits ht hu).1 (hbl t u ht hu (by simpa using hb))
theorem scan_sep (o : Option Tok) (t : Tok) (i : Nat) (u : List UInt8) : ∃ j, scan i (sepM bl o t ++ u) = scan j u := by
  unfold sepM
  split
  · exact ⟨i, rfl⟩
  · split
    · exact ⟨i + 1, by simp [scan_blank]⟩
    · exact ⟨i, rfl⟩
theorem scan_join (hbl : ∀ a b, rightM a = true → rightM b = true → bl a b = false → needsM a b = false) : ∀ (l : List Tok) (o : Option Tok) (i : Nat), (∀ u ∈ l, rightM u = true) →
    (∀ p ∈ scan i (joinTok bl o l), p.e = 0) ∧ kts (scan i (joinTok bl o l)) = l.map Tok.kt
  | [], o, i, _ => by simp [joinTok, scan_nil', kts]
  | t :: l, o, i, h => by
    have ht := h t (by simp)
    have hl : ∀ u ∈ l, rightM u = true := fun u hu => h u (by simp [hu])
    simp only [joinTok, List.append_assoc]
    obtain ⟨j, hj⟩ := scan_sep (bl := bl) o t i (t.s ++ joinTok bl (some t) l)
    rw [hj, scan_fits ht (fits_join hbl ht l hl)]
    obtain ⟨k1, k2⟩ := scan_join hbl l (some t) (j + t.s.length) hl
    refine ⟨fun p hp => ?_, ?_⟩
    · rcases List.mem_cons.1 hp with rfl | hp
      · rfl
      · exact k1 p hp
    · rw [kts_cons (right_shape ht).2, k2]; rfl
theorem joinTok_bytes : ∀ (l : List Tok) (o : Option Tok), (∀ u ∈ l, rightM u = true) → 10 ∉ joinTok bl o l
  | [], o, _ => by simp [joinTok]
  | t :: l, o, h => by
    have ih := joinTok_bytes l (some t) (fun u hu => h u (by simp [hu]))
    have ht := right_bytes (h t (by simp))
    simp only [joinTok, List.mem_append, not_or]
    refine ⟨⟨?_, fun hc => (ht 10 hc).2 rfl⟩, ih⟩
    unfold sepM
    split
    · simp
    · split <;> simp
end
/-- The tokens of a text of right tokens. -/
theorem tokens_join {bl : Tok → Tok → Bool} (hbl : ∀ a b, rightM a = true → rightM b = true → bl a b = false → needsM a b = false) {l : List Tok} (h : ∀ u ∈ l, rightM u = true) (hn : l.length ≤ 6000) (hlen : (joinTok bl none l).length ≤ 20000) :
    (tokensM (joinTok bl none l)).2 = (0, 0, 0) ∧ (tokensM (joinTok bl none l)).1.map Tok.kt = l.map Tok.kt := by
  obtain ⟨k1, k2⟩ := scan_join hbl l none 0 h
  have hno := joinTok_bytes (bl := bl) l none h
  have hr : readM isTok 1 (splitL 10 (joinTok bl none l)) [] = (keptOf isTok 1 (scan 0 (joinTok bl none l)), 0, 0, 0) := by
    rw [splitL_one hno, readM_eq]
    simp only [firstErr, scanM_eq, errOf_all k1, allToks, List.append_nil, List.nil_append]
  have hkk : (keptOf isTok 1 (scan 0 (joinTok bl none l))).map Tok.kt = l.map Tok.kt := by rw [kept_kts, k2]
  have hll : (keptOf isTok 1 (scan 0 (joinTok bl none l))).length = l.length := by
    have := congrArg List.length hkk
    simpa using this
  unfold tokensM
  rw [if_neg (by omega), hr, if_neg (by simp only; omega)]
  exact ⟨rfl, hkk⟩
theorem joinTok_kt (bl : Tok → Tok → Bool) (hb : ∀ a b a' b' : Tok, a.kt = a'.kt → b.kt = b'.kt → bl a b = bl a' b') : ∀ (l m : List Tok) (o o' : Option Tok), l.map Tok.kt = m.map Tok.kt → o.map Tok.kt = o'.map Tok.kt → joinTok bl o l = joinTok bl o' m
  | [], [], _, _, _, _ => rfl
  | t :: l, u :: m, o, o', h, ho => by
    simp only [List.map_cons, List.cons.injEq] at h
    have hs : t.s = u.s := (Prod.mk.inj h.1).2
    simp only [joinTok]
    rw [joinTok_kt bl hb l m (some t) (some u) h.2 (by simp [h.1]), hs]
    congr 2
    cases o with
    | none => cases o' with
      | none => rfl
      | some b => cases ho
    | some a => cases o' with
      | none => cases ho
      | some b =>
        simp only [sepM]
        rw [hb a t b u (by simpa using ho) h.1]
  | [], u :: m, _, _, h, _ => by simp at h
  | t :: l, [], _, _, h, _ => by simp at h
theorem needsM_kt (a b a' b' : Tok) (h1 : a.kt = a'.kt) (h2 : b.kt = b'.kt) : needsM a b = needsM a' b' := by
  have e1 : a.s = a'.s := (Prod.mk.inj h1).2
  have e2 : b.s = b'.s := (Prod.mk.inj h2).2
  unfold needsM sameK
  simp only [e1, e2, List.map_cons, h1, h2, List.map_nil]
theorem rightM_kt {a b : Tok} (h : a.kt = b.kt) : rightM a = rightM b := by
  obtain ⟨h1, h2⟩ := Prod.mk.inj h
  unfold rightM
  rw [h1, h2]

/-! ### No blank can be left out -/
theorem blank_at {bl : Tok → Tok → Bool} : ∀ (l : List Tok) (o : Option Tok) (k : Nat), (∀ u ∈ l, rightM u = true) → (joinTok bl o l)[k]? = some 32 →
    ∃ l1 b l2 a, l = l1 ++ b :: l2 ∧ (joinTok bl o l).take k = joinTok bl o l1 ∧ (joinTok bl o l).drop (k + 1) = b.s ++ joinTok bl (some b) l2 ∧ l1.getLast?.or o = some a ∧ bl a b = true
  | [], _, _, _, h => by simp [joinTok] at h
  | t :: l, o, k, hr, h => by
    have ht := right_bytes (hr t (by simp))
    have hl : ∀ u ∈ l, rightM u = true := fun u hu => hr u (by simp [hu])
    simp only [joinTok] at h ⊢
    by_cases hk : k < (sepM bl o t).length
    · have hsep : ∃ a, o = some a ∧ bl a t = true ∧ sepM bl o t = [32] := by
        cases o with
        | none => simp [sepM] at hk
        | some a =>
          simp only [sepM] at hk ⊢
          split at hk
          · rename_i hb; exact ⟨a, rfl, hb, by rw [if_pos hb]⟩
          · simp at hk
      obtain ⟨a, rfl, hb, hs⟩ := hsep
      rw [hs] at hk ⊢
      have : k = 0 := by simp at hk; exact hk
      subst this
      exact ⟨[], t, l, a, rfl, by simp [joinTok], by simp, rfl, hb⟩
    · by_cases hk2 : k < (sepM bl o t ++ t.s).length
      · rw [List.getElem?_append_left hk2, List.getElem?_append_right (by omega)] at h
        exact absurd rfl (ht 32 (List.mem_of_getElem? h)).1
      · rw [List.getElem?_append_right (by omega)] at h
        obtain ⟨l1, b, l2, a, e1, e2, e3, e4, e5⟩ := blank_at l (some t) _ hl h
        refine ⟨t :: l1, b, l2, a, by rw [e1]; rfl, ?_, ?_, ?_, e5⟩
        · rw [List.take_append, e2, List.take_of_length_le (by omega)]
          rfl
        · rw [List.drop_append, List.drop_of_length_le (by omega), List.nil_append, show k + 1 - (sepM bl o t ++ t.s).length = k - (sepM bl o t ++ t.s).length + 1 by omega, e3]
        · rw [← e4]
          cases l1 with
          | nil => simp
          | cons y l1 =>
            simp only [List.getLast?_cons_cons]
            cases hh : (y :: l1).getLast? with
            | none => simp at hh
            | some z => rfl
theorem peel {bl : Tok → Tok → Bool} : ∀ (l : List Tok) (o : Option Tok) (i : Nat) (Y : List UInt8) (rest : List (Int × List UInt8)), (∀ u ∈ l, rightM u = true) → (∀ p ∈ scan i (joinTok bl o l ++ Y), p.e = 0) →
    kts (scan i (joinTok bl o l ++ Y)) = l.map Tok.kt ++ rest → ∃ j, (∀ p ∈ scan j Y, p.e = 0) ∧ kts (scan j Y) = rest ∧ ∀ a, l.getLast? = some a → fits a.s Y
  | [], o, i, Y, rest, _, h0, hk => ⟨i, h0, hk, fun a ha => by cases ha⟩
  | t :: l, o, i, Y, rest, hr, h0, hk => by
    have ht := hr t (by simp)
    simp only [joinTok, List.append_assoc] at h0 hk
    obtain ⟨j, hj⟩ := scan_sep (bl := bl) o t i (t.s ++ (joinTok bl (some t) l ++ Y))
    rw [hj] at h0 hk
    cases hs : t.s with
    | nil => exact absurd hs (right_ne ht)
    | cons c u =>
      have hc := ne32_of ht hs
      rw [hs, List.cons_append] at hk h0
      obtain ⟨p, q, e1, e2, e3, e4, e5⟩ := scan_head hc h0 hk
      have h0' := h0
      rw [e1] at h0'
      rw [← List.cons_append, ← hs] at e1
      simp only [Tok.kt, Prod.mk.injEq] at e2
      obtain ⟨f1, f2⟩ := fits_of_scan ht e1 e5 e2.2 e2.1
      subst f2
      obtain ⟨j', g1, g2, g3⟩ := peel l (some t) _ Y rest (fun x hx => hr x (by simp [hx])) (fun p hp => h0' p (by simp [hp])) e4
      refine ⟨j', g1, g2, fun a ha => ?_⟩
      cases l with
      | nil =>
        simp at ha
        subst ha
        exact f1
      | cons y l => exact g3 a (by rwa [List.getLast?_cons_cons] at ha)
/-- No blank of the shortest text can be left out. -/
theorem no_blank {l : List Tok} (h : ∀ u ∈ l, rightM u = true) {k : Nat} (hk : (joinTok needsM none l)[k]? = some 32)
    (h0 : ∀ p ∈ scan 0 ((joinTok needsM none l).take k ++ (joinTok needsM none l).drop (k + 1)), p.e = 0) : kts (scan 0 ((joinTok needsM none l).take k ++ (joinTok needsM none l).drop (k + 1))) ≠ l.map Tok.kt := by
  intro hkk
  obtain ⟨l1, b, l2, a, e1, e2, e3, e4, e5⟩ := blank_at l none k h hk
  rw [e2, e3] at h0 hkk
  rw [e1, List.map_append] at hkk
  have hr1 : ∀ u ∈ l1, rightM u = true := fun u hu => h u (by rw [e1]; simp [hu])
  have hrb : rightM b = true := h b (by rw [e1]; simp)
  obtain ⟨j, g1, g2, g3⟩ := peel l1 none 0 _ _ hr1 h0 hkk
  have hla : l1.getLast? = some a := by simpa using e4
  have hra : rightM a = true := hr1 a (List.mem_of_getLast? hla)
  have := (fits_ext _ (right_ne hrb)).1 (g3 a hla)
  rw [(needs_fits hra hrb).2 this] at e5
  cases e5

/-! ### The shortest text is not longer -/
theorem joinTok_append (bl : Tok → Tok → Bool) : ∀ (l m : List Tok) (o : Option Tok), joinTok bl o (l ++ m) = joinTok bl o l ++ joinTok bl (l.getLast?.or o) m
  | [], m, o => by simp [joinTok]
  | t :: l, m, o => by
    simp only [List.cons_append, joinTok, joinTok_append bl l m (some t), List.append_assoc]
    rw [show (t :: l).getLast?.or o = l.getLast?.or (some t) by
      cases l with
      | nil => simp
      | cons y l =>
        simp only [List.getLast?_cons_cons]
        cases h : (y :: l).getLast? with
        | none => simp at h
        | some z => rfl]
theorem tight_line (L : Int) : ∀ (i : Nat) (u : List UInt8), (∀ p ∈ scan i u, p.e = 0) → ∀ o : Option Tok, (∀ a, o = some a → rightM a = true) →
    (joinTok needsM o (keptOf isTok L (scan i u))).length ≤ u.length + o.toList.length ∧ ∀ a, o = some a → fits a.s u → (joinTok needsM o (keptOf isTok L (scan i u))).length ≤ u.length := by
  refine scan_ind (fun i h o ho => ?_) (fun i r ih h o ho => ?_) (fun i b r hb he h o ho => ?_) (fun i b r hb he ih h o ho => ?_)
  · simp [scan_nil', keptOf, joinTok]
  · rw [scan_blank] at h ⊢
    have ih := ih h o ho
    refine ⟨by simp only [List.length_cons]; omega, fun a ha _ => ?_⟩
    subst ha
    have := ih.1
    simp only [Option.toList, List.length_singleton] at this
    simp only [List.length_cons]
    omega
  · rw [scan_err hb he] at h
    exact absurd (h _ (by simp)) he
  · rw [scan_ok hb he] at h ⊢
    rcases piece_right he with hp | hp
    · have hn : isTok (pieceM i b r).1.k = false := by simp [isTok, hp.1]
      have : keptOf isTok L ((pieceM i b r).1 :: scan (i + (pieceM i b r).2) (List.drop (pieceM i b r).2 (b :: r))) = [] := by
        rw [hp.2.2.1, List.drop_length, scan_nil']
        simp [keptOf, hn]
      rw [this]
      simp [joinTok]
    · have hn : isTok (pieceM i b r).1.k = true := by simp [isTok, hp.1]
      have hrt : rightM (tokOf L (pieceM i b r).1) = true := right_of hp.2.1 hp.1
      have hs : scan i ((tokOf L (pieceM i b r).1).s ++ List.drop (pieceM i b r).2 (b :: r)) = (pieceM i b r).1 :: scan (i + (pieceM i b r).2) (List.drop (pieceM i b r).2 (b :: r)) := by
        have : (tokOf L (pieceM i b r).1).s ++ List.drop (pieceM i b r).2 (b :: r) = b :: r := by
          simp only [tokOf]
          rw [(piece_text he).1, List.take_append_drop]
        rw [this, scan_ok hb he]
      have hfit := (fits_of_scan hrt hs he rfl rfl).1
      have hlen := piece_len he
      have hle := pieceM_len i b r
      have ih := (ih (fun p hp => h p (by simp [hp])) (some (tokOf L (pieceM i b r).1)) (fun a ha => by cases ha; exact hrt)).2 _ rfl hfit
      have hk : keptOf isTok L ((pieceM i b r).1 :: scan (i + (pieceM i b r).2) (List.drop (pieceM i b r).2 (b :: r))) = tokOf L (pieceM i b r).1 :: keptOf isTok L (scan (i + (pieceM i b r).2) (List.drop (pieceM i b r).2 (b :: r))) := by
        simp [keptOf, hn]
      rw [hk]
      rw [List.length_drop] at ih
      simp only [joinTok, List.length_append]
      have hts : (tokOf L (pieceM i b r).1).s.length = (pieceM i b r).2 := hlen
      refine ⟨?_, fun a ha hfa => ?_⟩
      · have : (sepM needsM o (tokOf L (pieceM i b r).1)).length ≤ o.toList.length := by
          cases o with
          | none => simp [sepM]
          | some a => simp only [sepM, Option.toList, List.length_singleton]; split <;> simp
        omega
      · subst ha
        have hfa' : fits a.s (tokOf L (pieceM i b r).1).s := by
          have e : b :: r = (tokOf L (pieceM i b r).1).s ++ List.drop (pieceM i b r).2 (b :: r) := by
            simp only [tokOf]
            rw [(piece_text he).1, List.take_append_drop]
          rw [e] at hfa
          exact (fits_ext _ (right_ne hrt)).1 hfa
        have hno := (needs_fits (ho a rfl) hrt).2 hfa'
        simp only [sepM, hno, Bool.false_eq_true, if_false, List.length_nil]
        omega
theorem kept_right {L : Int} {u : List UInt8} (h : ∀ p ∈ scan 0 u, p.e = 0) : ∀ t ∈ keptOf isTok L (scan 0 u), rightM t = true := by
  intro t ht
  obtain ⟨_, p, hp, hw, rfl⟩ := keptOf_line ht
  have h6 : p.k ≠ 6 := by simpa [isTok] using hw
  exact right_of (scan_right 0 u p hp (h p hp) h6) h6
theorem allToks_right {L : Int} {ls : List (List UInt8)} (h : ∀ x ∈ ls, errOf (scanM x) = none) : ∀ t ∈ allToks isTok L ls, rightM t = true := by
  intro t ht
  obtain ⟨j, x, hx, hm⟩ := allToks_mem isTok ls L t ht
  exact kept_right (errOf_none (h x (List.mem_of_getElem? hx))) t hm
theorem tight_lines : ∀ (ls : List (List UInt8)) (L : Int) (o : Option Tok), (∀ x ∈ ls, errOf (scanM x) = none) → (∀ a, o = some a → rightM a = true) → ((joinTok needsM o (allToks isTok L ls)).length : Int) ≤ bytesM ls
  | [], L, o, _, _ => by simp [allToks, joinTok, bytesM]
  | x :: ls, L, o, h, ho => by
    have h1 := (tight_line L 0 x (errOf_none (h x (by simp))) o ho).1
    have h2 := tight_lines ls (L + 1) ((keptOf isTok L (scanM x)).getLast?.or o) (fun y hy => h y (by simp [hy])) (fun a ha => by
      cases hg : (keptOf isTok L (scanM x)).getLast? with
      | none => rw [hg] at ha; exact ho a (by simpa using ha)
      | some z =>
        rw [hg] at ha
        cases ha
        exact kept_right (errOf_none (h x (by simp))) _ (List.mem_of_getLast? hg))
    rw [scanM_eq] at h2
    simp only [allToks, scanM_eq, joinTok_append, List.length_append]
    have h3 : o.toList.length ≤ 1 := by cases o <;> simp
    simp only [bytesM, List.map_cons, List.sum_cons] at h2 ⊢
    push_cast
    omega
/-- The shortest text of a text's tokens is not longer. -/
theorem tight_len {s : List UInt8} (h0 : firstErr 1 (splitL 10 s) = none) : (joinTok needsM none (allToks isTok 1 (splitL 10 s))).length ≤ s.length := by
  have hall := firstErr_none h0
  have hb := bytesM_split 10 s
  have hf := splitL_front s
  rw [hf] at hall hb ⊢
  have h1 := (tight_line 1 0 (headLn s) (errOf_none (hall _ (by simp))) none (fun a ha => by cases ha)).1
  have h2 := tight_lines (tailLns s) (1 + 1) ((keptOf isTok 1 (scanM (headLn s))).getLast?.or none) (fun y hy => hall y (by simp [hy])) (fun a ha => by
    have hg : (keptOf isTok 1 (scanM (headLn s))).getLast? = some a := by simpa using ha
    exact kept_right (errOf_none (hall _ (by simp))) _ (List.mem_of_getLast? hg))
  rw [scanM_eq] at h2
  simp only [allToks, scanM_eq, joinTok_append, List.length_append]
  simp only [Option.toList, List.length_nil, Nat.add_zero] at h1
  simp only [bytesM, List.map_cons, List.sum_cons] at h2 hb
  omega
end Go.Plane
end
section
set_option linter.unnecessarySimpa false
set_option linter.unusedVariables false
set_option linter.unusedSimpArgs false
set_option maxRecDepth 100000
set_option maxHeartbeats 4000000
namespace Go.Plane
open Go Go.Proofs
attribute [local irreducible] wops wio wic wdt wdb onOut
theorem tokensM_6000 (s : List UInt8) : (tokensM s).1.length ≤ 6000 := by
  unfold tokensM
  split
  · simp
  · split
    · simp
    · rename_i h1 h2
      rw [readM_eq] at h2 ⊢
      cases hf : firstErr 1 (splitL 10 s) with
      | some e => simp
      | none =>
        rw [hf] at h2
        simp only [List.nil_append, true_and] at h2 ⊢
        omega
def sameM (a b : List UInt8) : Bool × Int :=
  if (tokensM a).2.2.2 ≠ 0 then (false, (tokensM a).2.2.2) else if (tokensM b).2.2.2 ≠ 0 then (false, (tokensM b).2.2.2) else (sameK (tokensM a).1 (tokensM b).1, 0)
theorem f_Same (a b : List UInt8) (ha : a.length ≤ 4294967296) (hb : b.length ≤ 4294967296) : F Γd 38 [.d (.str a), .d (.str b)] (.tup [.d (.bool (sameM a b).1), .d (.int .i64 (sameM a b).2)]) := by
  refine fn_of c38 rfl (by simp only [Env.of, List.zipIdx, List.map]; rfl) ?_
  have h1 := f_Tokens a ha
  have h2 := f_Tokens b hb
  have h3 := f_EqualFunc (tokensM a).1 (tokensM b).1 (by have := tokensM_6000 a; omega) (by have := tokensM_6000 b; omega)
  by_cases he : (tokensM a).2.2.2 = 0
  case neg =>
    have : sameM a b = (false, (tokensM a).2.2.2) := by unfold sameM; rw [if_pos he]
    rw [this]
    generalize tokensM a = A at *
    repeat' (first | ((with_reducible refine wcm ?_); first | refine cF (h1) ?_) | refine dr ?_ | (refine ds ?_ ?_ <;> intro hb) | ((with_reducible refine dbm ?_); first | exact db_nil | refine dbc ?_ ?_) | ((with_reducible refine natle ?_); first | assumption | omega | (simp; omega)))
    all_goals (simp; done)
  by_cases hf : (tokensM b).2.2.2 = 0
  case neg =>
    have : sameM a b = (false, (tokensM b).2.2.2) := by unfold sameM; rw [if_neg (by simp [he]), if_pos hf]
    rw [this]
    generalize tokensM a = A at *
    generalize tokensM b = B at *
    repeat' (first | ((with_reducible refine wcm ?_); first | refine cF (h1) ?_ | refine cF (h2) ?_) | refine dr ?_ | (refine ds ?_ ?_ <;> intro hb) | ((with_reducible refine dbm ?_); first | exact db_nil | refine dbc ?_ ?_) | ((with_reducible refine natle ?_); first | assumption | omega | (simp; omega)))
    all_goals (simp; done)
  have : sameM a b = (sameK (tokensM a).1 (tokensM b).1, 0) := by unfold sameM; rw [if_neg (by simp [he]), if_neg (by simp [hf])]
  rw [this]
  generalize tokensM a = A at *
  generalize tokensM b = B at *
  repeat' (first | ((with_reducible refine wcm ?_); first | refine cF (h1) ?_ | refine cF (h2) ?_ | refine cF (h3) ?_) | refine dr ?_ | (refine ds ?_ ?_ <;> intro hb) | ((with_reducible refine dbm ?_); first | exact db_nil | refine dbc ?_ ?_) | ((with_reducible refine natle ?_); first | assumption | omega | (simp; omega)))
  all_goals (simp; done)
theorem sum_le (l : List Tok) (B : Nat) (h : ∀ t ∈ l, t.s.length ≤ B) : (l.map fun t => t.s.length + 1).sum ≤ l.length * (B + 1) := by
  induction l with
  | nil => simp
  | cons t l ih =>
    have h1 := ih (fun u hu => h u (by simp [hu]))
    have h2 := h t (by simp)
    simp only [List.map_cons, List.sum_cons, List.length_cons, Nat.succ_mul]
    omega
theorem writeM_ok {bl : Tok → Tok → Bool} {l : List Tok} (h6 : l.length ≤ 6000) (hr : ∀ t ∈ l, rightM t = true) (hl : (joinTok bl none l).length ≤ 20000) : writeM bl l = (joinTok bl none l, 0) := by
  unfold writeM
  rw [if_neg (by omega), if_neg, if_neg (by omega)]
  rw [Bool.not_eq_true, List.any_eq_false]
  intro t ht
  rw [hr t ht]
  simp
/-- **LexTightest.** -/
theorem law_Tightest (s : List UInt8) : F Γd 10 [.d (.str s)] (.d (.bool true)) := by
  refine fn_of c10 rfl (by simp only [Env.of, List.zipIdx, List.map]; rfl) ?_
  have hsan := f_sanity
  by_cases hs : 400 < s.length
  · repeat' (first | ((with_reducible refine wcm ?_); first | refine cF (hsan) ?_) | refine dr ?_ | (refine ds ?_ ?_ <;> intro hb) | ((with_reducible refine dbm ?_); first | exact db_nil | refine dbc ?_ ?_) | ((with_reducible refine natle ?_); first | assumption | omega | (simp; omega)))
    all_goals (simp; done)
  have hT := f_Tokens s (by omega)
  have hTe := tokensM_eq (s := s) (by omega)
  have hTl := tokensM_len (s := s) (by omega)
  cases hfe : firstErr 1 (splitL 10 s) with
  | some e =>
    rw [hfe] at hTe
    rw [hTe] at hT
    have hne := firstErr_ne _ _ _ hfe
    simp only [readP, toksD, List.map_nil] at hT
    clear hTe hTl
    repeat' (first | ((with_reducible refine wcm ?_); first | refine cF (hT) ?_ | refine cF (hsan) ?_) | refine dr ?_ | (refine ds ?_ ?_ <;> intro hb) | ((with_reducible refine dbm ?_); first | exact db_nil | refine dbc ?_ ?_) | ((with_reducible refine natle ?_); first | assumption | omega | (simp; omega)))
    all_goals (simp; done)
  | none =>
    rw [hfe] at hTe
    rw [hTe] at hT hTl
    simp only at hTl
    have hright := allToks_right (L := 1) (firstErr_none hfe)
    have hlen := tight_len hfe
    have htl : ∀ t ∈ allToks isTok 1 (splitL 10 s), t.s.length ≤ 400 := fun t ht => by
      obtain ⟨n, _, _, _, h4⟩ := tok_of hfe ht
      omega
    have hsum := sum_le _ 400 htl
    have hW := f_Tight (allToks isTok 1 (splitL 10 s)) (by omega) (by omega) (fun t ht => by have := htl t ht; omega)
    rw [writeM_ok (by omega) hright (by omega)] at hW
    have hjt := tokens_join (bl := needsM) (fun _ _ _ _ h => h) hright (by omega) (by omega)
    have hS := f_Same s (joinTok needsM none (allToks isTok 1 (splitL 10 s))) (by omega) (by omega)
    have hsm : sameM s (joinTok needsM none (allToks isTok 1 (splitL 10 s))) = (true, 0) := by
      unfold sameM
      rw [hTe, hjt.1]
      simp only [ne_eq, not_true, if_false]
      congr 1
      exact decide_eq_true hjt.2.symm
    rw [hsm] at hS
    simp only [readP, textP] at hT hW hS
    clear hsm hjt hsum htl hright hTe hfe
    generalize joinTok needsM none (allToks isTok 1 (splitL 10 s)) = w at *
    generalize allToks isTok 1 (splitL 10 s) = l at *
    repeat' (first | ((with_reducible refine wcm ?_); first | refine cF (hT) ?_ | refine cF (hW) ?_ | refine cF (hS) ?_ | refine cF (hsan) ?_) | refine dr ?_ | (refine ds ?_ ?_ <;> intro hb) | ((with_reducible refine dbm ?_); first | exact db_nil | refine dbc ?_ ?_) | ((with_reducible refine natle ?_); first | assumption | omega | (simp; omega)))
    all_goals (simp; done)
end Go.Plane
end
